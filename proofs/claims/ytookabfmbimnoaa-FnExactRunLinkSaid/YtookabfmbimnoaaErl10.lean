/- What the walks of this claim need: printed by a program of this session (wip/pack.py) out of the session's texts and of the words that the kit's print.sh lays; under no condition beyond those in each theorem. Lean checks it. -/
import Derived.Test.YtookabfmbimnoaaErl9
import Derived.Deep.Matrix
namespace Go.Proofs.Ytookabfmbimnoaa.Lk
open Go.RowKit Go.Proofs.YtookabfmbimnoaaW.PrintWords
set_option linter.unusedVariables false

theorem rows_came {k : IntKind} {q : Nat} {W : World} {base : Nat} {a : Addr} {len cap : Nat} {A : Nat → Option Addr} {L C : Nat → Nat} {Z : Nat → List Int} (hl : len ≤ cap) (hm : cap ≤ maxLen)
    (h : ∀ r, r < cap → W.cell? (a.add r) = some (.slice (A r) (L r) (C r)) ∧ L r ≤ C r ∧ C r ≤ maxLen ∧ (Z r).length = C r ∧ (∀ n ∈ Z r, (Lit.int k n).wf = true) ∧ (A r = none → C r = 0) ∧
        ∀ a', A r = some a' → base ≤ a'.block ∧ ∀ c, c < C r → W.cell? (a'.add c) = some (.int k ((Z r).getD c 0))) :
    ∃ l : List (List Int), l.length = len ∧ Kd.C (Kd.slice q (Kd.int k)) W (some a) l.length l ∧ ∀ b ∈ l, b.length ≤ maxLen ∧ ∀ x ∈ b, (Lit.int k x).wf = true := by
  have hlen : ((List.range len).map fun r => (Z r).take (L r)).length = len := by simp
  refine ⟨(List.range len).map fun r => (Z r).take (L r), hlen, ⟨rfl, by rw [hlen]; unfold maxLen at hm; omega, fun _ => ⟨a, rfl, fun j p hj => ?_⟩⟩, fun b hb => ?_⟩
  · rw [List.getElem?_map] at hj
    obtain ⟨r, hr, rfl⟩ := Option.map_eq_some_iff.1 hj
    obtain ⟨hrl, hre⟩ := List.getElem?_eq_some_iff.1 hr
    rw [List.getElem_range] at hre
    subst hre
    rw [List.length_range] at hrl
    obtain ⟨h1, h2, h3, h4, h5, h6, h7⟩ := h j (by omega)
    have hpl : ((Z j).take (L j)).length = L j := by rw [List.length_take]; omega
    refine ⟨[.slice (A j) (L j) (C j)], rfl, ⟨A j, C j, by rw [hpl], by rw [hpl]; exact h2, ?_⟩, fun i u hu => ?_⟩
    · refine Kd.C_of_reads (d := (0 : Int)) (h1 := fun _ => rfl) ⟨rfl, by rw [hpl]; unfold maxLen at h3; omega, fun hp => ?_⟩
      rw [hpl] at hp
      rcases hA : A j with _ | a'
      · have := h6 hA; omega
      · refine ⟨a', rfl, fun c hc => ?_⟩
        rw [hpl] at hc
        rw [((h7 a' hA).2 c (by omega))]
        congr 2
        rw [List.getD_eq_getElem?_getD, List.getD_eq_getElem?_getD, List.getElem?_take, if_pos hc]
    · cases i with
      | zero =>
        have hu' : Value.slice (A j) (L j) (C j) = u := by simpa using hu
        rw [← hu']
        have e1 : j * (Kd.slice q (Kd.int k)).sz + 0 = j := Nat.mul_one j
        rw [e1]
        exact h1
      | succ i => simp at hu
  · obtain ⟨r, hr, rfl⟩ := List.mem_map.1 hb
    rw [List.mem_range] at hr
    obtain ⟨h1, h2, h3, h4, h5, h6, h7⟩ := h r (by omega)
    exact ⟨by rw [List.length_take]; omega, fun x hx => h5 x (List.mem_of_mem_take hx)⟩
end Go.Proofs.Ytookabfmbimnoaa.Lk
