/- What the walks of this claim need: printed by a program of this session (wip/pack.py) out of the session's texts and of the words that the kit's print.sh lays; under no condition beyond those in each theorem. Lean checks it. -/
import Derived.Test.YtookabfmbimnoaaErl5
import Derived.Sort.LotA
namespace Go.Proofs.Ytookabfmbimnoaa.Lk
open Go.RowKit Go.Proofs.YtookabfmbimnoaaW.PrintWords Go.Proofs.YtookabfmbimnoaaW.PrintLast Go.Proofs.YtookabfmbimnoaaW.PrintMore
open Go.Sort
set_option linter.unusedVariables false
set_option linter.unusedSimpArgs false

theorem lt_cmpA (x y : Int × Int) : ltOf cmpA x y = decide (x.1 < y.1 ∨ (x.1 = y.1 ∧ x.2 < y.2)) := by
  unfold ltOf cmpA orI cmpI
  apply decide_eq_decide.2
  repeat' split
  all_goals (constructor <;> intro h <;> omega)
theorem swo_cmpA : SWO (ltOf cmpA) where
  irrefl x := by rw [lt_cmpA]; simp
  trans x y z := by rw [lt_cmpA, lt_cmpA, lt_cmpA]; simp only [decide_eq_true_eq]; omega
  ntrans x y z := by rw [lt_cmpA, lt_cmpA, lt_cmpA]; simp only [decide_eq_false_iff_not]; omega
def sortA (xs : List (Int × Int)) : List (Int × Int) := (Sort.insertionSort (ltOf cmpA) xs.toArray 0 xs.toArray.size).toList
theorem sortA_length (xs : List (Int × Int)) : (sortA xs).length = xs.length := by
  have h := (insertionSort_holds swo_cmpA xs.toArray 0 xs.toArray.size (Nat.zero_le _) (Nat.le_refl _)).1.1
  unfold sortA
  rw [Array.length_toList, h]
  simp
theorem sortA_merge (xs : List (Int × Int)) : sortA xs = xs.mergeSort (fun x y => !(ltOf cmpA y x)) := by
  have h := insertionSort_holds swo_cmpA xs.toArray 0 xs.toArray.size (Nat.zero_le _) (Nat.le_refl _)
  have h2 := sorted_unique_holds swo_cmpA (fun x y hx hy => by
    rw [lt_cmpA] at hx hy
    simp only [decide_eq_false_iff_not] at hx hy
    exact Prod.ext (by omega) (by omega)) xs.toArray _ h.1 h.2
  simpa [sortA] using h2
theorem kdA_own {w : World} {base : Nat} {ok : Nat → Prop} {v : Value} {xs : List (Int × Int)} (h : kdA.R 91 w base ok v xs) : w.ownsRow base 91 2 v xs.length (flatA xs) := by
  obtain ⟨_, inner, ho, hr⟩ := h
  have : inner = flatA xs := by
    have key : ∀ (xs : List (Int × Int)) (inner : List Value) (R : Int × Int → List Value → Prop), (∀ x cs, R x cs → cs = encA x) → Reps R 2 xs inner → inner = flatA xs := by
      intro xs
      induction xs with
      | nil =>
        intro inner R hR h
        exact List.eq_nil_of_length_eq_zero (by simpa using h.1)
      | cons x xs ih =>
        intro inner R hR h
        have h0 := hR _ _ (h.2 0 x rfl)
        have h1 : inner.drop 2 = flatA xs := by
          refine ih _ R hR ⟨by rw [List.length_drop, h.1]; simp; omega, fun j p hj => ?_⟩
          have := h.2 (j + 1) p (by simpa using hj)
          rwa [List.drop_drop, show 2 + j * 2 = (j + 1) * 2 by omega]
        have h2 : inner = inner.take 2 ++ inner.drop 2 := (List.take_append_drop 2 inner).symm
        rw [h2, h1]
        have h3 : inner.take 2 = encA x := by simpa using h0
        rw [h3]
        simp [flatA]
    refine key xs inner _ (fun x cs hc => ?_) hr
    obtain ⟨c0, c1, rfl, h0, h1⟩ := hc
    have h0' : c0 = [.int .i64 x.1] := h0
    have h1' : c1 = [.int .i64 x.2] := h1
    rw [h0', h1']
    rfl
  rw [← this]
  exact ho
theorem kdA_of_own {w : World} {base : Nat} {ok : Nat → Prop} {v : Value} {xs : List (Int × Int)} (h : w.ownsRow base 91 2 v xs.length (flatA xs)) (hok : ∀ k, v.ownBlock = some k → ok k) : kdA.R 91 w base ok v xs := by
  refine ⟨hok, flatA xs, h, ?_, fun j p hj => ?_⟩
  · rw [flatA_length]; rfl
  · have key : ∀ (xs : List (Int × Int)) (j : Nat), xs[j]? = some p → ((flatA xs).drop (j * 2)).take 2 = encA p := by
      intro xs
      induction xs with
      | nil => intro j hj; simp at hj
      | cons x xs ih =>
        intro j hj
        cases j with
        | zero =>
          simp only [List.getElem?_cons_zero, Option.some.injEq] at hj
          subst hj
          rfl
        | succ j =>
          rw [show (j + 1) * 2 = 2 + j * 2 by omega, ← List.drop_drop]
          exact ih j (by simpa using hj)
    rw [show kdA.sz = 2 from rfl, key xs j hj]
    exact ⟨[.int .i64 p.1], [.int .i64 p.2], rfl, rfl, rfl⟩
theorem insertion99_nil (w : World) : Calls Try.prog 99 #[.slice none 0 0, .int .i64 0, .int .i64 0, .func (.func 82) #[] #[]] w fun e w' => e = .returned (.tuple #[]) ∧ w' = w := by
  go_enter Try.func99, Try.ntmps99
  go_wp2
  refine wp_loop_rounds 1 ?_
  rw [rounds_succ]
  go_wp2
  go_end0
  exact ⟨rfl, rfl⟩
theorem stable94_nil (w : World) : Calls Try.prog 94 #[.slice none 0 0, .int .i64 0, .func (.func 82) #[] #[]] w fun e w' => e = .returned (.tuple #[]) ∧ w' = w := by
  go_enter Try.func94, Try.ntmps94
  go_wp2
  refine wp_loop_rounds 1 ?_
  rw [rounds_succ]
  go_wp2_with (go_at_call 99; refine (insertion99_nil _).mono ?_; rintro e w' ⟨rfl, rfl⟩)
  refine wp_loop_rounds 1 ?_
  rw [rounds_succ]
  go_wp2
  go_end0
  exact ⟨rfl, rfl⟩
theorem sortStable81_nil (w : World) : Calls Try.prog 81 #[.slice none 0 0, .func (.func 82) #[] #[]] w fun e w' => e = .returned (.tuple #[]) ∧ w' = w := by
  go_enter Try.func81, Try.ntmps81
  go_wp2_with (go_at_call 94; refine (stable94_nil _).mono ?_; rintro e w' ⟨rfl, rfl⟩)
  go_end0
  exact ⟨rfl, rfl⟩
/-- The sort at a row of the call's own. -/
theorem sort_ok (v : Value) (xs : List (Int × Int)) (base : Nat) (w : World) (h : kdA.R 91 w base (fun _ => True) v xs) (hl : xs.length ≤ 19) :
    Calls Try.prog 81 #[v, .func (.func 82) #[] #[]] w fun e w' => e = .returned (.tuple #[]) ∧ kdA.R 91 w' base (fun _ => True) v (sortA xs) ∧ Below base w w' := by
  have ho := kdA_own h
  rcases ho.2 with ⟨rfl, h0⟩ | ⟨g, cap, cur, rfl, hg, hh, hle, hcm, hsz, htk⟩
  · obtain rfl : xs = [] := List.eq_nil_of_length_eq_zero h0
    refine (sortStable81_nil w).mono ?_
    rintro e w' ⟨rfl, rfl⟩
    exact ⟨rfl, by rw [show sortA [] = [] from List.eq_nil_of_length_eq_zero (sortA_length [])]; exact h, Below.refl _ _⟩
  · obtain ⟨hH, hblk⟩ := own_holdsA ho
    have hl1 : xs.length = xs.toArray.size := by simp
    have hc := sortStable81 g 0 cap xs.toArray w hH hblk (by simpa using hl)
    rw [← hl1] at hc
    refine hc.mono ?_
    rintro e w' ⟨rfl, n, os, rfl⟩
    have e1 : Sort.insertionSort (ltOf cmpA) xs.toArray 0 xs.length = (sortA xs).toArray := by simp [sortA]
    rw [e1]
    refine ⟨rfl, ?_, (Below.refl base w).grown (sorted_grown hblk n _ os) (by omega) (fun k hk => by injection hk with hk; omega)⟩
    have hs := sorted_own ho n os (sortA_length xs)
    rw [sortA_length] at hs
    exact kdA_of_own (by rw [sortA_length]; exact hs) (fun _ _ => trivial)
end Go.Proofs.Ytookabfmbimnoaa.Lk

namespace Go.Proofs.Ytookabfmbimnoaa.Lk
open Go.RowKit Go.Proofs.YtookabfmbimnoaaW.PrintWords Go.Proofs.YtookabfmbimnoaaW.PrintLast Go.Proofs.YtookabfmbimnoaaW.PrintMore
set_option linter.unusedVariables false
set_option linter.unusedSimpArgs false

theorem info91 : (Try.prog.info? 91).map (fun i => (i.zero, i.size, i.bytes)) = some (some (.agg #[.int .i64 0, .int .i64 0]), 2, 16) := by kernel_rfl
/-- What comes of message i, whose fate is f. -/
def arrOf (f : Int) (i : Nat) : List (Int × Int) := if f = 1 then [] else if f = 2 then [(2 * (i : Int), (i : Int)), (2 * (i : Int), (i : Int))] else if f = 3 then [(2 * (i : Int) + 3, (i : Int))] else [(2 * (i : Int), (i : Int))]
def fateN (l : List Int) (i : Nat) : Int := if i < l.length then rd l i else 0
def arrList (l : List Int) (n : Nat) : List (Int × Int) := (List.range n).flatMap fun i => arrOf (fateN l i) i
theorem arrList_succ (l : List Int) (n : Nat) : arrList l (n + 1) = arrList l n ++ arrOf (fateN l n) n := by simp [arrList, List.range_succ]
theorem arrOf_length (f : Int) (i : Nat) : (arrOf f i).length ≤ 2 := by
  unfold arrOf
  repeat' split
  all_goals simp
theorem arrList_length (l : List Int) : ∀ n, (arrList l n).length ≤ 2 * n
  | 0 => by simp [arrList]
  | n + 1 => by
    rw [arrList_succ, List.length_append]
    have := arrList_length l n
    have := arrOf_length (fateN l n) n
    omega
theorem fate_fateN (l : List Int) (i : Nat) : impl_fate.f l (i : Int) = some (fateN l i) := by
  unfold impl_fate.f fateN
  by_cases h : i < l.length
  · rw [if_pos (by omega), if_pos (by omega), if_pos h]
  · rw [if_neg (by omega), if_neg h]
def arrivals (l : List Int) (n : Nat) : List Int := (sortA (arrList l n)).map (·.2)
set_option maxHeartbeats 8000000 in
set_option maxRecDepth 100000 in
theorem ArrivalsOf_ok (A0 : Option Addr) (c0 : Nat) (l0 : List Int) (n : Nat) (w : World) (hr0 : Kd.C (Kd.int .i64) w A0 l0.length l0) (hc0 : l0.length ≤ c0) (hf : fatesOk l0 = true) (hn : n ≤ 9) :
    Calls Try.prog 69 #[.slice A0 l0.length c0, .int .i64 n] w fun e w' => ∃ v0_ : Value, e = .returned v0_ ∧ Kd.R (Kd.int .i64) 3 w' w.heap.size (fun _ => True) v0_ (arrivals l0 n) ∧ Below w.heap.size w w' := by
  have HC := Aside0.mk (canSend_ok A0 c0 l0 n w hr0 hc0 hf (by omega) (by omega))
  have HR0 := Aside0.mk hr0
  have HC0 := Aside0.mk hc0
  have HN := Aside0.mk hn
  clear hr0 hc0 hf hn
  have HB := Aside0.mk (Below.refl w.heap.size w)
  go_enter Try.func69, Try.ntmps69
  go_wp2_with (first
      | (go_at_call 66; (with_reducible refine (HC.out).mono ?_); rintro e w' ⟨rfl, hb⟩; have n_ := Aside0.mk (below_step HB.out hb); clear HB; have HB := n_; clear n_ hb))
  go_loopg [5, 13] n (fun kq v5 v13 w' => ∃ j : Nat, v13 = .int .i64 (j : Int) ∧ Aside0 (j + kq = n) ∧ Aside0 (Kd.R kdA 91 w' w.heap.size (fun _ => True) v5 (arrList l0 j)) ∧ Aside0 (Below w.heap.size w w'))
  case atStart => exact ⟨0, rfl, ⟨by simp⟩, ⟨Kd.R_nil _ _ _ _ _⟩, ⟨(by repeat (first | (with_reducible first | exact HB.out | apply below_alloc | apply pw_below_drewN | apply below_drew1) | exact HB.out))⟩⟩
  case round =>
    clear HB
    obtain ⟨j, rfl, HJ, HO, HB⟩ := hrel
    cases gk with
    | zero =>
      have hj : j = n := by have := HJ.out; omega
      subst hj
      have c1 : decide ((j : Int) < j) = false := decide_eq_false (by omega)
      have HLL := Aside0.mk (arrList_length l0 j)
      obtain ⟨A5, C5, rfl⟩ := Kd.R_slice HO.out
      go_wp2_with fail
      refine (sort_ok _ (arrList l0 j) w.heap.size _ ?s0 ?s1).mono ?_
      case s0 => exact HO.out
      case s1 => have := HLL.out; have := HN.out; omega
      rintro e w' ⟨rfl, hs, hb⟩
      have HL2 := Aside0.mk (show (sortA (arrList l0 j)).length ≤ 1000 by rw [sortA_length]; have := HLL.out; have := HN.out; omega)
      clear HC HJ HLL
      replace HB := Aside0.mk (HB.out.trans hb)
      clear hb HO
      go_wp2_with fail
      obtain ⟨hq1, hq2, hq3⟩ := Kd.R_reads' hs
      rw [hq1] at hq2 ⊢
      refine (mapped85 A5 C5 (sortA (arrList l0 j)) w' hq3 hq2 HL2.out).mono ?_
      rintro e w2 ⟨v2, rfl, ho, hb⟩
      clear hq1 hq2 hq3 hs
      replace ho := Aside0.mk (Kd.R_lower ho (below_size HB.out))
      replace HB := Aside0.mk (below_step HB.out hb)
      clear hb
      go_wp2_with fail
      go_ret
      exact ⟨_, rfl, ho.out, HB.out⟩
    | succ k1 =>
      have hj : j < n := by have := HJ.out; omega
      have c1 : decide ((j : Int) < n) = true := decide_eq_true (by omega)
      have HF := Aside0.mk (fate_fateN l0 j)
      have HS := Aside0.mk (arrList_succ l0 j)
      have HLL := Aside0.mk (show (arrList l0 j).length ≤ 1000 by have := arrList_length l0 j; have := HN.out; omega)
      have HLL2 := Aside0.mk (show (arrList l0 j ++ [(2 * (j : Int), (j : Int))]).length ≤ 1001 by have := HLL.out; simp; omega)
      have hw2 : wrap64 (2 * (j : Int)) = 2 * j := IntWalk.wrap64_in _ (by have := HN.out; omega)
      have hw3 : wrap64 (2 * (j : Int) + 3) = 2 * j + 3 := IntWalk.wrap64_in _ (by have := HN.out; omega)
      have hw1 : wrap64 ((j : Int) + 1) = ((j + 1 : Nat) : Int) := by rw [IntWalk.wrap64_in _ (by have := HN.out; omega)]; simp
      have HNE := Aside0.mk (show some wr.heap.size ≠ Value.ownBlock u5 from fun e => by obtain ⟨_, h⟩ := Kd.R_own HO.out; have := own_lt h _ e.symm; omega)
      generalize fateN l0 j = f at HF HS
      by_cases f1 : f = 1
      · subst f1
        go_wp2_with (go_at_call 71; (with_reducible refine (impl_fate.calls _ _ l0 (j : Int) _ _ ?s0 HC0.out HF.out).mono ?_); (case s0 => repeat (first | exact (Kd.C_below HR0.out HB.out) | (with_reducible refine Kd.C_alloc ?_ _) | (with_reducible refine Kd.C_drewN ?_ _) | (with_reducible refine Kd.C_drew ?_))); rintro e w' ⟨rfl, ⟨nd, rfl⟩⟩)
        go_roundg k1
        case measure => omega
        case rel => exact ⟨j + 1, by rw [hw1], ⟨by have := HJ.out; omega⟩, ⟨by rw [HS.out, show arrOf 1 j = [] from rfl, List.append_nil]; exact (by (with_reducible repeat (first | apply Kd.R_alloc | apply Kd.R_drewN | apply Kd.R_drew)); exact HO.out)⟩, ⟨(by repeat (first | (with_reducible first | exact HB.out | apply below_alloc | apply pw_below_drewN | apply below_drew1) | exact HB.out))⟩⟩
      have e1 : (f == 1) = false := beq_eq_false_iff_ne.mpr f1
      by_cases f2 : f = 2
      · subst f2
        go_wp2_with (first
      | (go_at_call 71; (with_reducible refine (impl_fate.calls _ _ l0 (j : Int) _ _ ?s0 HC0.out HF.out).mono ?_); (case s0 => repeat (first | exact (Kd.C_below HR0.out HB.out) | (with_reducible refine Kd.C_alloc ?_ _) | (with_reducible refine Kd.C_drewN ?_ _) | (with_reducible refine Kd.C_drew ?_))); rintro e w' ⟨rfl, ⟨nd, rfl⟩⟩)
      | ((with_reducible refine gate_builtin (b := .append) (xs := #[.tmp 27, .tmp 29]) rfl ?_); at_builtin; refine Kd.R_append (kdA) (w0 := w) w.heap.size rfl (.tmp 27) (.tmp 29) 89 91 (.agg #[.int .i64 0, .int .i64 0]) 16 rfl Try.underlying89 info91 rfl (by decide) (by omega) u5 (arrList l0 j) (2 * (j : Int), (j : Int)) [.int .i64 (2 * (j : Int)), .int .i64 (j : Int)] (fun _ => True) (fun _ => False) rfl (by first | rfl | (show Value.slice _ 1 1 = _; simp)) ?aP (fun _ hk => hk.elim) ?aF ?aO ?aB ?aS ?aL ?_; (case aP => exact ⟨[_], [_], rfl, rfl, rfl⟩); (case aB => exact (by repeat (first | (with_reducible first | exact HB.out | apply below_alloc | apply pw_below_drewN | apply below_drew1) | exact HB.out))); (case aF => exact (fun _ _ => trivial)); (case aO => exact (by (with_reducible repeat (first | apply Kd.R_alloc | apply Kd.R_drewN | apply Kd.R_drew)); exact HO.out)); (case aS => exact (below_size (by repeat (first | (with_reducible first | exact HB.out | apply below_alloc | apply pw_below_drewN | apply below_drew1) | exact HB.out)))); (case aL => have := HLL.out; first | omega | (simp; omega) | (simp at *; omega)); intro v2 w8 ho hb hg hat; have n0_ := Aside0.mk (hb); have n1_ := Aside0.mk (ho); have hbk := hg.block wr.heap.size (by simp) HNE.out; have hx0 : w8.cell? ⟨wr.heap.size, 0, none⟩ = some (.int .i64 (2 * (j : Int))) := (World.cell?_of_block hbk).trans (by simp); have hx1 : w8.cell? ⟨wr.heap.size, 0 + 1, none⟩ = some (.int .i64 (j : Int)) := (World.cell?_of_block hbk).trans (by simp); clear hbk; clear HB; clear HO; have HB := n0_; have HO2 := n1_; clear n0_ n1_; clear ho hb hg hat)
      | ((with_reducible refine gate_builtin (b := .append) (xs := #[.tmp 37, .tmp 39]) rfl ?_); at_builtin; refine Kd.R_append (kdA) (w0 := w) w.heap.size rfl (.tmp 37) (.tmp 39) 89 91 (.agg #[.int .i64 0, .int .i64 0]) 16 rfl Try.underlying89 info91 rfl (by decide) (by omega) v2 (arrList l0 j ++ [(2 * (j : Int), (j : Int))]) (2 * (j : Int), (j : Int)) [.int .i64 (2 * (j : Int)), .int .i64 (j : Int)] (fun _ => True) (fun _ => False) rfl (by first | rfl | (show Value.slice _ 1 1 = _; simp)) ?aP (fun _ hk => hk.elim) ?aF ?aO ?aB ?aS ?aL ?_; (case aP => exact ⟨[_], [_], rfl, rfl, rfl⟩); (case aB => exact (by repeat (first | (with_reducible first | exact HB.out | apply below_alloc | apply pw_below_drewN | apply below_drew1) | exact HB.out))); (case aF => exact (fun _ _ => trivial)); (case aO => exact (by (with_reducible repeat (first | apply Kd.R_alloc | apply Kd.R_drewN | apply Kd.R_drew)); exact HO2.out)); (case aS => exact (below_size (by repeat (first | (with_reducible first | exact HB.out | apply below_alloc | apply pw_below_drewN | apply below_drew1) | exact HB.out)))); (case aL => have := HLL2.out; first | omega | (simp; omega) | (simp at *; omega)); intro v3 w8 ho hb hg hat; have n0_ := Aside0.mk (hb); have n1_ := Aside0.mk (ho); clear HB; clear HO2; have HB := n0_; have HO3 := n1_; clear n0_ n1_; clear ho hb hg hat))
        go_roundg k1
        case measure => omega
        case rel => exact ⟨j + 1, by rw [hw1], ⟨by have := HJ.out; omega⟩, ⟨by rw [HS.out, show arrOf 2 j = [(2 * (j : Int), (j : Int))] ++ [(2 * (j : Int), (j : Int))] from rfl, ← List.append_assoc]; exact HO3.out⟩, ⟨(by repeat (first | (with_reducible first | exact HB.out | apply below_alloc | apply pw_below_drewN | apply below_drew1) | exact HB.out))⟩⟩
      have e2 : (f == 2) = false := beq_eq_false_iff_ne.mpr f2
      by_cases f3 : f = 3
      · subst f3
        go_wp2_with (first
      | (go_at_call 71; (with_reducible refine (impl_fate.calls _ _ l0 (j : Int) _ _ ?s0 HC0.out HF.out).mono ?_); (case s0 => repeat (first | exact (Kd.C_below HR0.out HB.out) | (with_reducible refine Kd.C_alloc ?_ _) | (with_reducible refine Kd.C_drewN ?_ _) | (with_reducible refine Kd.C_drew ?_))); rintro e w' ⟨rfl, ⟨nd, rfl⟩⟩)
      | ((with_reducible refine gate_builtin (b := .append) (xs := #[.tmp 37, .tmp 39]) rfl ?_); at_builtin; refine Kd.R_append (kdA) (w0 := w) w.heap.size rfl (.tmp 37) (.tmp 39) 89 91 (.agg #[.int .i64 0, .int .i64 0]) 16 rfl Try.underlying89 info91 rfl (by decide) (by omega) u5 (arrList l0 j) (2 * (j : Int) + 3, (j : Int)) [.int .i64 (2 * (j : Int) + 3), .int .i64 (j : Int)] (fun _ => True) (fun _ => False) rfl (by first | rfl | (show Value.slice _ 1 1 = _; simp)) ?aP (fun _ hk => hk.elim) ?aF ?aO ?aB ?aS ?aL ?_; (case aP => exact ⟨[_], [_], rfl, rfl, rfl⟩); (case aB => exact (by repeat (first | (with_reducible first | exact HB.out | apply below_alloc | apply pw_below_drewN | apply below_drew1 | refine below_set ?_ (by have := HB.out.size; omega)) | exact HB.out))); (case aF => exact (fun _ _ => trivial)); (case aO => exact (Kd.R_below HO.out (by repeat (with_reducible first | exact Below.refl _ _ | apply below_alloc | apply pw_below_drewN | refine below_set ?_ (Nat.le_refl _))))); (case aS => exact (below_size (by repeat (first | (with_reducible first | exact HB.out | apply below_alloc | apply pw_below_drewN | apply below_drew1 | refine below_set ?_ (by have := HB.out.size; omega)) | exact HB.out)))); (case aL => have := HLL.out; first | omega | (simp; omega) | (simp at *; omega)); intro v2 w8 ho hb hg hat; have n0_ := Aside0.mk (hb); have n1_ := Aside0.mk (ho); clear HB; clear HO; have HB := n0_; have HO2 := n1_; clear n0_ n1_; clear ho hb hg hat))
        go_roundg k1
        case measure => omega
        case rel => exact ⟨j + 1, by rw [hw1], ⟨by have := HJ.out; omega⟩, ⟨by rw [HS.out, show arrOf 3 j = [(2 * (j : Int) + 3, (j : Int))] from rfl]; exact HO2.out⟩, ⟨(by repeat (first | (with_reducible first | exact HB.out | apply below_alloc | apply pw_below_drewN | apply below_drew1) | exact HB.out))⟩⟩
      have e3 : (f == 3) = false := beq_eq_false_iff_ne.mpr f3
      · go_wp2_with (first
      | (go_at_call 71; (with_reducible refine (impl_fate.calls _ _ l0 (j : Int) _ _ ?s0 HC0.out HF.out).mono ?_); (case s0 => repeat (first | exact (Kd.C_below HR0.out HB.out) | (with_reducible refine Kd.C_alloc ?_ _) | (with_reducible refine Kd.C_drewN ?_ _) | (with_reducible refine Kd.C_drew ?_))); rintro e w' ⟨rfl, ⟨nd, rfl⟩⟩)
      | ((with_reducible refine gate_builtin (b := .append) (xs := #[.tmp 37, .tmp 39]) rfl ?_); at_builtin; refine Kd.R_append (kdA) (w0 := w) w.heap.size rfl (.tmp 37) (.tmp 39) 89 91 (.agg #[.int .i64 0, .int .i64 0]) 16 rfl Try.underlying89 info91 rfl (by decide) (by omega) u5 (arrList l0 j) (2 * (j : Int), (j : Int)) [.int .i64 (2 * (j : Int)), .int .i64 (j : Int)] (fun _ => True) (fun _ => False) rfl (by first | rfl | (show Value.slice _ 1 1 = _; simp)) ?aP (fun _ hk => hk.elim) ?aF ?aO ?aB ?aS ?aL ?_; (case aP => exact ⟨[_], [_], rfl, rfl, rfl⟩); (case aB => exact (by repeat (first | (with_reducible first | exact HB.out | apply below_alloc | apply pw_below_drewN | apply below_drew1) | exact HB.out))); (case aF => exact (fun _ _ => trivial)); (case aO => exact (by (with_reducible repeat (first | apply Kd.R_alloc | apply Kd.R_drewN | apply Kd.R_drew)); exact HO.out)); (case aS => exact (below_size (by repeat (first | (with_reducible first | exact HB.out | apply below_alloc | apply pw_below_drewN | apply below_drew1) | exact HB.out)))); (case aL => have := HLL.out; first | omega | (simp; omega) | (simp at *; omega)); intro v2 w8 ho hb hg hat; have n0_ := Aside0.mk (hb); have n1_ := Aside0.mk (ho); clear HB; clear HO; have HB := n0_; have HO2 := n1_; clear n0_ n1_; clear ho hb hg hat))
        go_roundg k1
        case measure => omega
        case rel => exact ⟨j + 1, by rw [hw1], ⟨by have := HJ.out; omega⟩, ⟨by rw [HS.out, show arrOf f j = [(2 * (j : Int), (j : Int))] by unfold arrOf; rw [if_neg f1, if_neg f2, if_neg f3]]; exact HO2.out⟩, ⟨(by repeat (first | (with_reducible first | exact HB.out | apply below_alloc | apply pw_below_drewN | apply below_drew1) | exact HB.out))⟩⟩
end Go.Proofs.Ytookabfmbimnoaa.Lk

namespace Go.Proofs.Ytookabfmbimnoaa.Lk
open Go.RowKit Go.Proofs.YtookabfmbimnoaaW.PrintWords Go.Proofs.YtookabfmbimnoaaW.PrintLast Go.Proofs.YtookabfmbimnoaaW.PrintMore
set_option linter.unusedVariables false
set_option linter.unusedSimpArgs false

theorem l1In_ok (n lo hi : Int) : spec_l1In.f n lo hi = some (decide (lo ≤ n) && decide (n ≤ hi)) := by
  unfold spec_l1In.f
  by_cases h : lo ≤ n <;> simp [h]

theorem R_empty (W : World) (base : Nat) (hb : base ≤ W.heap.size) : Kd.R (Kd.int .u8) 5 (W.alloc (.cells #[] 5)) base (fun _ => True) (.slice (some ⟨W.heap.size, 0, none⟩) 0 0) [] :=
  ⟨fun _ _ => trivial, [], (show (W.alloc (.cells #[] 5)).ownsRow base 5 1 (.slice (some ⟨W.heap.size, 0, none⟩) 0 0) 0 [] from by simpa [nums] using own_lit W base 5 .u8 [] hb (by simp)), Reps.none _ _⟩

/-- What a packet without its check tells. -/
def unpk (p : List Int) : Option (Int × Int × List Int × Bool) :=
  match p with
  | [] => some (0, 0, [], false)
  | x :: xs => if 0 ≤ x ∧ x ≤ 255 then
      (if (1 ≤ x / 16 ∧ x / 16 ≤ 2) ∧ ¬ (x / 16 = 2 ∧ xs ≠ []) then some (x / 16, x % 16, xs, true) else some (0, 0, [], false)) else none

def impl_UnpackLink.f (k : Nat) (l0 : List Int) : Option (Int × Int × List Int × Bool) :=
  (impl_CutCrc.f k l0).bind fun p => if p.2 = true then unpk p.1 else some (0, 0, [], false)
theorem impl_CutCrc.short {k : Nat} {l0 p : List Int} {b : Bool} (h : impl_CutCrc.f k l0 = some (p, b)) : p.length ≤ 600 := by
  unfold impl_CutCrc.f at h
  split at h
  · obtain ⟨c, hc, h⟩ := Option.bind_eq_some_iff.1 h
    split at h <;> simp only [Option.some.injEq, Prod.mk.injEq] at h <;> obtain ⟨rfl, rfl⟩ := h
    · simp; omega
    · simp
  · simp only [Option.some.injEq, Prod.mk.injEq] at h
    obtain ⟨rfl, rfl⟩ := h
    simp

set_option maxHeartbeats 2000000 in
set_option maxRecDepth 100000 in
theorem impl_UnpackLink.no (k : Nat) (A0 : Option Addr) (c0 : Nat) (l0 p : List Int) (b : Bool) (w : World) (hr0 : Kd.C (Kd.int .u8) w A0 l0.length l0) (hc0 : l0.length ≤ c0) (h : impl_CutCrc.f k l0 = some (p, b)) (hb : b = false ∨ p = []) :
    Calls Try.prog 34 #[.slice A0 l0.length c0] w fun e w' => ∃ v2_ : Value, e = .returned (.tuple #[.int .i64 0, .int .i64 0, v2_, .bool false]) ∧ Kd.R (Kd.int .u8) 5 w' w.heap.size (fun _ => True) v2_ [] ∧ Below w.heap.size w w' := by
  have HR0 := Aside0.mk hr0
  have HC0 := Aside0.mk hc0
  have HCC := Aside0.mk h
  have HPL := Aside0.mk (impl_CutCrc.short h)
  clear hr0 hc0 h
  have HB := Aside0.mk (Below.refl w.heap.size w)
  cases b
  · clear hb
    go_enter Try.func34, Try.ntmps34
    go_wp2_with (first
      | ((with_reducible refine gate_callee (f := 55) rfl ?_); refine goesL_ (some 12) rfl rfl Try.func55 (by kernel_rfl) rfl #[.slice A0 l0.length c0] rfl (by (try simp only [List.map_toArray, List.map_cons, List.map_nil]); first | done | rfl) ?_; (with_reducible refine (impl_CutCrc.calls k _ _ l0 _ _ _ ?s0 ?s1 HCC.out).mono ?_); (case s0 => repeat (first | exact HR0.out | (with_reducible refine Kd.C_alloc ?_ _) | (with_reducible refine Kd.C_drewN ?_ _) | (with_reducible refine Kd.C_drew ?_))); (case s1 => exact HC0.out); rintro e w' ⟨v, rfl, ho, hb⟩; refine ⟨_, rfl, ?_⟩; have n0_ := Aside0.mk (below_step (by repeat (first | (with_reducible first | exact HB.out | apply below_alloc | apply pw_below_drewN | apply below_drew1) | exact HB.out)) hb); clear HB; have HB := n0_; have HO := Aside0.mk ho; clear n0_ hb ho; obtain ⟨Ao, co, eo⟩ := Kd.R_slice HO.out; subst eo))
    refine bodyPost_ret (results_list (rs := [.tmp 2, .tmp 3, .tmp 4, .tmp 5]) rfl (by simp) (.tmp (.tmp (.tmp (.tmp .nil))))) rfl ?_
    exact ⟨_, rfl, by first | exact Kd.R_nil _ _ _ _ _ | exact (by (with_reducible repeat (first | apply Kd.R_alloc | apply Kd.R_drewN | apply Kd.R_drew)); exact HO1.out), (by repeat (first | (with_reducible first | exact HB.out | apply below_alloc | apply pw_below_drewN | apply below_drew1) | exact HB.out))⟩
  · obtain rfl : p = [] := by rcases hb with hb | hb; cases hb; exact hb
    clear hb
    go_enter Try.func34, Try.ntmps34
    go_wp2_with (first
      | ((with_reducible refine gate_callee (f := 55) rfl ?_); refine goesL_ (some 12) rfl rfl Try.func55 (by kernel_rfl) rfl #[.slice A0 l0.length c0] rfl (by (try simp only [List.map_toArray, List.map_cons, List.map_nil]); first | done | rfl) ?_; (with_reducible refine (impl_CutCrc.calls k _ _ l0 _ _ _ ?s0 ?s1 HCC.out).mono ?_); (case s0 => repeat (first | exact HR0.out | (with_reducible refine Kd.C_alloc ?_ _) | (with_reducible refine Kd.C_drewN ?_ _) | (with_reducible refine Kd.C_drew ?_))); (case s1 => exact HC0.out); rintro e w' ⟨v, rfl, ho, hb⟩; refine ⟨_, rfl, ?_⟩; have n0_ := Aside0.mk (below_step (by repeat (first | (with_reducible first | exact HB.out | apply below_alloc | apply pw_below_drewN | apply below_drew1) | exact HB.out)) hb); clear HB; have HB := n0_; have HO := Aside0.mk ho; clear n0_ hb ho; obtain ⟨Ao, co, eo⟩ := Kd.R_slice HO.out; subst eo))
    refine bodyPost_ret (results_list (rs := [.tmp 2, .tmp 3, .tmp 4, .tmp 5]) rfl (by simp) (.tmp (.tmp (.tmp (.tmp .nil))))) rfl ?_
    exact ⟨_, rfl, by first | exact Kd.R_nil _ _ _ _ _ | exact (by (with_reducible repeat (first | apply Kd.R_alloc | apply Kd.R_drewN | apply Kd.R_drew)); exact HO1.out), (by repeat (first | (with_reducible first | exact HB.out | apply below_alloc | apply pw_below_drewN | apply below_drew1) | exact HB.out))⟩

set_option maxHeartbeats 4000000 in
set_option maxRecDepth 100000 in
theorem impl_UnpackLink.atA (k : Nat) (A0 : Option Addr) (c0 : Nat) (l0 p : List Int) (x : Int) (xs : List Int) (w : World) (hr0 : Kd.C (Kd.int .u8) w A0 l0.length l0) (hc0 : l0.length ≤ c0) (h : impl_CutCrc.f k l0 = some (p, true)) (hp : p = x :: xs) (h0 : 0 ≤ x) (h1 : x ≤ 255)
    (hk : ¬ (1 ≤ x / 16 ∧ x / 16 ≤ 2)) :
    Calls Try.prog 34 #[.slice A0 l0.length c0] w fun e w' => ∃ v2_ : Value, e = .returned (.tuple #[.int .i64 0, .int .i64 0, v2_, .bool false]) ∧ Kd.R (Kd.int .u8) 5 w' w.heap.size (fun _ => True) v2_ [] ∧ Below w.heap.size w w' := by
  have HR0 := Aside0.mk hr0
  have HC0 := Aside0.mk hc0
  have HCC := Aside0.mk h
  have hpl := impl_CutCrc.short h
  have HPL := Aside0.mk hpl
  have hpe : ((p.length : Int) == 0) = false := by rw [hp]; simp; omega
  have hp0 : 0 < p.length := by rw [hp]; simp
  have hpi : (0 : Int) < p.length := by omega
  have hp1 : 1 ≤ p.length := by omega
  have hxs : xs.length = p.length - 1 := by rw [hp]; simp
  have HXL := Aside0.mk (show xs.length ≤ 600 by omega)
  have HPX := Aside0.mk hp
  clear hr0 hc0 h hp hxs hpl
  have HW := Aside0.mk (show impl_within.f (x / 16) 1 2 = some false by rw [within_ok]; rw [Option.some.injEq, Bool.and_eq_false_iff, decide_eq_false_iff_not, decide_eq_false_iff_not]; omega)
  clear hk
  have hwx : IntKind.i64.wrap x = x := IntWalk.i64_in _ (by omega)
  have hwq : IntKind.i64.wrap (x / 16) = x / 16 := IntWalk.i64_in _ (by omega)
  have hwr : IntKind.i64.wrap (x % 16) = x % 16 := IntWalk.i64_in _ (by omega)
  have htq : x.tdiv 16 = x / 16 := Int.tdiv_eq_ediv_of_nonneg h0
  have htr : x.tmod 16 = x % 16 := Int.tmod_eq_emod_of_nonneg h0
  have HB := Aside0.mk (Below.refl w.heap.size w)
  go_enter Try.func34, Try.ntmps34
  go_wp2_with (first
      | ((with_reducible refine gate_callee (f := 55) rfl ?_); refine goesL_ (some 12) rfl rfl Try.func55 (by kernel_rfl) rfl #[.slice A0 l0.length c0] rfl (by (try simp only [List.map_toArray, List.map_cons, List.map_nil]); first | done | rfl) ?_; (with_reducible refine (impl_CutCrc.calls k _ _ l0 _ _ _ ?s0 ?s1 HCC.out).mono ?_); (case s0 => repeat (first | exact HR0.out | (with_reducible refine Kd.C_alloc ?_ _) | (with_reducible refine Kd.C_drewN ?_ _) | (with_reducible refine Kd.C_drew ?_))); (case s1 => exact HC0.out); rintro e w' ⟨v, rfl, ho, hb⟩; refine ⟨_, rfl, ?_⟩; have n0_ := Aside0.mk (below_step (by repeat (first | (with_reducible first | exact HB.out | apply below_alloc | apply pw_below_drewN | apply below_drew1) | exact HB.out)) hb); clear HB; have HB := n0_; have HO := Aside0.mk ho; clear n0_ hb ho; obtain ⟨Ao, co, eo⟩ := Kd.R_slice HO.out; subst eo; obtain ⟨ad, ea, hx⟩ := Kd.at_int (Kd.R_reads' HO.out).2.2 0 (by omega) (by omega); subst ea; have hx' := hx; rw [HPX.out] at hx; simp only [rd, Int.toNat_zero, List.getD_cons_zero, Addr.add, if_true] at hx; clear hx'; obtain ⟨i0, hi0, _, hsz, _⟩ := info_parts info5; obtain ⟨A1, hcut, hA, hC⟩ := print_drop_of (P := Try.prog) (Value.int .u8) 0 22 5 .i64 Try.underlying22 hi0 hsz (some ad) co p 1 (by omega) (by omega) (Kd.R_reads' HO.out).2.1; have hd1 : p.drop (1 : Int).toNat = xs := (by rw [HPX.out]; rfl); rw [hd1] at hcut hA hC; simp only [Int.toNat_one] at hcut hC; have HR1 := Aside0.mk (Kd.C_of_reads (h1 := fun _ => rfl) (hA _ (Kd.reads_of_C (Kd.R_reads' HO.out).2.2))); have HC1 := Aside0.mk hC; clear hA hC hi0 hsz hd1))
  go_quiet (fail)
  go_wp2_with (first
      | ((with_reducible refine gate_callee (f := 42) rfl ?_); refine goesL_ (some 33) rfl rfl Try.func42 (by kernel_rfl) rfl #[.int .i64 (x / 16), .int .i64 1, .int .i64 2] rfl (by (try simp only [List.map_toArray, List.map_cons, List.map_nil]); first | done | rfl) ?_; (with_reducible refine (impl_within.calls (x / 16) 1 2 false _ HW.out).mono ?_); rintro e w' ⟨rfl, ⟨nd, rfl⟩⟩; refine ⟨_, rfl, ?_⟩))
  refine bodyPost_ret (results_list (rs := [.tmp 2, .tmp 3, .tmp 4, .tmp 5]) rfl (by simp) (.tmp (.tmp (.tmp (.tmp .nil))))) rfl ?_
  exact ⟨_, rfl, by first | exact Kd.R_nil _ _ _ _ _ | exact (by (with_reducible repeat (first | apply Kd.R_alloc | apply Kd.R_drewN | apply Kd.R_drew)); exact HO1.out), (by repeat (first | (with_reducible first | exact HB.out | apply below_alloc | apply pw_below_drewN | apply below_drew1) | exact HB.out))⟩

set_option maxHeartbeats 4000000 in
set_option maxRecDepth 100000 in
theorem impl_UnpackLink.atB (k : Nat) (A0 : Option Addr) (c0 : Nat) (l0 p : List Int) (x : Int) (xs : List Int) (w : World) (hr0 : Kd.C (Kd.int .u8) w A0 l0.length l0) (hc0 : l0.length ≤ c0) (h : impl_CutCrc.f k l0 = some (p, true)) (hp : p = x :: xs) (h0 : 0 ≤ x) (h1 : x ≤ 255)
    (hk : x / 16 = 1) :
    Calls Try.prog 34 #[.slice A0 l0.length c0] w fun e w' => ∃ v2_ : Value, e = .returned (.tuple #[.int .i64 (x / 16), .int .i64 (x % 16), v2_, .bool true]) ∧ Kd.R (Kd.int .u8) 5 w' w.heap.size (fun _ => True) v2_ xs ∧ Below w.heap.size w w' := by
  have HR0 := Aside0.mk hr0
  have HC0 := Aside0.mk hc0
  have HCC := Aside0.mk h
  have hpl := impl_CutCrc.short h
  have HPL := Aside0.mk hpl
  have hpe : ((p.length : Int) == 0) = false := by rw [hp]; simp; omega
  have hp0 : 0 < p.length := by rw [hp]; simp
  have hpi : (0 : Int) < p.length := by omega
  have hp1 : 1 ≤ p.length := by omega
  have hxs : xs.length = p.length - 1 := by rw [hp]; simp
  have HXL := Aside0.mk (show xs.length ≤ 600 by omega)
  have HPX := Aside0.mk hp
  clear hr0 hc0 h hp hxs hpl
  have HW := Aside0.mk (show impl_within.f (x / 16) 1 2 = some true by rw [within_ok, hk]; rfl)
  have hk2 : (x / 16 == 2) = false := by rw [hk]; rfl
  have HCL := Aside0.mk (show bytes_Clone.f xs = some xs from if_pos (by have := HXL.out; omega))
  clear hk
  have hwx : IntKind.i64.wrap x = x := IntWalk.i64_in _ (by omega)
  have hwq : IntKind.i64.wrap (x / 16) = x / 16 := IntWalk.i64_in _ (by omega)
  have hwr : IntKind.i64.wrap (x % 16) = x % 16 := IntWalk.i64_in _ (by omega)
  have htq : x.tdiv 16 = x / 16 := Int.tdiv_eq_ediv_of_nonneg h0
  have htr : x.tmod 16 = x % 16 := Int.tmod_eq_emod_of_nonneg h0
  have HB := Aside0.mk (Below.refl w.heap.size w)
  go_enter Try.func34, Try.ntmps34
  go_wp2_with (first
      | ((with_reducible refine gate_callee (f := 55) rfl ?_); refine goesL_ (some 12) rfl rfl Try.func55 (by kernel_rfl) rfl #[.slice A0 l0.length c0] rfl (by (try simp only [List.map_toArray, List.map_cons, List.map_nil]); first | done | rfl) ?_; (with_reducible refine (impl_CutCrc.calls k _ _ l0 _ _ _ ?s0 ?s1 HCC.out).mono ?_); (case s0 => repeat (first | exact HR0.out | (with_reducible refine Kd.C_alloc ?_ _) | (with_reducible refine Kd.C_drewN ?_ _) | (with_reducible refine Kd.C_drew ?_))); (case s1 => exact HC0.out); rintro e w' ⟨v, rfl, ho, hb⟩; refine ⟨_, rfl, ?_⟩; have n0_ := Aside0.mk (below_step (by repeat (first | (with_reducible first | exact HB.out | apply below_alloc | apply pw_below_drewN | apply below_drew1) | exact HB.out)) hb); clear HB; have HB := n0_; have HO := Aside0.mk ho; clear n0_ hb ho; obtain ⟨Ao, co, eo⟩ := Kd.R_slice HO.out; subst eo; obtain ⟨ad, ea, hx⟩ := Kd.at_int (Kd.R_reads' HO.out).2.2 0 (by omega) (by omega); subst ea; have hx' := hx; rw [HPX.out] at hx; simp only [rd, Int.toNat_zero, List.getD_cons_zero, Addr.add, if_true] at hx; clear hx'; obtain ⟨i0, hi0, _, hsz, _⟩ := info_parts info5; obtain ⟨A1, hcut, hA, hC⟩ := print_drop_of (P := Try.prog) (Value.int .u8) 0 22 5 .i64 Try.underlying22 hi0 hsz (some ad) co p 1 (by omega) (by omega) (Kd.R_reads' HO.out).2.1; have hd1 : p.drop (1 : Int).toNat = xs := (by rw [HPX.out]; rfl); rw [hd1] at hcut hA hC; simp only [Int.toNat_one] at hcut hC; have HR1 := Aside0.mk (Kd.C_of_reads (h1 := fun _ => rfl) (hA _ (Kd.reads_of_C (Kd.R_reads' HO.out).2.2))); have HC1 := Aside0.mk hC; clear hA hC hi0 hsz hd1))
  go_quiet (fail)
  go_wp2_with (first
      | ((with_reducible refine gate_callee (f := 42) rfl ?_); refine goesL_ (some 33) rfl rfl Try.func42 (by kernel_rfl) rfl #[.int .i64 (x / 16), .int .i64 1, .int .i64 2] rfl (by (try simp only [List.map_toArray, List.map_cons, List.map_nil]); first | done | rfl) ?_; (with_reducible refine (impl_within.calls (x / 16) 1 2 true _ HW.out).mono ?_); rintro e w' ⟨rfl, ⟨nd, rfl⟩⟩; refine ⟨_, rfl, ?_⟩)
      | ((with_reducible refine gate_callee (f := 56) rfl ?_); refine goesL_ (some 48) rfl rfl Try.func56 (by kernel_rfl) rfl #[.slice A1 xs.length (co - 1)] rfl (by (try simp only [List.map_toArray, List.map_cons, List.map_nil]); first | done | rfl) ?_; (with_reducible refine (bytes_Clone.calls _ _ xs xs _ ?s0 ?s1 HCL.out).mono ?_); (case s0 => repeat (first | exact HR1.out | (with_reducible refine Kd.C_alloc ?_ _) | (with_reducible refine Kd.C_drewN ?_ _) | (with_reducible refine Kd.C_drew ?_))); (case s1 => exact HC1.out); rintro e w' ⟨v2, rfl, ho2, hb2⟩; refine ⟨_, rfl, ?_⟩; have n0_ := Aside0.mk (Kd.R_lower ho2 (below_size (by repeat (first | (with_reducible first | exact HB.out | apply below_alloc | apply pw_below_drewN | apply below_drew1) | exact HB.out)))); have n1_ := Aside0.mk (below_step (by repeat (first | (with_reducible first | exact HB.out | apply below_alloc | apply pw_below_drewN | apply below_drew1) | exact HB.out)) hb2); clear HB; have HO2 := n0_; have HB := n1_; clear n0_ n1_ ho2 hb2))
  refine bodyPost_ret (results_list (rs := [.tmp 2, .tmp 3, .tmp 4, .tmp 5]) rfl (by simp) (.tmp (.tmp (.tmp (.tmp .nil))))) rfl ?_
  exact ⟨_, rfl, (by (with_reducible repeat (first | apply Kd.R_alloc | apply Kd.R_drewN | apply Kd.R_drew)); exact HO2.out), (by repeat (first | (with_reducible first | exact HB.out | apply below_alloc | apply pw_below_drewN | apply below_drew1) | exact HB.out))⟩

set_option maxHeartbeats 4000000 in
set_option maxRecDepth 100000 in
theorem impl_UnpackLink.atC (k : Nat) (A0 : Option Addr) (c0 : Nat) (l0 p : List Int) (x : Int) (xs : List Int) (w : World) (hr0 : Kd.C (Kd.int .u8) w A0 l0.length l0) (hc0 : l0.length ≤ c0) (h : impl_CutCrc.f k l0 = some (p, true)) (hp : p = x :: xs) (h0 : 0 ≤ x) (h1 : x ≤ 255)
    (hk : x / 16 = 2) (hx0 : xs = []) :
    Calls Try.prog 34 #[.slice A0 l0.length c0] w fun e w' => ∃ v2_ : Value, e = .returned (.tuple #[.int .i64 (x / 16), .int .i64 (x % 16), v2_, .bool true]) ∧ Kd.R (Kd.int .u8) 5 w' w.heap.size (fun _ => True) v2_ xs ∧ Below w.heap.size w w' := by
  have HR0 := Aside0.mk hr0
  have HC0 := Aside0.mk hc0
  have HCC := Aside0.mk h
  have hpl := impl_CutCrc.short h
  have HPL := Aside0.mk hpl
  have hpe : ((p.length : Int) == 0) = false := by rw [hp]; simp; omega
  have hp0 : 0 < p.length := by rw [hp]; simp
  have hpi : (0 : Int) < p.length := by omega
  have hp1 : 1 ≤ p.length := by omega
  have hxs : xs.length = p.length - 1 := by rw [hp]; simp
  have HXL := Aside0.mk (show xs.length ≤ 600 by omega)
  have HPX := Aside0.mk hp
  clear hr0 hc0 h hp hxs hpl
  have HW := Aside0.mk (show impl_within.f (x / 16) 1 2 = some true by rw [within_ok, hk]; rfl)
  have hk2 : (x / 16 == 2) = true := by rw [hk]; rfl
  have hl1 : decide ((1 : Int) < p.length) = false := decide_eq_false (by rw [HPX.out, hx0]; simp)
  have hl2 : decide (1 < p.length) = false := decide_eq_false (by rw [HPX.out, hx0]; simp)
  have HCL := Aside0.mk (show bytes_Clone.f xs = some xs from if_pos (by have := HXL.out; omega))
  clear hk hx0
  have hwx : IntKind.i64.wrap x = x := IntWalk.i64_in _ (by omega)
  have hwq : IntKind.i64.wrap (x / 16) = x / 16 := IntWalk.i64_in _ (by omega)
  have hwr : IntKind.i64.wrap (x % 16) = x % 16 := IntWalk.i64_in _ (by omega)
  have htq : x.tdiv 16 = x / 16 := Int.tdiv_eq_ediv_of_nonneg h0
  have htr : x.tmod 16 = x % 16 := Int.tmod_eq_emod_of_nonneg h0
  have HB := Aside0.mk (Below.refl w.heap.size w)
  go_enter Try.func34, Try.ntmps34
  go_wp2_with (first
      | ((with_reducible refine gate_callee (f := 55) rfl ?_); refine goesL_ (some 12) rfl rfl Try.func55 (by kernel_rfl) rfl #[.slice A0 l0.length c0] rfl (by (try simp only [List.map_toArray, List.map_cons, List.map_nil]); first | done | rfl) ?_; (with_reducible refine (impl_CutCrc.calls k _ _ l0 _ _ _ ?s0 ?s1 HCC.out).mono ?_); (case s0 => repeat (first | exact HR0.out | (with_reducible refine Kd.C_alloc ?_ _) | (with_reducible refine Kd.C_drewN ?_ _) | (with_reducible refine Kd.C_drew ?_))); (case s1 => exact HC0.out); rintro e w' ⟨v, rfl, ho, hb⟩; refine ⟨_, rfl, ?_⟩; have n0_ := Aside0.mk (below_step (by repeat (first | (with_reducible first | exact HB.out | apply below_alloc | apply pw_below_drewN | apply below_drew1) | exact HB.out)) hb); clear HB; have HB := n0_; have HO := Aside0.mk ho; clear n0_ hb ho; obtain ⟨Ao, co, eo⟩ := Kd.R_slice HO.out; subst eo; obtain ⟨ad, ea, hx⟩ := Kd.at_int (Kd.R_reads' HO.out).2.2 0 (by omega) (by omega); subst ea; have hx' := hx; rw [HPX.out] at hx; simp only [rd, Int.toNat_zero, List.getD_cons_zero, Addr.add, if_true] at hx; clear hx'; obtain ⟨i0, hi0, _, hsz, _⟩ := info_parts info5; obtain ⟨A1, hcut, hA, hC⟩ := print_drop_of (P := Try.prog) (Value.int .u8) 0 22 5 .i64 Try.underlying22 hi0 hsz (some ad) co p 1 (by omega) (by omega) (Kd.R_reads' HO.out).2.1; have hd1 : p.drop (1 : Int).toNat = xs := (by rw [HPX.out]; rfl); rw [hd1] at hcut hA hC; simp only [Int.toNat_one] at hcut hC; have HR1 := Aside0.mk (Kd.C_of_reads (h1 := fun _ => rfl) (hA _ (Kd.reads_of_C (Kd.R_reads' HO.out).2.2))); have HC1 := Aside0.mk hC; clear hA hC hi0 hsz hd1))
  go_quiet (fail)
  go_wp2_with (first
      | ((with_reducible refine gate_callee (f := 42) rfl ?_); refine goesL_ (some 33) rfl rfl Try.func42 (by kernel_rfl) rfl #[.int .i64 (x / 16), .int .i64 1, .int .i64 2] rfl (by (try simp only [List.map_toArray, List.map_cons, List.map_nil]); first | done | rfl) ?_; (with_reducible refine (impl_within.calls (x / 16) 1 2 true _ HW.out).mono ?_); rintro e w' ⟨rfl, ⟨nd, rfl⟩⟩; refine ⟨_, rfl, ?_⟩)
      | ((with_reducible refine gate_callee (f := 56) rfl ?_); refine goesL_ (some 48) rfl rfl Try.func56 (by kernel_rfl) rfl #[.slice A1 xs.length (co - 1)] rfl (by (try simp only [List.map_toArray, List.map_cons, List.map_nil]); first | done | rfl) ?_; (with_reducible refine (bytes_Clone.calls _ _ xs xs _ ?s0 ?s1 HCL.out).mono ?_); (case s0 => repeat (first | exact HR1.out | (with_reducible refine Kd.C_alloc ?_ _) | (with_reducible refine Kd.C_drewN ?_ _) | (with_reducible refine Kd.C_drew ?_))); (case s1 => exact HC1.out); rintro e w' ⟨v2, rfl, ho2, hb2⟩; refine ⟨_, rfl, ?_⟩; have n0_ := Aside0.mk (Kd.R_lower ho2 (below_size (by repeat (first | (with_reducible first | exact HB.out | apply below_alloc | apply pw_below_drewN | apply below_drew1) | exact HB.out)))); have n1_ := Aside0.mk (below_step (by repeat (first | (with_reducible first | exact HB.out | apply below_alloc | apply pw_below_drewN | apply below_drew1) | exact HB.out)) hb2); clear HB; have HO2 := n0_; have HB := n1_; clear n0_ n1_ ho2 hb2))
  refine bodyPost_ret (results_list (rs := [.tmp 2, .tmp 3, .tmp 4, .tmp 5]) rfl (by simp) (.tmp (.tmp (.tmp (.tmp .nil))))) rfl ?_
  exact ⟨_, rfl, (by (with_reducible repeat (first | apply Kd.R_alloc | apply Kd.R_drewN | apply Kd.R_drew)); exact HO2.out), (by repeat (first | (with_reducible first | exact HB.out | apply below_alloc | apply pw_below_drewN | apply below_drew1) | exact HB.out))⟩

set_option maxHeartbeats 4000000 in
set_option maxRecDepth 100000 in
theorem impl_UnpackLink.atD (k : Nat) (A0 : Option Addr) (c0 : Nat) (l0 p : List Int) (x : Int) (xs : List Int) (w : World) (hr0 : Kd.C (Kd.int .u8) w A0 l0.length l0) (hc0 : l0.length ≤ c0) (h : impl_CutCrc.f k l0 = some (p, true)) (hp : p = x :: xs) (h0 : 0 ≤ x) (h1 : x ≤ 255)
    (hk : x / 16 = 2) (hx0 : xs ≠ []) :
    Calls Try.prog 34 #[.slice A0 l0.length c0] w fun e w' => ∃ v2_ : Value, e = .returned (.tuple #[.int .i64 0, .int .i64 0, v2_, .bool false]) ∧ Kd.R (Kd.int .u8) 5 w' w.heap.size (fun _ => True) v2_ [] ∧ Below w.heap.size w w' := by
  have HR0 := Aside0.mk hr0
  have HC0 := Aside0.mk hc0
  have HCC := Aside0.mk h
  have hpl := impl_CutCrc.short h
  have HPL := Aside0.mk hpl
  have hpe : ((p.length : Int) == 0) = false := by rw [hp]; simp; omega
  have hp0 : 0 < p.length := by rw [hp]; simp
  have hpi : (0 : Int) < p.length := by omega
  have hp1 : 1 ≤ p.length := by omega
  have hxs : xs.length = p.length - 1 := by rw [hp]; simp
  have HXL := Aside0.mk (show xs.length ≤ 600 by omega)
  have HPX := Aside0.mk hp
  clear hr0 hc0 h hp hxs hpl
  have HW := Aside0.mk (show impl_within.f (x / 16) 1 2 = some true by rw [within_ok, hk]; rfl)
  have hk2 : (x / 16 == 2) = true := by rw [hk]; rfl
  have hl0 : 1 < p.length := by rw [HPX.out]; have := List.length_pos_iff.2 hx0; simp; omega
  have hl1 : decide ((1 : Int) < p.length) = true := decide_eq_true (by omega)
  have hl2 : decide (1 < p.length) = true := decide_eq_true hl0
  clear hk hx0 hl0
  have hwx : IntKind.i64.wrap x = x := IntWalk.i64_in _ (by omega)
  have hwq : IntKind.i64.wrap (x / 16) = x / 16 := IntWalk.i64_in _ (by omega)
  have hwr : IntKind.i64.wrap (x % 16) = x % 16 := IntWalk.i64_in _ (by omega)
  have htq : x.tdiv 16 = x / 16 := Int.tdiv_eq_ediv_of_nonneg h0
  have htr : x.tmod 16 = x % 16 := Int.tmod_eq_emod_of_nonneg h0
  have HB := Aside0.mk (Below.refl w.heap.size w)
  go_enter Try.func34, Try.ntmps34
  go_wp2_with (first
      | ((with_reducible refine gate_callee (f := 55) rfl ?_); refine goesL_ (some 12) rfl rfl Try.func55 (by kernel_rfl) rfl #[.slice A0 l0.length c0] rfl (by (try simp only [List.map_toArray, List.map_cons, List.map_nil]); first | done | rfl) ?_; (with_reducible refine (impl_CutCrc.calls k _ _ l0 _ _ _ ?s0 ?s1 HCC.out).mono ?_); (case s0 => repeat (first | exact HR0.out | (with_reducible refine Kd.C_alloc ?_ _) | (with_reducible refine Kd.C_drewN ?_ _) | (with_reducible refine Kd.C_drew ?_))); (case s1 => exact HC0.out); rintro e w' ⟨v, rfl, ho, hb⟩; refine ⟨_, rfl, ?_⟩; have n0_ := Aside0.mk (below_step (by repeat (first | (with_reducible first | exact HB.out | apply below_alloc | apply pw_below_drewN | apply below_drew1) | exact HB.out)) hb); clear HB; have HB := n0_; have HO := Aside0.mk ho; clear n0_ hb ho; obtain ⟨Ao, co, eo⟩ := Kd.R_slice HO.out; subst eo; obtain ⟨ad, ea, hx⟩ := Kd.at_int (Kd.R_reads' HO.out).2.2 0 (by omega) (by omega); subst ea; have hx' := hx; rw [HPX.out] at hx; simp only [rd, Int.toNat_zero, List.getD_cons_zero, Addr.add, if_true] at hx; clear hx'; obtain ⟨i0, hi0, _, hsz, _⟩ := info_parts info5; obtain ⟨A1, hcut, hA, hC⟩ := print_drop_of (P := Try.prog) (Value.int .u8) 0 22 5 .i64 Try.underlying22 hi0 hsz (some ad) co p 1 (by omega) (by omega) (Kd.R_reads' HO.out).2.1; have hd1 : p.drop (1 : Int).toNat = xs := (by rw [HPX.out]; rfl); rw [hd1] at hcut hA hC; simp only [Int.toNat_one] at hcut hC; have HR1 := Aside0.mk (Kd.C_of_reads (h1 := fun _ => rfl) (hA _ (Kd.reads_of_C (Kd.R_reads' HO.out).2.2))); have HC1 := Aside0.mk hC; clear hA hC hi0 hsz hd1))
  go_quiet (fail)
  go_wp2_with (first
      | ((with_reducible refine gate_callee (f := 42) rfl ?_); refine goesL_ (some 33) rfl rfl Try.func42 (by kernel_rfl) rfl #[.int .i64 (x / 16), .int .i64 1, .int .i64 2] rfl (by (try simp only [List.map_toArray, List.map_cons, List.map_nil]); first | done | rfl) ?_; (with_reducible refine (impl_within.calls (x / 16) 1 2 true _ HW.out).mono ?_); rintro e w' ⟨rfl, ⟨nd, rfl⟩⟩; refine ⟨_, rfl, ?_⟩))
  refine bodyPost_ret (results_list (rs := [.tmp 2, .tmp 3, .tmp 4, .tmp 5]) rfl (by simp) (.tmp (.tmp (.tmp (.tmp .nil))))) rfl ?_
  exact ⟨_, rfl, by first | exact Kd.R_nil _ _ _ _ _ | exact (by (with_reducible repeat (first | apply Kd.R_alloc | apply Kd.R_drewN | apply Kd.R_drew)); exact HO1.out), (by repeat (first | (with_reducible first | exact HB.out | apply below_alloc | apply pw_below_drewN | apply below_drew1) | exact HB.out))⟩

theorem impl_UnpackLink.calls (k : Nat) (A0 : Option Addr) (c0 : Nat) (l0 : List Int) (r1 r2 : Int) (r3 : List Int) (r4 : Bool) (w : World) (hr0 : Kd.C (Kd.int .u8) w A0 l0.length l0) (hc0 : l0.length ≤ c0) (h : impl_UnpackLink.f k l0 = some (r1, r2, r3, r4)) :
    Calls Try.prog 34 #[.slice A0 l0.length c0] w fun e w' => ∃ v2_ : Value, e = .returned (.tuple #[.int .i64 r1, .int .i64 r2, v2_, .bool r4]) ∧ Kd.R (Kd.int .u8) 5 w' w.heap.size (fun _ => True) v2_ r3 ∧ Below w.heap.size w w' := by
  unfold impl_UnpackLink.f at h
  obtain ⟨⟨p, b⟩, hp, h⟩ := Option.bind_eq_some_iff.1 h
  cases b
  · rw [if_neg (by simp)] at h
    simp only [Option.some.injEq, Prod.mk.injEq] at h
    obtain ⟨rfl, rfl, rfl, rfl⟩ := h
    exact impl_UnpackLink.no k A0 c0 l0 p false w hr0 hc0 hp (.inl rfl)
  · rw [if_pos rfl] at h
    simp only at h
    rcases p with _ | ⟨x, xs⟩
    · simp only [unpk, Option.some.injEq, Prod.mk.injEq] at h
      obtain ⟨rfl, rfl, rfl, rfl⟩ := h
      exact impl_UnpackLink.no k A0 c0 l0 [] true w hr0 hc0 hp (.inr rfl)
    · simp only [unpk] at h
      by_cases hx : 0 ≤ x ∧ x ≤ 255
      · rw [if_pos hx] at h
        by_cases hk : (1 ≤ x / 16 ∧ x / 16 ≤ 2) ∧ ¬ (x / 16 = 2 ∧ xs ≠ [])
        · rw [if_pos hk] at h
          simp only [Option.some.injEq, Prod.mk.injEq] at h
          obtain ⟨rfl, rfl, rfl, rfl⟩ := h
          rcases (show x / 16 = 1 ∨ x / 16 = 2 by omega) with h1 | h2
          · exact impl_UnpackLink.atB k A0 c0 l0 _ x xs w hr0 hc0 hp rfl hx.1 hx.2 h1
          · have hx0 : xs = [] := Classical.byContradiction fun hc => hk.2 ⟨h2, hc⟩
            exact impl_UnpackLink.atC k A0 c0 l0 _ x xs w hr0 hc0 hp rfl hx.1 hx.2 h2 hx0
        · rw [if_neg hk] at h
          simp only [Option.some.injEq, Prod.mk.injEq] at h
          obtain ⟨rfl, rfl, rfl, rfl⟩ := h
          by_cases h1 : 1 ≤ x / 16 ∧ x / 16 ≤ 2
          · have h2 : x / 16 = 2 ∧ xs ≠ [] := Classical.byContradiction fun hc => hk ⟨h1, hc⟩
            exact impl_UnpackLink.atD k A0 c0 l0 _ x xs w hr0 hc0 hp rfl hx.1 hx.2 h2.1 h2.2
          · exact impl_UnpackLink.atA k A0 c0 l0 _ x xs w hr0 hc0 hp rfl hx.1 hx.2 h1
      · rw [if_neg hx] at h
        cases h

def spec_UnpackLink.f (k : Nat) (l0 : List Int) : Option (Int × Int × List Int × Bool) :=
  (spec_CutCrc.f k l0).bind fun p => if p.2 = true then unpk p.1 else some (0, 0, [], false)
theorem spec_CutCrc.short {k : Nat} {l0 p : List Int} {b : Bool} (h : spec_CutCrc.f k l0 = some (p, b)) : p.length ≤ 600 := by
  unfold spec_CutCrc.f at h
  split at h
  · obtain ⟨c, hc, h⟩ := Option.bind_eq_some_iff.1 h
    split at h <;> simp only [Option.some.injEq, Prod.mk.injEq] at h <;> obtain ⟨rfl, rfl⟩ := h
    · simp; omega
    · simp
  · simp only [Option.some.injEq, Prod.mk.injEq] at h
    obtain ⟨rfl, rfl⟩ := h
    simp

set_option maxHeartbeats 2000000 in
set_option maxRecDepth 100000 in
theorem spec_UnpackLink.no (k : Nat) (A0 : Option Addr) (c0 : Nat) (l0 p : List Int) (b : Bool) (w : World) (hr0 : Kd.C (Kd.int .u8) w A0 l0.length l0) (hc0 : l0.length ≤ c0) (h : spec_CutCrc.f k l0 = some (p, b)) (hb : b = false ∨ p = []) :
    Calls Try.prog 76 #[.slice A0 l0.length c0] w fun e w' => ∃ v2_ : Value, e = .returned (.tuple #[.int .i64 0, .int .i64 0, v2_, .bool false]) ∧ Kd.R (Kd.int .u8) 5 w' w.heap.size (fun _ => True) v2_ [] ∧ Below w.heap.size w w' := by
  have HR0 := Aside0.mk hr0
  have HC0 := Aside0.mk hc0
  have HCC := Aside0.mk h
  have HPL := Aside0.mk (spec_CutCrc.short h)
  clear hr0 hc0 h
  have HB := Aside0.mk (Below.refl w.heap.size w)
  cases b
  · clear hb
    go_enter Try.func76, Try.ntmps76
    go_wp2_with (first
      | ((with_reducible refine gate_callee (f := 92) rfl ?_); refine goesL_ (some 11) rfl rfl Try.func92 (by kernel_rfl) rfl #[.slice A0 l0.length c0] rfl (by (try simp only [List.map_toArray, List.map_cons, List.map_nil]); first | done | rfl) ?_; (with_reducible refine (spec_CutCrc.calls k _ _ l0 _ _ _ ?s0 ?s1 HCC.out).mono ?_); (case s0 => repeat (first | exact HR0.out | (with_reducible refine Kd.C_alloc ?_ _) | (with_reducible refine Kd.C_drewN ?_ _) | (with_reducible refine Kd.C_drew ?_))); (case s1 => exact HC0.out); rintro e w' ⟨v, rfl, ho, hb⟩; refine ⟨_, rfl, ?_⟩; have n0_ := Aside0.mk (below_step (by repeat (first | (with_reducible first | exact HB.out | apply below_alloc | apply pw_below_drewN | apply below_drew1) | exact HB.out)) hb); clear HB; have HB := n0_; have HO := Aside0.mk ho; clear n0_ hb ho; obtain ⟨Ao, co, eo⟩ := Kd.R_slice HO.out; subst eo)
      | ((with_reducible refine gate_dst (N := 21) rfl ?_); refine Kd.R_lit (Kd.int .u8) _ 5 ?hg (N := 21) ?hd (xs := ([] : List _)) (inner := []) (ok := fun _ => True) (okp := fun _ => True) ?hr ?hp (fun _ hk => hk) trivial (Below.refl _ _) (Nat.le_refl _) (by simp) ?_; (case hd => rfl); (case hg => rfl); (case hr => first | (go_simp; done) | (go_simp; rfl)); (case hp => exact (Reps.none _ _)); intro v1 w6 ho7 hb hg_ hnew_; clear hg_ hnew_; have n0_ := Aside0.mk (Kd.R_lower ho7 (below_size (by repeat (first | (with_reducible first | exact HB.out | apply below_alloc | apply pw_below_drewN | apply below_drew1) | exact HB.out)))); have n1_ := Aside0.mk (below_step (by repeat (first | (with_reducible first | exact HB.out | apply below_alloc | apply pw_below_drewN | apply below_drew1) | exact HB.out)) hb); clear HB; have HO1 := n0_; have HB := n1_; clear n0_ n1_; clear hb ho7)
      | ((with_reducible refine gate_dst (N := 39) rfl ?_); refine Kd.R_lit (Kd.int .u8) _ 5 ?hg (N := 39) ?hd (xs := ([] : List _)) (inner := []) (ok := fun _ => True) (okp := fun _ => True) ?hr ?hp (fun _ hk => hk) trivial (Below.refl _ _) (Nat.le_refl _) (by simp) ?_; (case hd => rfl); (case hg => rfl); (case hr => first | (go_simp; done) | (go_simp; rfl)); (case hp => exact (Reps.none _ _)); intro v1 w6 ho7 hb hg_ hnew_; clear hg_ hnew_; have n0_ := Aside0.mk (Kd.R_lower ho7 (below_size (by repeat (first | (with_reducible first | exact HB.out | apply below_alloc | apply pw_below_drewN | apply below_drew1) | exact HB.out)))); have n1_ := Aside0.mk (below_step (by repeat (first | (with_reducible first | exact HB.out | apply below_alloc | apply pw_below_drewN | apply below_drew1) | exact HB.out)) hb); clear HB; have HO1 := n0_; have HB := n1_; clear n0_ n1_; clear hb ho7))
    refine bodyPost_ret (results_list (rs := [.tmp 2, .tmp 3, .tmp 4, .tmp 5]) rfl (by simp) (.tmp (.tmp (.tmp (.tmp .nil))))) rfl ?_
    exact ⟨_, rfl, by first | exact Kd.R_nil _ _ _ _ _ | exact (by (with_reducible repeat (first | apply Kd.R_alloc | apply Kd.R_drewN | apply Kd.R_drew)); exact HO1.out), (by repeat (first | (with_reducible first | exact HB.out | apply below_alloc | apply pw_below_drewN | apply below_drew1) | exact HB.out))⟩
  · obtain rfl : p = [] := by rcases hb with hb | hb; cases hb; exact hb
    clear hb
    go_enter Try.func76, Try.ntmps76
    go_wp2_with (first
      | ((with_reducible refine gate_callee (f := 92) rfl ?_); refine goesL_ (some 11) rfl rfl Try.func92 (by kernel_rfl) rfl #[.slice A0 l0.length c0] rfl (by (try simp only [List.map_toArray, List.map_cons, List.map_nil]); first | done | rfl) ?_; (with_reducible refine (spec_CutCrc.calls k _ _ l0 _ _ _ ?s0 ?s1 HCC.out).mono ?_); (case s0 => repeat (first | exact HR0.out | (with_reducible refine Kd.C_alloc ?_ _) | (with_reducible refine Kd.C_drewN ?_ _) | (with_reducible refine Kd.C_drew ?_))); (case s1 => exact HC0.out); rintro e w' ⟨v, rfl, ho, hb⟩; refine ⟨_, rfl, ?_⟩; have n0_ := Aside0.mk (below_step (by repeat (first | (with_reducible first | exact HB.out | apply below_alloc | apply pw_below_drewN | apply below_drew1) | exact HB.out)) hb); clear HB; have HB := n0_; have HO := Aside0.mk ho; clear n0_ hb ho; obtain ⟨Ao, co, eo⟩ := Kd.R_slice HO.out; subst eo)
      | ((with_reducible refine gate_dst (N := 21) rfl ?_); refine Kd.R_lit (Kd.int .u8) _ 5 ?hg (N := 21) ?hd (xs := ([] : List _)) (inner := []) (ok := fun _ => True) (okp := fun _ => True) ?hr ?hp (fun _ hk => hk) trivial (Below.refl _ _) (Nat.le_refl _) (by simp) ?_; (case hd => rfl); (case hg => rfl); (case hr => first | (go_simp; done) | (go_simp; rfl)); (case hp => exact (Reps.none _ _)); intro v1 w6 ho7 hb hg_ hnew_; clear hg_ hnew_; have n0_ := Aside0.mk (Kd.R_lower ho7 (below_size (by repeat (first | (with_reducible first | exact HB.out | apply below_alloc | apply pw_below_drewN | apply below_drew1) | exact HB.out)))); have n1_ := Aside0.mk (below_step (by repeat (first | (with_reducible first | exact HB.out | apply below_alloc | apply pw_below_drewN | apply below_drew1) | exact HB.out)) hb); clear HB; have HO1 := n0_; have HB := n1_; clear n0_ n1_; clear hb ho7)
      | ((with_reducible refine gate_dst (N := 39) rfl ?_); refine Kd.R_lit (Kd.int .u8) _ 5 ?hg (N := 39) ?hd (xs := ([] : List _)) (inner := []) (ok := fun _ => True) (okp := fun _ => True) ?hr ?hp (fun _ hk => hk) trivial (Below.refl _ _) (Nat.le_refl _) (by simp) ?_; (case hd => rfl); (case hg => rfl); (case hr => first | (go_simp; done) | (go_simp; rfl)); (case hp => exact (Reps.none _ _)); intro v1 w6 ho7 hb hg_ hnew_; clear hg_ hnew_; have n0_ := Aside0.mk (Kd.R_lower ho7 (below_size (by repeat (first | (with_reducible first | exact HB.out | apply below_alloc | apply pw_below_drewN | apply below_drew1) | exact HB.out)))); have n1_ := Aside0.mk (below_step (by repeat (first | (with_reducible first | exact HB.out | apply below_alloc | apply pw_below_drewN | apply below_drew1) | exact HB.out)) hb); clear HB; have HO1 := n0_; have HB := n1_; clear n0_ n1_; clear hb ho7))
    refine bodyPost_ret (results_list (rs := [.tmp 2, .tmp 3, .tmp 4, .tmp 5]) rfl (by simp) (.tmp (.tmp (.tmp (.tmp .nil))))) rfl ?_
    exact ⟨_, rfl, by first | exact Kd.R_nil _ _ _ _ _ | exact (by (with_reducible repeat (first | apply Kd.R_alloc | apply Kd.R_drewN | apply Kd.R_drew)); exact HO1.out), (by repeat (first | (with_reducible first | exact HB.out | apply below_alloc | apply pw_below_drewN | apply below_drew1) | exact HB.out))⟩

set_option maxHeartbeats 4000000 in
set_option maxRecDepth 100000 in
theorem spec_UnpackLink.atA (k : Nat) (A0 : Option Addr) (c0 : Nat) (l0 p : List Int) (x : Int) (xs : List Int) (w : World) (hr0 : Kd.C (Kd.int .u8) w A0 l0.length l0) (hc0 : l0.length ≤ c0) (h : spec_CutCrc.f k l0 = some (p, true)) (hp : p = x :: xs) (h0 : 0 ≤ x) (h1 : x ≤ 255)
    (hk : ¬ (1 ≤ x / 16 ∧ x / 16 ≤ 2)) :
    Calls Try.prog 76 #[.slice A0 l0.length c0] w fun e w' => ∃ v2_ : Value, e = .returned (.tuple #[.int .i64 0, .int .i64 0, v2_, .bool false]) ∧ Kd.R (Kd.int .u8) 5 w' w.heap.size (fun _ => True) v2_ [] ∧ Below w.heap.size w w' := by
  have HR0 := Aside0.mk hr0
  have HC0 := Aside0.mk hc0
  have HCC := Aside0.mk h
  have hpl := spec_CutCrc.short h
  have HPL := Aside0.mk hpl
  have hpe : ((p.length : Int) == 0) = false := by rw [hp]; simp; omega
  have hp0 : 0 < p.length := by rw [hp]; simp
  have hpi : (0 : Int) < p.length := by omega
  have hp1 : 1 ≤ p.length := by omega
  have hxs : xs.length = p.length - 1 := by rw [hp]; simp
  have HXL := Aside0.mk (show xs.length ≤ 600 by omega)
  have HPX := Aside0.mk hp
  clear hr0 hc0 h hp hxs hpl
  have HW := Aside0.mk (show spec_l1In.f (x / 16) 1 2 = some false by rw [l1In_ok]; rw [Option.some.injEq, Bool.and_eq_false_iff, decide_eq_false_iff_not, decide_eq_false_iff_not]; omega)
  clear hk
  have hwx : IntKind.i64.wrap x = x := IntWalk.i64_in _ (by omega)
  have hwq : IntKind.i64.wrap (x / 16) = x / 16 := IntWalk.i64_in _ (by omega)
  have hwr : IntKind.i64.wrap (x % 16) = x % 16 := IntWalk.i64_in _ (by omega)
  have htq : x.tdiv 16 = x / 16 := Int.tdiv_eq_ediv_of_nonneg h0
  have htr : x.tmod 16 = x % 16 := Int.tmod_eq_emod_of_nonneg h0
  have HB := Aside0.mk (Below.refl w.heap.size w)
  go_enter Try.func76, Try.ntmps76
  go_wp2_with (first
      | ((with_reducible refine gate_callee (f := 92) rfl ?_); refine goesL_ (some 11) rfl rfl Try.func92 (by kernel_rfl) rfl #[.slice A0 l0.length c0] rfl (by (try simp only [List.map_toArray, List.map_cons, List.map_nil]); first | done | rfl) ?_; (with_reducible refine (spec_CutCrc.calls k _ _ l0 _ _ _ ?s0 ?s1 HCC.out).mono ?_); (case s0 => repeat (first | exact HR0.out | (with_reducible refine Kd.C_alloc ?_ _) | (with_reducible refine Kd.C_drewN ?_ _) | (with_reducible refine Kd.C_drew ?_))); (case s1 => exact HC0.out); rintro e w' ⟨v, rfl, ho, hb⟩; refine ⟨_, rfl, ?_⟩; have n0_ := Aside0.mk (below_step (by repeat (first | (with_reducible first | exact HB.out | apply below_alloc | apply pw_below_drewN | apply below_drew1) | exact HB.out)) hb); clear HB; have HB := n0_; have HO := Aside0.mk ho; clear n0_ hb ho; obtain ⟨Ao, co, eo⟩ := Kd.R_slice HO.out; subst eo; obtain ⟨ad, ea, hx⟩ := Kd.at_int (Kd.R_reads' HO.out).2.2 0 (by omega) (by omega); subst ea; have hx' := hx; rw [HPX.out] at hx; simp only [rd, Int.toNat_zero, List.getD_cons_zero, Addr.add, if_true] at hx; clear hx'; obtain ⟨i0, hi0, _, hsz, _⟩ := info_parts info5; obtain ⟨A1, hcut, hA, hC⟩ := print_drop_of (P := Try.prog) (Value.int .u8) 0 22 5 .i64 Try.underlying22 hi0 hsz (some ad) co p 1 (by omega) (by omega) (Kd.R_reads' HO.out).2.1; have hd1 : p.drop (1 : Int).toNat = xs := (by rw [HPX.out]; rfl); rw [hd1] at hcut hA hC; simp only [Int.toNat_one] at hcut hC; have HR1 := Aside0.mk (Kd.C_of_reads (h1 := fun _ => rfl) (hA _ (Kd.reads_of_C (Kd.R_reads' HO.out).2.2))); have HC1 := Aside0.mk hC; clear hA hC hi0 hsz hd1)
      | ((with_reducible refine gate_callee (f := 36) rfl ?_); refine goesL_ (some 28) rfl rfl Try.func36 (by kernel_rfl) rfl #[.int .i64 (x / 16), .int .i64 1, .int .i64 2] rfl (by (try simp only [List.map_toArray, List.map_cons, List.map_nil]); first | done | rfl) ?_; (with_reducible refine (spec_l1In.calls (x / 16) 1 2 false _ HW.out).mono ?_); rintro e w' ⟨rfl, ⟨nd, rfl⟩⟩; refine ⟨_, rfl, ?_⟩)
      | ((with_reducible refine gate_dst (N := 39) rfl ?_); refine Kd.R_lit (Kd.int .u8) _ 5 ?hg (N := 39) ?hd (xs := ([] : List _)) (inner := []) (ok := fun _ => True) (okp := fun _ => True) ?hr ?hp (fun _ hk => hk) trivial (Below.refl _ _) (Nat.le_refl _) (by simp) ?_; (case hd => rfl); (case hg => rfl); (case hr => first | (go_simp; done) | (go_simp; rfl)); (case hp => exact (Reps.none _ _)); intro v1 w6 ho7 hb hg_ hnew_; clear hg_ hnew_; have n0_ := Aside0.mk (Kd.R_lower ho7 (below_size (by repeat (first | (with_reducible first | exact HB.out | apply below_alloc | apply pw_below_drewN | apply below_drew1) | exact HB.out)))); have n1_ := Aside0.mk (below_step (by repeat (first | (with_reducible first | exact HB.out | apply below_alloc | apply pw_below_drewN | apply below_drew1) | exact HB.out)) hb); clear HB; have HO1 := n0_; have HB := n1_; clear n0_ n1_; clear hb ho7))
  refine bodyPost_ret (results_list (rs := [.tmp 2, .tmp 3, .tmp 4, .tmp 5]) rfl (by simp) (.tmp (.tmp (.tmp (.tmp .nil))))) rfl ?_
  exact ⟨_, rfl, by first | exact Kd.R_nil _ _ _ _ _ | exact (by (with_reducible repeat (first | apply Kd.R_alloc | apply Kd.R_drewN | apply Kd.R_drew)); exact HO1.out), (by repeat (first | (with_reducible first | exact HB.out | apply below_alloc | apply pw_below_drewN | apply below_drew1) | exact HB.out))⟩

set_option maxHeartbeats 4000000 in
set_option maxRecDepth 100000 in
theorem spec_UnpackLink.atB (k : Nat) (A0 : Option Addr) (c0 : Nat) (l0 p : List Int) (x : Int) (xs : List Int) (w : World) (hr0 : Kd.C (Kd.int .u8) w A0 l0.length l0) (hc0 : l0.length ≤ c0) (h : spec_CutCrc.f k l0 = some (p, true)) (hp : p = x :: xs) (h0 : 0 ≤ x) (h1 : x ≤ 255)
    (hk : x / 16 = 1) :
    Calls Try.prog 76 #[.slice A0 l0.length c0] w fun e w' => ∃ v2_ : Value, e = .returned (.tuple #[.int .i64 (x / 16), .int .i64 (x % 16), v2_, .bool true]) ∧ Kd.R (Kd.int .u8) 5 w' w.heap.size (fun _ => True) v2_ xs ∧ Below w.heap.size w w' := by
  have HR0 := Aside0.mk hr0
  have HC0 := Aside0.mk hc0
  have HCC := Aside0.mk h
  have hpl := spec_CutCrc.short h
  have HPL := Aside0.mk hpl
  have hpe : ((p.length : Int) == 0) = false := by rw [hp]; simp; omega
  have hp0 : 0 < p.length := by rw [hp]; simp
  have hpi : (0 : Int) < p.length := by omega
  have hp1 : 1 ≤ p.length := by omega
  have hxs : xs.length = p.length - 1 := by rw [hp]; simp
  have HXL := Aside0.mk (show xs.length ≤ 600 by omega)
  have HPX := Aside0.mk hp
  clear hr0 hc0 h hp hxs hpl
  have HW := Aside0.mk (show spec_l1In.f (x / 16) 1 2 = some true by rw [l1In_ok, hk]; rfl)
  have hk2 : (x / 16 == 2) = false := by rw [hk]; rfl
  have HCL := Aside0.mk (show bytes_Clone.f xs = some xs from if_pos (by have := HXL.out; omega))
  clear hk
  have hwx : IntKind.i64.wrap x = x := IntWalk.i64_in _ (by omega)
  have hwq : IntKind.i64.wrap (x / 16) = x / 16 := IntWalk.i64_in _ (by omega)
  have hwr : IntKind.i64.wrap (x % 16) = x % 16 := IntWalk.i64_in _ (by omega)
  have htq : x.tdiv 16 = x / 16 := Int.tdiv_eq_ediv_of_nonneg h0
  have htr : x.tmod 16 = x % 16 := Int.tmod_eq_emod_of_nonneg h0
  have HB := Aside0.mk (Below.refl w.heap.size w)
  go_enter Try.func76, Try.ntmps76
  go_wp2_with (first
      | ((with_reducible refine gate_callee (f := 92) rfl ?_); refine goesL_ (some 11) rfl rfl Try.func92 (by kernel_rfl) rfl #[.slice A0 l0.length c0] rfl (by (try simp only [List.map_toArray, List.map_cons, List.map_nil]); first | done | rfl) ?_; (with_reducible refine (spec_CutCrc.calls k _ _ l0 _ _ _ ?s0 ?s1 HCC.out).mono ?_); (case s0 => repeat (first | exact HR0.out | (with_reducible refine Kd.C_alloc ?_ _) | (with_reducible refine Kd.C_drewN ?_ _) | (with_reducible refine Kd.C_drew ?_))); (case s1 => exact HC0.out); rintro e w' ⟨v, rfl, ho, hb⟩; refine ⟨_, rfl, ?_⟩; have n0_ := Aside0.mk (below_step (by repeat (first | (with_reducible first | exact HB.out | apply below_alloc | apply pw_below_drewN | apply below_drew1) | exact HB.out)) hb); clear HB; have HB := n0_; have HO := Aside0.mk ho; clear n0_ hb ho; obtain ⟨Ao, co, eo⟩ := Kd.R_slice HO.out; subst eo; obtain ⟨ad, ea, hx⟩ := Kd.at_int (Kd.R_reads' HO.out).2.2 0 (by omega) (by omega); subst ea; have hx' := hx; rw [HPX.out] at hx; simp only [rd, Int.toNat_zero, List.getD_cons_zero, Addr.add, if_true] at hx; clear hx'; obtain ⟨i0, hi0, _, hsz, _⟩ := info_parts info5; obtain ⟨A1, hcut, hA, hC⟩ := print_drop_of (P := Try.prog) (Value.int .u8) 0 22 5 .i64 Try.underlying22 hi0 hsz (some ad) co p 1 (by omega) (by omega) (Kd.R_reads' HO.out).2.1; have hd1 : p.drop (1 : Int).toNat = xs := (by rw [HPX.out]; rfl); rw [hd1] at hcut hA hC; simp only [Int.toNat_one] at hcut hC; have HR1 := Aside0.mk (Kd.C_of_reads (h1 := fun _ => rfl) (hA _ (Kd.reads_of_C (Kd.R_reads' HO.out).2.2))); have HC1 := Aside0.mk hC; clear hA hC hi0 hsz hd1)
      | ((with_reducible refine gate_callee (f := 36) rfl ?_); refine goesL_ (some 28) rfl rfl Try.func36 (by kernel_rfl) rfl #[.int .i64 (x / 16), .int .i64 1, .int .i64 2] rfl (by (try simp only [List.map_toArray, List.map_cons, List.map_nil]); first | done | rfl) ?_; (with_reducible refine (spec_l1In.calls (x / 16) 1 2 true _ HW.out).mono ?_); rintro e w' ⟨rfl, ⟨nd, rfl⟩⟩; refine ⟨_, rfl, ?_⟩))
  go_region_held3 (fun W => W.cell? ad = some (.int .u8 x)) (first | go_keep | (exact (World.cell?_of_block (hg.block ad.block (by have := World.block_lt_of_cell? _ _ hx; simp; omega) (by have := World.block_lt_of_cell? _ _ hx; simp [Value.ownBlock]; omega))).trans ((World.cell?_alloc_lt _ _ _ (by have := World.block_lt_of_cell? _ _ hx; simpa using this)).trans hx))) ((refine Kd.R_append_rows_step (Kd.int .u8) (w0 := w) w.heap.size (by first | assumption | rfl | (go_simp; done)) (.tmp 46) (.tmp 48) 22 5 (.int .u8 0) 1 (by rfl) Try.underlying22 info5 rfl (by decide) (by omega) _ [] xs _ _ _ (fun _ => True) (fun _ => False) (by rfl) (by rfl) (R_empty _ _ (below_size (by repeat (first | (with_reducible first | exact HB.out | apply below_alloc | apply pw_below_drewN | apply below_drew1) | exact HB.out)))) (show Kd.C (Kd.int .u8) _ _ _ _ from by repeat (first | exact HR1.out | (with_reducible refine Kd.C_alloc ?_ _) | (with_reducible refine Kd.C_drewN ?_ _) | (with_reducible refine Kd.C_drew ?_))) (fun _ _ h => h) (fun _ h => h.elim) (fun _ _ => trivial) (by repeat (first | (with_reducible first | exact HB.out | apply below_alloc | apply pw_below_drewN | apply below_drew1) | exact HB.out)) (below_size (by repeat (first | (with_reducible first | exact HB.out | apply below_alloc | apply pw_below_drewN | apply below_drew1) | exact HB.out))) (by have := HXL.out; simp; omega) ?_; intro v2 w8 ho hb hg hat))
  have HO2 := Aside0.mk ho
  have HB2 := Aside0.mk hb
  clear ho hb hg hat
  go_wp2
  refine bodyPost_ret (results_list (rs := [.tmp 2, .tmp 3, .tmp 4, .tmp 5]) rfl (by simp) (.tmp (.tmp (.tmp (.tmp .nil))))) rfl ?_
  exact ⟨_, rfl, by simpa using HO2.out, HB2.out⟩

set_option maxHeartbeats 4000000 in
set_option maxRecDepth 100000 in
theorem spec_UnpackLink.atC (k : Nat) (A0 : Option Addr) (c0 : Nat) (l0 p : List Int) (x : Int) (xs : List Int) (w : World) (hr0 : Kd.C (Kd.int .u8) w A0 l0.length l0) (hc0 : l0.length ≤ c0) (h : spec_CutCrc.f k l0 = some (p, true)) (hp : p = x :: xs) (h0 : 0 ≤ x) (h1 : x ≤ 255)
    (hk : x / 16 = 2) (hx0 : xs = []) :
    Calls Try.prog 76 #[.slice A0 l0.length c0] w fun e w' => ∃ v2_ : Value, e = .returned (.tuple #[.int .i64 (x / 16), .int .i64 (x % 16), v2_, .bool true]) ∧ Kd.R (Kd.int .u8) 5 w' w.heap.size (fun _ => True) v2_ xs ∧ Below w.heap.size w w' := by
  have HR0 := Aside0.mk hr0
  have HC0 := Aside0.mk hc0
  have HCC := Aside0.mk h
  have hpl := spec_CutCrc.short h
  have HPL := Aside0.mk hpl
  have hpe : ((p.length : Int) == 0) = false := by rw [hp]; simp; omega
  have hp0 : 0 < p.length := by rw [hp]; simp
  have hpi : (0 : Int) < p.length := by omega
  have hp1 : 1 ≤ p.length := by omega
  have hxs : xs.length = p.length - 1 := by rw [hp]; simp
  have HXL := Aside0.mk (show xs.length ≤ 600 by omega)
  have HPX := Aside0.mk hp
  clear hr0 hc0 h hp hxs hpl
  have HW := Aside0.mk (show spec_l1In.f (x / 16) 1 2 = some true by rw [l1In_ok, hk]; rfl)
  have hk2 : (x / 16 == 2) = true := by rw [hk]; rfl
  have hl1 : decide ((1 : Int) < p.length) = false := decide_eq_false (by rw [HPX.out, hx0]; simp)
  have hl2 : decide (1 < p.length) = false := decide_eq_false (by rw [HPX.out, hx0]; simp)
  have HCL := Aside0.mk (show bytes_Clone.f xs = some xs from if_pos (by have := HXL.out; omega))
  clear hk hx0
  have hwx : IntKind.i64.wrap x = x := IntWalk.i64_in _ (by omega)
  have hwq : IntKind.i64.wrap (x / 16) = x / 16 := IntWalk.i64_in _ (by omega)
  have hwr : IntKind.i64.wrap (x % 16) = x % 16 := IntWalk.i64_in _ (by omega)
  have htq : x.tdiv 16 = x / 16 := Int.tdiv_eq_ediv_of_nonneg h0
  have htr : x.tmod 16 = x % 16 := Int.tmod_eq_emod_of_nonneg h0
  have HB := Aside0.mk (Below.refl w.heap.size w)
  go_enter Try.func76, Try.ntmps76
  go_wp2_with (first
      | ((with_reducible refine gate_callee (f := 92) rfl ?_); refine goesL_ (some 11) rfl rfl Try.func92 (by kernel_rfl) rfl #[.slice A0 l0.length c0] rfl (by (try simp only [List.map_toArray, List.map_cons, List.map_nil]); first | done | rfl) ?_; (with_reducible refine (spec_CutCrc.calls k _ _ l0 _ _ _ ?s0 ?s1 HCC.out).mono ?_); (case s0 => repeat (first | exact HR0.out | (with_reducible refine Kd.C_alloc ?_ _) | (with_reducible refine Kd.C_drewN ?_ _) | (with_reducible refine Kd.C_drew ?_))); (case s1 => exact HC0.out); rintro e w' ⟨v, rfl, ho, hb⟩; refine ⟨_, rfl, ?_⟩; have n0_ := Aside0.mk (below_step (by repeat (first | (with_reducible first | exact HB.out | apply below_alloc | apply pw_below_drewN | apply below_drew1) | exact HB.out)) hb); clear HB; have HB := n0_; have HO := Aside0.mk ho; clear n0_ hb ho; obtain ⟨Ao, co, eo⟩ := Kd.R_slice HO.out; subst eo; obtain ⟨ad, ea, hx⟩ := Kd.at_int (Kd.R_reads' HO.out).2.2 0 (by omega) (by omega); subst ea; have hx' := hx; rw [HPX.out] at hx; simp only [rd, Int.toNat_zero, List.getD_cons_zero, Addr.add, if_true] at hx; clear hx'; obtain ⟨i0, hi0, _, hsz, _⟩ := info_parts info5; obtain ⟨A1, hcut, hA, hC⟩ := print_drop_of (P := Try.prog) (Value.int .u8) 0 22 5 .i64 Try.underlying22 hi0 hsz (some ad) co p 1 (by omega) (by omega) (Kd.R_reads' HO.out).2.1; have hd1 : p.drop (1 : Int).toNat = xs := (by rw [HPX.out]; rfl); rw [hd1] at hcut hA hC; simp only [Int.toNat_one] at hcut hC; have HR1 := Aside0.mk (Kd.C_of_reads (h1 := fun _ => rfl) (hA _ (Kd.reads_of_C (Kd.R_reads' HO.out).2.2))); have HC1 := Aside0.mk hC; clear hA hC hi0 hsz hd1)
      | ((with_reducible refine gate_callee (f := 36) rfl ?_); refine goesL_ (some 28) rfl rfl Try.func36 (by kernel_rfl) rfl #[.int .i64 (x / 16), .int .i64 1, .int .i64 2] rfl (by (try simp only [List.map_toArray, List.map_cons, List.map_nil]); first | done | rfl) ?_; (with_reducible refine (spec_l1In.calls (x / 16) 1 2 true _ HW.out).mono ?_); rintro e w' ⟨rfl, ⟨nd, rfl⟩⟩; refine ⟨_, rfl, ?_⟩))
  go_region_held3 (fun W => W.cell? ad = some (.int .u8 x)) (first | go_keep | (exact (World.cell?_of_block (hg.block ad.block (by have := World.block_lt_of_cell? _ _ hx; simp; omega) (by have := World.block_lt_of_cell? _ _ hx; simp [Value.ownBlock]; omega))).trans ((World.cell?_alloc_lt _ _ _ (by have := World.block_lt_of_cell? _ _ hx; simpa using this)).trans hx))) ((refine Kd.R_append_rows_step (Kd.int .u8) (w0 := w) w.heap.size (by first | assumption | rfl | (go_simp; done)) (.tmp 46) (.tmp 48) 22 5 (.int .u8 0) 1 (by rfl) Try.underlying22 info5 rfl (by decide) (by omega) _ [] xs _ _ _ (fun _ => True) (fun _ => False) (by rfl) (by rfl) (R_empty _ _ (below_size (by repeat (first | (with_reducible first | exact HB.out | apply below_alloc | apply pw_below_drewN | apply below_drew1) | exact HB.out)))) (show Kd.C (Kd.int .u8) _ _ _ _ from by repeat (first | exact HR1.out | (with_reducible refine Kd.C_alloc ?_ _) | (with_reducible refine Kd.C_drewN ?_ _) | (with_reducible refine Kd.C_drew ?_))) (fun _ _ h => h) (fun _ h => h.elim) (fun _ _ => trivial) (by repeat (first | (with_reducible first | exact HB.out | apply below_alloc | apply pw_below_drewN | apply below_drew1) | exact HB.out)) (below_size (by repeat (first | (with_reducible first | exact HB.out | apply below_alloc | apply pw_below_drewN | apply below_drew1) | exact HB.out))) (by have := HXL.out; simp; omega) ?_; intro v2 w8 ho hb hg hat))
  have HO2 := Aside0.mk ho
  have HB2 := Aside0.mk hb
  clear ho hb hg hat
  go_wp2
  refine bodyPost_ret (results_list (rs := [.tmp 2, .tmp 3, .tmp 4, .tmp 5]) rfl (by simp) (.tmp (.tmp (.tmp (.tmp .nil))))) rfl ?_
  exact ⟨_, rfl, by simpa using HO2.out, HB2.out⟩

set_option maxHeartbeats 4000000 in
set_option maxRecDepth 100000 in
theorem spec_UnpackLink.atD (k : Nat) (A0 : Option Addr) (c0 : Nat) (l0 p : List Int) (x : Int) (xs : List Int) (w : World) (hr0 : Kd.C (Kd.int .u8) w A0 l0.length l0) (hc0 : l0.length ≤ c0) (h : spec_CutCrc.f k l0 = some (p, true)) (hp : p = x :: xs) (h0 : 0 ≤ x) (h1 : x ≤ 255)
    (hk : x / 16 = 2) (hx0 : xs ≠ []) :
    Calls Try.prog 76 #[.slice A0 l0.length c0] w fun e w' => ∃ v2_ : Value, e = .returned (.tuple #[.int .i64 0, .int .i64 0, v2_, .bool false]) ∧ Kd.R (Kd.int .u8) 5 w' w.heap.size (fun _ => True) v2_ [] ∧ Below w.heap.size w w' := by
  have HR0 := Aside0.mk hr0
  have HC0 := Aside0.mk hc0
  have HCC := Aside0.mk h
  have hpl := spec_CutCrc.short h
  have HPL := Aside0.mk hpl
  have hpe : ((p.length : Int) == 0) = false := by rw [hp]; simp; omega
  have hp0 : 0 < p.length := by rw [hp]; simp
  have hpi : (0 : Int) < p.length := by omega
  have hp1 : 1 ≤ p.length := by omega
  have hxs : xs.length = p.length - 1 := by rw [hp]; simp
  have HXL := Aside0.mk (show xs.length ≤ 600 by omega)
  have HPX := Aside0.mk hp
  clear hr0 hc0 h hp hxs hpl
  have HW := Aside0.mk (show spec_l1In.f (x / 16) 1 2 = some true by rw [l1In_ok, hk]; rfl)
  have hk2 : (x / 16 == 2) = true := by rw [hk]; rfl
  have hl0 : 1 < p.length := by rw [HPX.out]; have := List.length_pos_iff.2 hx0; simp; omega
  have hl1 : decide ((1 : Int) < p.length) = true := decide_eq_true (by omega)
  have hl2 : decide (1 < p.length) = true := decide_eq_true hl0
  clear hk hx0 hl0
  have hwx : IntKind.i64.wrap x = x := IntWalk.i64_in _ (by omega)
  have hwq : IntKind.i64.wrap (x / 16) = x / 16 := IntWalk.i64_in _ (by omega)
  have hwr : IntKind.i64.wrap (x % 16) = x % 16 := IntWalk.i64_in _ (by omega)
  have htq : x.tdiv 16 = x / 16 := Int.tdiv_eq_ediv_of_nonneg h0
  have htr : x.tmod 16 = x % 16 := Int.tmod_eq_emod_of_nonneg h0
  have HB := Aside0.mk (Below.refl w.heap.size w)
  go_enter Try.func76, Try.ntmps76
  go_wp2_with (first
      | ((with_reducible refine gate_callee (f := 92) rfl ?_); refine goesL_ (some 11) rfl rfl Try.func92 (by kernel_rfl) rfl #[.slice A0 l0.length c0] rfl (by (try simp only [List.map_toArray, List.map_cons, List.map_nil]); first | done | rfl) ?_; (with_reducible refine (spec_CutCrc.calls k _ _ l0 _ _ _ ?s0 ?s1 HCC.out).mono ?_); (case s0 => repeat (first | exact HR0.out | (with_reducible refine Kd.C_alloc ?_ _) | (with_reducible refine Kd.C_drewN ?_ _) | (with_reducible refine Kd.C_drew ?_))); (case s1 => exact HC0.out); rintro e w' ⟨v, rfl, ho, hb⟩; refine ⟨_, rfl, ?_⟩; have n0_ := Aside0.mk (below_step (by repeat (first | (with_reducible first | exact HB.out | apply below_alloc | apply pw_below_drewN | apply below_drew1) | exact HB.out)) hb); clear HB; have HB := n0_; have HO := Aside0.mk ho; clear n0_ hb ho; obtain ⟨Ao, co, eo⟩ := Kd.R_slice HO.out; subst eo; obtain ⟨ad, ea, hx⟩ := Kd.at_int (Kd.R_reads' HO.out).2.2 0 (by omega) (by omega); subst ea; have hx' := hx; rw [HPX.out] at hx; simp only [rd, Int.toNat_zero, List.getD_cons_zero, Addr.add, if_true] at hx; clear hx'; obtain ⟨i0, hi0, _, hsz, _⟩ := info_parts info5; obtain ⟨A1, hcut, hA, hC⟩ := print_drop_of (P := Try.prog) (Value.int .u8) 0 22 5 .i64 Try.underlying22 hi0 hsz (some ad) co p 1 (by omega) (by omega) (Kd.R_reads' HO.out).2.1; have hd1 : p.drop (1 : Int).toNat = xs := (by rw [HPX.out]; rfl); rw [hd1] at hcut hA hC; simp only [Int.toNat_one] at hcut hC; have HR1 := Aside0.mk (Kd.C_of_reads (h1 := fun _ => rfl) (hA _ (Kd.reads_of_C (Kd.R_reads' HO.out).2.2))); have HC1 := Aside0.mk hC; clear hA hC hi0 hsz hd1)
      | ((with_reducible refine gate_callee (f := 36) rfl ?_); refine goesL_ (some 28) rfl rfl Try.func36 (by kernel_rfl) rfl #[.int .i64 (x / 16), .int .i64 1, .int .i64 2] rfl (by (try simp only [List.map_toArray, List.map_cons, List.map_nil]); first | done | rfl) ?_; (with_reducible refine (spec_l1In.calls (x / 16) 1 2 true _ HW.out).mono ?_); rintro e w' ⟨rfl, ⟨nd, rfl⟩⟩; refine ⟨_, rfl, ?_⟩)
      | ((with_reducible refine gate_dst (N := 39) rfl ?_); refine Kd.R_lit (Kd.int .u8) _ 5 ?hg (N := 39) ?hd (xs := ([] : List _)) (inner := []) (ok := fun _ => True) (okp := fun _ => True) ?hr ?hp (fun _ hk => hk) trivial (Below.refl _ _) (Nat.le_refl _) (by simp) ?_; (case hd => rfl); (case hg => rfl); (case hr => first | (go_simp; done) | (go_simp; rfl)); (case hp => exact (Reps.none _ _)); intro v1 w6 ho7 hb hg_ hnew_; clear hg_ hnew_; have n0_ := Aside0.mk (Kd.R_lower ho7 (below_size (by repeat (first | (with_reducible first | exact HB.out | apply below_alloc | apply pw_below_drewN | apply below_drew1) | exact HB.out)))); have n1_ := Aside0.mk (below_step (by repeat (first | (with_reducible first | exact HB.out | apply below_alloc | apply pw_below_drewN | apply below_drew1) | exact HB.out)) hb); clear HB; have HO1 := n0_; have HB := n1_; clear n0_ n1_; clear hb ho7))
  refine bodyPost_ret (results_list (rs := [.tmp 2, .tmp 3, .tmp 4, .tmp 5]) rfl (by simp) (.tmp (.tmp (.tmp (.tmp .nil))))) rfl ?_
  exact ⟨_, rfl, by first | exact Kd.R_nil _ _ _ _ _ | exact (by (with_reducible repeat (first | apply Kd.R_alloc | apply Kd.R_drewN | apply Kd.R_drew)); exact HO1.out), (by repeat (first | (with_reducible first | exact HB.out | apply below_alloc | apply pw_below_drewN | apply below_drew1) | exact HB.out))⟩

theorem spec_UnpackLink.calls (k : Nat) (A0 : Option Addr) (c0 : Nat) (l0 : List Int) (r1 r2 : Int) (r3 : List Int) (r4 : Bool) (w : World) (hr0 : Kd.C (Kd.int .u8) w A0 l0.length l0) (hc0 : l0.length ≤ c0) (h : spec_UnpackLink.f k l0 = some (r1, r2, r3, r4)) :
    Calls Try.prog 76 #[.slice A0 l0.length c0] w fun e w' => ∃ v2_ : Value, e = .returned (.tuple #[.int .i64 r1, .int .i64 r2, v2_, .bool r4]) ∧ Kd.R (Kd.int .u8) 5 w' w.heap.size (fun _ => True) v2_ r3 ∧ Below w.heap.size w w' := by
  unfold spec_UnpackLink.f at h
  obtain ⟨⟨p, b⟩, hp, h⟩ := Option.bind_eq_some_iff.1 h
  cases b
  · rw [if_neg (by simp)] at h
    simp only [Option.some.injEq, Prod.mk.injEq] at h
    obtain ⟨rfl, rfl, rfl, rfl⟩ := h
    exact spec_UnpackLink.no k A0 c0 l0 p false w hr0 hc0 hp (.inl rfl)
  · rw [if_pos rfl] at h
    simp only at h
    rcases p with _ | ⟨x, xs⟩
    · simp only [unpk, Option.some.injEq, Prod.mk.injEq] at h
      obtain ⟨rfl, rfl, rfl, rfl⟩ := h
      exact spec_UnpackLink.no k A0 c0 l0 [] true w hr0 hc0 hp (.inr rfl)
    · simp only [unpk] at h
      by_cases hx : 0 ≤ x ∧ x ≤ 255
      · rw [if_pos hx] at h
        by_cases hk : (1 ≤ x / 16 ∧ x / 16 ≤ 2) ∧ ¬ (x / 16 = 2 ∧ xs ≠ [])
        · rw [if_pos hk] at h
          simp only [Option.some.injEq, Prod.mk.injEq] at h
          obtain ⟨rfl, rfl, rfl, rfl⟩ := h
          rcases (show x / 16 = 1 ∨ x / 16 = 2 by omega) with h1 | h2
          · exact spec_UnpackLink.atB k A0 c0 l0 _ x xs w hr0 hc0 hp rfl hx.1 hx.2 h1
          · have hx0 : xs = [] := Classical.byContradiction fun hc => hk.2 ⟨h2, hc⟩
            exact spec_UnpackLink.atC k A0 c0 l0 _ x xs w hr0 hc0 hp rfl hx.1 hx.2 h2 hx0
        · rw [if_neg hk] at h
          simp only [Option.some.injEq, Prod.mk.injEq] at h
          obtain ⟨rfl, rfl, rfl, rfl⟩ := h
          by_cases h1 : 1 ≤ x / 16 ∧ x / 16 ≤ 2
          · have h2 : x / 16 = 2 ∧ xs ≠ [] := Classical.byContradiction fun hc => hk ⟨h1, hc⟩
            exact spec_UnpackLink.atD k A0 c0 l0 _ x xs w hr0 hc0 hp rfl hx.1 hx.2 h2.1 h2.2
          · exact spec_UnpackLink.atA k A0 c0 l0 _ x xs w hr0 hc0 hp rfl hx.1 hx.2 h1
      · rw [if_neg hx] at h
        cases h
end Go.Proofs.Ytookabfmbimnoaa.Lk
