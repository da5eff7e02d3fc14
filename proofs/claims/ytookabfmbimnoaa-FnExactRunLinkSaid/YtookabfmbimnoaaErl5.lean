/- What the walks of this claim need: printed by a program of this session (wip/pack.py) out of the session's texts and of the words that the kit's print.sh lays; under no condition beyond those in each theorem. Lean checks it. -/
import Derived.Test.YtookabfmbimnoaaErl4
import Derived.Shelf.SlSortCmp.InsertionK
namespace Go.Proofs.Ytookabfmbimnoaa.Lk
open Go.RowKit Go.Proofs.YtookabfmbimnoaaW.PrintWords Go.Proofs.YtookabfmbimnoaaW.PrintLast Go.Proofs.YtookabfmbimnoaaW.PrintMore
open Go.Sort
set_option linter.unusedVariables false
set_option linter.unusedSimpArgs false
def l99_ren : Go.Shelf.Ren := ⟨fun | 20 => 99 | n => n, fun | 24 => 91 | 22 => 89 | 3 => 3 | 25 => 95 | 4 => 4 | 0 => 0 | n => n, fun | n => n⟩
theorem l99 : Go.Proofs.SlLaysF0.n20 Try.prog l99_ren := {
  mixed := by kernel_rfl
  f20 := ⟨Try.f99.name, by decide, Try.func99.trans (congrArg some (by kernel_rfl))⟩
  t0 := Try.underlying0
  a0 := Try.isAgg0
  z0 := Try.sizeOf0
  v0 := Try.zeroValue0
  t3 := Try.underlying3
  a3 := Try.isAgg3
  z3 := Try.sizeOf3
  v3 := Try.zeroValue3
  t4 := Try.underlying4
  a4 := Try.isAgg4
  z4 := Try.sizeOf4
  v4 := Try.zeroValue4
  t22 := Try.underlying89
  a22 := Try.isAgg89
  z22 := Try.sizeOf89
  v22 := Try.zeroValue89
  t25 := Try.underlying95
  a25 := Try.isAgg95
  z25 := Try.sizeOf95
  v25 := Try.zeroValue95 }
/-- An arrival's two cells. -/
def encA (x : Int × Int) : List Value := [.int .i64 x.1, .int .i64 x.2]
theorem insertion99 (blk off cap : Nat) (d : Array (Int × Int)) (w : World) (hH : HoldsK encA 2 w blk off d) (hblk : blk < w.heap.size) (hsz : d.size < 4611686018427387904) :
    Calls Try.prog 99 #[.slice (some ⟨blk, off, none⟩) d.size cap, .int .i64 (0 : Nat), .int .i64 d.size, .func (.func 82) #[] #[]] w fun e w' =>
      e = .returned (.tuple #[]) ∧ ∃ n os, w' = sortWorldK encA 2 w blk off n (Sort.insertionSort (ltOf cmpA) d 0 d.size) os :=
  AnyQ.insertionSortCmpFunc l99 2 Try.isAgg91 Try.sizeOf91 encA (fun _ => rfl) (fun x v hv => by simp [encA] at hv; rcases hv with rfl | rfl <;> rfl) cmpA 82 #[] blk off cap 0 d.size d w (enters_of Try.func82 (by kernel_rfl) rfl) (fun _ _ _ _ x y => closure82 x y _) hH hblk (by omega) (by omega) hsz
set_option maxHeartbeats 1000000 in
theorem stable94 (blk off cap : Nat) (d : Array (Int × Int)) (w : World) (hH : HoldsK encA 2 w blk off d) (hblk : blk < w.heap.size) (hsz : d.size ≤ 19) :
    Calls Try.prog 94 #[.slice (some ⟨blk, off, none⟩) d.size cap, .int .i64 d.size, .func (.func 82) #[] #[]] w fun e w' =>
      e = .returned (.tuple #[]) ∧ ∃ n os, w' = sortWorldK encA 2 w blk off n (Sort.insertionSort (ltOf cmpA) d 0 d.size) os := by
  have HC := Aside0.mk (insertion99 blk off cap d w hH hblk (by omega))
  have h1 : decide ((20 : Int) ≤ d.size) = false := decide_eq_false (by omega)
  have h2 : decide ((20 : Int) < d.size) = false := decide_eq_false (by omega)
  have h3 : (d.size : Int) < 20 := by omega
  clear hH hblk hsz
  go_enter Try.func94, Try.ntmps94
  go_wp2
  refine wp_loop_rounds 1 ?_
  rw [rounds_succ]
  go_wp2_with (go_at_call 99; refine HC.out.mono ?_; rintro e w' ⟨rfl, hw⟩; have HW := Aside0.mk hw; clear hw)
  refine wp_loop_rounds 1 ?_
  rw [rounds_succ]
  go_wp2
  go_end0
  exact ⟨rfl, HW.out⟩
theorem sortStable81 (blk off cap : Nat) (d : Array (Int × Int)) (w : World) (hH : HoldsK encA 2 w blk off d) (hblk : blk < w.heap.size) (hsz : d.size ≤ 19) :
    Calls Try.prog 81 #[.slice (some ⟨blk, off, none⟩) d.size cap, .func (.func 82) #[] #[]] w fun e w' =>
      e = .returned (.tuple #[]) ∧ ∃ n os, w' = sortWorldK encA 2 w blk off n (Sort.insertionSort (ltOf cmpA) d 0 d.size) os := by
  have HC := Aside0.mk (stable94 blk off cap d w hH hblk hsz)
  clear hH hblk hsz
  go_enter Try.func81, Try.ntmps81
  go_wp2_with (go_at_call 94; refine HC.out.mono ?_; rintro e w' ⟨rfl, hw⟩; have HW := Aside0.mk hw; clear hw)
  go_end0
  exact ⟨rfl, HW.out⟩
end Go.Proofs.Ytookabfmbimnoaa.Lk

namespace Go.Proofs.Ytookabfmbimnoaa.Lk
open Go.RowKit Go.Proofs.YtookabfmbimnoaaW.PrintWords Go.Proofs.YtookabfmbimnoaaW.PrintLast Go.Proofs.YtookabfmbimnoaaW.PrintMore
open Go.Sort
set_option linter.unusedVariables false
set_option linter.unusedSimpArgs false

def flatA (xs : List (Int × Int)) : List Value := xs.flatMap encA
theorem flatA_length (xs : List (Int × Int)) : (flatA xs).length = xs.length * 2 := by
  induction xs with
  | nil => rfl
  | cons x xs ih => simp only [flatA, List.flatMap_cons, List.length_append] at ih ⊢; rw [ih]; simp [encA]; omega
theorem flatA_get : ∀ (xs : List (Int × Int)) (t : Nat), t < xs.length * 2 → (flatA xs)[t]? = some ((encA (xs[t / 2]!))[t % 2]!)
  | [], t, h => by simp at h
  | x :: xs, 0, h => by simp [flatA, encA]
  | x :: xs, 1, h => by simp [flatA, encA]
  | x :: xs, t + 2, h => by
    have ih := flatA_get xs t (by simp at h; omega)
    have e1 : (t + 2) / 2 = t / 2 + 1 := by omega
    have e2 : (t + 2) % 2 = t % 2 := by omega
    rw [e1, e2]
    simpa [flatA, encA] using ih
theorem flatA_flatK (xs : List (Int × Int)) (t : Nat) (h : t < xs.length * 2) : (flatA xs)[t]? = some (flatK encA 2 xs.toArray)[t]! := by
  rw [flatA_get xs t h, get_flatK _ _ _ _ (by simpa using h)]
  simp
theorem own_holdsA {W : World} {base g cap : Nat} {xs : List (Int × Int)} (h : W.ownsRow base 91 2 (.slice (some ⟨g, 0, none⟩) xs.length cap) xs.length (flatA xs)) : HoldsK encA 2 W g 0 xs.toArray ∧ g < W.heap.size := by
  rcases h.2 with ⟨h0, _⟩ | ⟨g', cap', cur, hv, _, hh, hle, _, hsz, htk⟩
  · cases h0
  · injection hv with ha _ hcap
    injection ha with ha
    injection ha with ha
    subst ha
    subst hcap
    refine ⟨fun j hj => ?_, (Array.getElem?_eq_some_iff.1 hh).1⟩
    rw [size_flatK] at hj
    have hj' : j < xs.length * 2 := by simpa using hj
    have h1 := flatA_flatK xs j hj'
    have hlt : j < cur.size := by rw [hsz]; exact Nat.lt_of_lt_of_le hj' (Nat.mul_le_mul_right _ hle)
    rw [← htk, List.getElem?_take_of_lt hj'] at h1
    have h2 : cur[j]? = some (flatK encA 2 xs.toArray)[j]! := by simpa using h1
    constructor
    · simp only [World.cell?, Nat.zero_add, hh]
      simpa using h2
    · simp [World.frozen?, hh]
theorem sorted_own {W : World} {base g cap : Nat} {xs ys : List (Int × Int)} (h : W.ownsRow base 91 2 (.slice (some ⟨g, 0, none⟩) xs.length cap) xs.length (flatA xs)) (m : Nat) (os : Array Obj) (hl : ys.length = xs.length) :
    (sortWorldK encA 2 W g 0 m ys.toArray os).ownsRow base 91 2 (.slice (some ⟨g, 0, none⟩) ys.length cap) ys.length (flatA ys) := by
  rcases h.2 with ⟨h0, _⟩ | ⟨g', cap', cur, hv, hb, hh, hle, hcm, hsz, htk⟩
  · cases h0
  · injection hv with ha _ hcap
    injection ha with ha
    injection ha with ha
    subst ha
    subst hcap
    have hlt : g < W.heap.size := (Array.getElem?_eq_some_iff.1 hh).1
    have hheap : (sortWorldK encA 2 W g 0 m ys.toArray os).heap[g]? = some (.cells (putCells id 0 (flatK encA 2 ys.toArray) cur) 91 (0, 0)) := by
      unfold sortWorldK putRowK putRow
      rw [heap_grow_old _ _ (by simp [mapBlock, ahead]; exact hlt)]
      simp only [mapBlock, Array.getElem?_modify, if_true]
      show Option.map _ W.heap[g]? = _
      rw [hh]
      rfl
    refine ⟨flatA_length ys, .inr ⟨g, cap, _, rfl, hb, hheap, by omega, hcm, by simp [putCells, hsz], ?_⟩⟩
    apply List.ext_getElem?
    intro t
    rcases Nat.lt_or_ge t (ys.length * 2) with ht | ht
    · rw [List.getElem?_take_of_lt ht, flatA_flatK ys t ht]
      have hc : t < cur.size := by rw [hsz]; exact Nat.lt_of_lt_of_le ht (Nat.mul_le_mul_right _ (by omega))
      simp only [putCells, Array.getElem?_toList, Array.getElem?_mapIdx, Array.getElem?_eq_getElem hc, Option.map_some, Nat.zero_add, Nat.sub_zero, id]
      rw [if_pos ⟨Nat.zero_le _, by simpa using ht⟩]
    · rw [List.getElem?_eq_none (by simp; omega), List.getElem?_eq_none (by rw [flatA_length]; exact ht)]
theorem sorted_grown {W : World} {g : Nat} (hg : g < W.heap.size) (m : Nat) (d : Array (Int × Int)) (os : Array Obj) : W.grownBy (sortWorldK encA 2 W g 0 m d os) (some g) := by
  refine ⟨rfl, rfl, rfl, by simp [sortWorldK, putRowK, putRow, mapBlock, ahead], fun i hi hne => ?_⟩
  unfold sortWorldK putRowK putRow
  rw [heap_grow_old _ _ (by simp [mapBlock, ahead]; exact hi)]
  have hne' : g ≠ i := fun e => hne (by rw [e])
  simp [mapBlock, ahead, Array.getElem?_modify, hne']
end Go.Proofs.Ytookabfmbimnoaa.Lk

namespace Go.Proofs.Ytookabfmbimnoaa.Lk
open Go.RowKit Go.Proofs.YtookabfmbimnoaaW.PrintWords Go.Proofs.YtookabfmbimnoaaW.PrintLast Go.Proofs.YtookabfmbimnoaaW.PrintMore
open Go.Sort
set_option linter.unusedVariables false
set_option linter.unusedSimpArgs false

/-- The kind of an arrival: two whole numbers. -/
def kdA : Kd (Int × Int) := Kd.pair (Kd.int .i64) (Kd.int .i64)
theorem kdA_at {w : World} {A : Option Addr} {n : Nat} {xs : List (Int × Int)} (h : kdA.C w A n xs) (i : Nat) (h1 : i < xs.length) :
    ∃ ad, A = some ad ∧ w.cell? (ad.add (i * 2)) = some (.int .i64 xs[i].1) ∧ w.cell? (ad.add (i * 2 + 1)) = some (.int .i64 xs[i].2) := by
  obtain ⟨ad, c, hA, hcl, ⟨c0, c1, hc, hk0, hk1⟩, hcell⟩ := Kd.C_get h (0, 0) (i : Int) (by omega) (by have := h.1; omega)
  rw [show xs.getD (i : Int).toNat (0, 0) = xs[i] by simp [h1]] at hk0 hk1
  have hk0' : c0 = [.int .i64 xs[i].1] := hk0
  have hk1' : c1 = [.int .i64 xs[i].2] := hk1
  subst hk0' hk1'
  exact ⟨ad, hA, by simpa [kdA, Kd.pair, Kd.int, Kd.scalar] using hcell 0 _ (by rw [hc]; rfl), by simpa [kdA, Kd.pair, Kd.int, Kd.scalar] using hcell 1 _ (by rw [hc]; rfl)⟩
set_option maxHeartbeats 2000000 in
set_option maxRecDepth 100000 in
theorem mapped85 (A0 : Option Addr) (c0 : Nat) (xs : List (Int × Int)) (w : World) (hr0 : kdA.C w A0 xs.length xs) (hc0 : xs.length ≤ c0) (hl : xs.length ≤ 1000) :
    Calls Try.prog 85 #[.slice A0 xs.length c0, .func (.func 86) #[] #[]] w fun e w' => ∃ v0_ : Value, e = .returned v0_ ∧ Kd.R (Kd.int .i64) 3 w' w.heap.size (fun _ => True) v0_ (xs.map (·.2)) ∧ Below w.heap.size w w' := by
  have HR0 := Aside0.mk hr0
  have HL := Aside0.mk hl
  have HC0 := Aside0.mk hc0
  clear hr0 hl hc0
  have HB := Aside0.mk (Below.refl w.heap.size w)
  go_enter Try.func85, Try.ntmps85
  go_wp2_with fail
  go_loopg [5, 10] xs.length (fun kq v5 v10 w' => ∃ j : Nat, v10 = .int .i64 (j : Int) ∧ Aside0 (j + kq = xs.length) ∧ Aside0 (Kd.R (Kd.int .i64) 3 w' w.heap.size (fun _ => True) v5 ((xs.take j).map (·.2))) ∧ Aside0 (Below w.heap.size w w'))
  case atStart => exact ⟨0, rfl, ⟨by simp⟩, ⟨Kd.R_nil _ _ _ _ _⟩, ⟨HB.out⟩⟩
  case round =>
    obtain ⟨j, rfl, HJ, HO, HB⟩ := hrel
    cases gk with
    | zero =>
      have hj : j = xs.length := by have := HJ.out; omega
      subst hj
      have c1 : decide ((xs.length : Int) < xs.length) = false := decide_eq_false (by omega)
      rw [List.take_length] at HO
      go_wp2
      go_ret
      exact ⟨_, rfl, (by (with_reducible repeat (first | apply Kd.R_alloc | apply Kd.R_drewN | apply Kd.R_drew)); exact HO.out), (by repeat (first | (with_reducible first | exact HB.out | apply below_alloc | apply pw_below_drewN | apply below_drew1) | exact HB.out))⟩
    | succ k1 =>
      have hj : j < xs.length := by have := HJ.out; omega
      have c1 : decide ((j : Int) < xs.length) = true := decide_eq_true (by omega)
      have c2 : decide (0 ≤ (j : Int)) = true := decide_eq_true (by omega)
      obtain ⟨ad, hA, hx0, hx1⟩ := kdA_at (Kd.C_below HR0.out HB.out) j hj
      subst hA
      have HX := Aside0.mk (show ((xs.take j).map (·.2)).length ≤ 1000 by rw [List.length_map, List.length_take]; have := HL.out; omega)
      rw [add_field ad (j * 2) 1 (by omega)] at hx1
      go_wp2_with (first
      | ((with_reducible refine (closure86 (xs[j].1, xs[j].2) _).mono ?_); rintro e w' ⟨rfl, hb⟩; have n0_ := Aside0.mk (Kd.R_below (by (with_reducible repeat (first | apply Kd.R_alloc | apply Kd.R_drewN | apply Kd.R_drew)); exact HO.out) hb); have n1_ := Aside0.mk (below_step (by repeat (first | (with_reducible first | exact HB.out | apply below_alloc | apply pw_below_drewN | apply below_drew1) | exact HB.out)) hb); clear HO HB; have HO := n0_; have HB := n1_; clear n0_ n1_ hb)
      | ((with_reducible refine gate_builtin (b := .append) (xs := #[.tmp 14, .tmp 18]) rfl ?_); at_builtin; refine Kd.R_append (Kd.int .i64) (w0 := w) w.heap.size rfl (.tmp 14) (.tmp 18) 24 3 (.int .i64 0) 8 rfl Try.underlying24 info3 rfl (by decide) (by omega) u5 ((xs.take j).map (·.2)) xs[j].2 [.int .i64 xs[j].2] (fun _ => True) (fun _ => False) rfl rfl ?aP (fun _ hk => hk.elim) ?aF ?aO ?aB ?aS ?aL ?_; (case aP => exact rfl); (case aB => exact (by repeat (first | (with_reducible first | exact HB.out | apply below_alloc | apply pw_below_drewN | apply below_drew1) | exact HB.out))); (case aF => exact (fun _ _ => trivial)); (case aO => exact (by (with_reducible repeat (first | apply Kd.R_alloc | apply Kd.R_drewN | apply Kd.R_drew)); exact HO.out)); (case aS => exact (below_size (by repeat (first | (with_reducible first | exact HB.out | apply below_alloc | apply pw_below_drewN | apply below_drew1) | exact HB.out)))); (case aL => have := HX.out; first | omega | (simp; omega) | (simp at *; omega)); intro v2 w8 ho hb hg hat; have n0_ := Aside0.mk (hb); have n1_ := Aside0.mk (ho); clear HB; clear HO; have HB := n0_; have HO2 := n1_; clear n0_ n1_; clear ho hb hg hat))
      go_roundg k1
      case measure => omega
      case rel => exact ⟨j + 1, by rw [IntWalk.wrap64_in _ (by have := HJ.out; have := HL.out; omega)]; simp, ⟨by have := HJ.out; omega⟩, ⟨by rw [List.take_succ_eq_append_getElem hj, List.map_append]; exact HO2.out⟩, ⟨(by repeat (first | (with_reducible first | exact HB.out | apply below_alloc | apply pw_below_drewN | apply below_drew1) | exact HB.out))⟩⟩
end Go.Proofs.Ytookabfmbimnoaa.Lk
