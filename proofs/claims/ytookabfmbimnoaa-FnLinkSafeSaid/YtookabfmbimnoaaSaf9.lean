/- What the walks of this claim need: printed by a program of this session (wip/pack.py) out of the session's texts and of the words that the kit's print.sh lays; under no condition beyond those in each theorem. Lean checks it. -/
import Derived.Test.YtookabfmbimnoaaSaf8
namespace Go.Proofs.Ytookabfmbimnoaa.Lk
open Go.RowKit Go.Proofs.YtookabfmbimnoaaW.PrintWords Go.Proofs.YtookabfmbimnoaaW.PrintLast Go.Proofs.YtookabfmbimnoaaW.PrintMore
attribute [local go_sem] max2_int min2_int max_two min_two max_three min_three max_four min_four   -- for this text's walks alone
set_option linter.unusedVariables false
set_option linter.unusedSimpArgs false

def laws_FnLinkSafe.j0 : Nat → List (List Int) → Int → Bool → Bool → Bool → List (List Int) → Int → Int → Bool → List (List Int) → Int → Int → Bool → Option (Bool)
  | 0, _, _, _, _, _, _, _, _, _, _, _, _, _ => none
  | k + 1, x4, x7, x9, x11, x76, x558000, x558001, x558002, x558003, x566000, x566001, x566002, x566003 => if x76 = true then (if (x9 == x11) = true then (if x558001 = x566001 then ((laws_wnTexts.f k x558000 x566000).bind fun t567 => (if t567 = true then (if x558002 = x566002 then (some (x558003 == x566003)) else (some false)) else (some false))) else (some false)) else (some false)) else (if (x558000.length : Int) ≤ (x4.length : Int) then (if 0 ≤ (x558000.length : Int) then ((laws_wnTexts.f k x558000 (x4.take ((x558000.length : Int) : Int).toNat)).bind fun t572 => (if t572 = true then (if x558003 = true then (if (x558000.length : Int) = (x4.length : Int) then (some (decide (x558001 ≤ x7))) else (some false)) else (some (decide (x558001 ≤ x7)))) else (some false))) else (none)) else (some false))
def laws_FnLinkSafe.f (k : Nat) (l0 : List Int) : Option (Bool) := if (l0.length : Int) > 1048576 then (some true) else ((spec_DrawRunLink.f k l0).bind fun bt539 => ((impl_RunLink.f k bt539.1 bt539.2.1 bt539.2.2.1 bt539.2.2.2.1 bt539.2.2.2.2).bind fun bt550 => ((spec_RunLink.f k bt539.1 bt539.2.1 bt539.2.2.1 bt539.2.2.2.1 bt539.2.2.2.2).bind fun bt558 => (if (bt550.2.2.2.2 != bt558.2.2.2.2) = true then (laws_FnLinkSafe.j0 k bt539.2.1 bt539.2.2.2.2 bt550.2.2.2.2 bt558.2.2.2.2 true bt550.1 bt550.2.1 bt550.2.2.1 bt550.2.2.2.1 bt558.1 bt558.2.1 bt558.2.2.1 bt558.2.2.2.1) else ((laws_wnTexts.f k bt550.1 bt558.1).bind fun t566 => (if t566 = true then (if bt550.2.1 = bt558.2.1 then (if bt550.2.2.1 = bt558.2.2.1 then (if (bt550.2.2.2.1 != bt558.2.2.2.1) = true then (laws_FnLinkSafe.j0 k bt539.2.1 bt539.2.2.2.2 bt550.2.2.2.2 bt558.2.2.2.2 true bt550.1 bt550.2.1 bt550.2.2.1 bt550.2.2.2.1 bt558.1 bt558.2.1 bt558.2.2.1 bt558.2.2.2.1) else (laws_FnLinkSafe.j0 k bt539.2.1 bt539.2.2.2.2 bt550.2.2.2.2 bt558.2.2.2.2 (!bt550.2.2.2.2) bt550.1 bt550.2.1 bt550.2.2.1 bt550.2.2.2.1 bt558.1 bt558.2.1 bt558.2.2.1 bt558.2.2.2.1)) else (laws_FnLinkSafe.j0 k bt539.2.1 bt539.2.2.2.2 bt550.2.2.2.2 bt558.2.2.2.2 true bt550.1 bt550.2.1 bt550.2.2.1 bt550.2.2.2.1 bt558.1 bt558.2.1 bt558.2.2.1 bt558.2.2.2.1)) else (laws_FnLinkSafe.j0 k bt539.2.1 bt539.2.2.2.2 bt550.2.2.2.2 bt558.2.2.2.2 true bt550.1 bt550.2.1 bt550.2.2.1 bt550.2.2.2.1 bt558.1 bt558.2.1 bt558.2.2.1 bt558.2.2.2.1)) else (laws_FnLinkSafe.j0 k bt539.2.1 bt539.2.2.2.2 bt550.2.2.2.2 bt558.2.2.2.2 true bt550.1 bt550.2.1 bt550.2.2.1 bt550.2.2.2.1 bt558.1 bt558.2.1 bt558.2.2.1 bt558.2.2.2.1)))))))
def laws_FnLinkSafe.T8 : Bool × List (List Nat × List Nat) := (true, [([], []), ([0], [0]), ([1], [1]), ([], []), ([3], [3]), ([2, 4], [2, 4]), ([5], [5]), ([6], [6]), ([7, 6], [6, 7]), ([6], [6]), ([6], [6]), ([10, 6], [6, 10]), ([11, 6], [6, 11]), ([9, 12, 6], [6, 9, 12]), ([8, 13, 6, 6], [6, 8, 13]), ([6, 14], [6, 14]), ([15, 14], [15]), ([16], [16]), ([17, 16], [16, 17]), ([18, 16], [16, 18]), ([19, 16, 16], [16, 19]), ([20], [20]), ([21, 20], [20, 21]), ([22, 20], [20, 22]), ([20], [20]), ([24, 20], [20, 24]), ([23, 25, 20], [20, 23, 25]), ([20, 26, 16], [16, 20, 26]), ([16, 27], [16, 27]), ([28, 20], [28]), ([29], [29]), ([30, 29], [29, 30]), ([29], [29]), ([31, 32, 29], [29, 31, 32]), ([29, 33], [29, 33]), ([34, 29, 0, 1, 2, 3, 4, 5, 6, 7, 8, 9, 10, 11, 12, 13, 14, 15, 16, 17, 18, 19, 20, 21, 22, 23, 24, 25, 26, 27, 28, 29, 30, 31, 32, 33, 34], [34])])
def laws_FnLinkSafe.B8 : List Nat := [0, 1, 3, 0, 8, 31, 63, 127, 255, 127, 127, 1151, 3199, 7807, 16383, 32767, 65535, 131071, 262143, 524287, 1048575, 2097151, 4194303, 8388607, 2097151, 18874367, 67108863, 134217727, 268435455, 536870911, 1073741823, 2147483647, 1073741823, 8589934591, 17179869183, 34359738367]
theorem laws_FnLinkSafe.tab8 : rtab .any (opsOf Try.f5 8) = laws_FnLinkSafe.T8 := by kernel_rfl
theorem laws_FnLinkSafe.bits8 : waitsOk laws_FnLinkSafe.T8.2 laws_FnLinkSafe.B8 = true := by kernel_rfl
set_option maxHeartbeats 8000000 in
set_option maxRecDepth 100000 in
theorem laws_FnLinkSafe.calls (k : Nat) (A0 : Option Addr) (c0 : Nat) (l0 : List Int) (r : Bool) (w : World) (hr0 : Kd.C (Kd.int .u8) w A0 l0.length l0) (hc0 : l0.length ≤ c0) (hE : ∀ a b c d e x y, spec_DrawRunLink.f k l0 = some (a, b, c, d, e) → impl_RunLink.f k a b c d e = some x → spec_RunLink.f k a b c d e = some y → x = y) (hr : r = true) (h : laws_FnLinkSafe.f k l0 = some r) :
    Calls Try.prog 5 #[.slice A0 l0.length c0] w fun e w' => e = .returned (.bool r) ∧ Below w.heap.size w w' := by
  have hu28 := Try.underlying28
  have HR0 := Aside0.mk hr0
  have HC0 := Aside0.mk hc0
  clear hr0 hc0
  have HB := Aside0.mk (Below.refl w.heap.size w)
  have H : (if (l0.length : Int) > 1048576 then (some true) else ((spec_DrawRunLink.f k l0).bind fun bt539 => ((impl_RunLink.f k bt539.1 bt539.2.1 bt539.2.2.1 bt539.2.2.2.1 bt539.2.2.2.2).bind fun bt550 => ((spec_RunLink.f k bt539.1 bt539.2.1 bt539.2.2.1 bt539.2.2.2.1 bt539.2.2.2.2).bind fun bt558 => (if (bt550.2.2.2.2 != bt558.2.2.2.2) = true then (laws_FnLinkSafe.j0 k bt539.2.1 bt539.2.2.2.2 bt550.2.2.2.2 bt558.2.2.2.2 true bt550.1 bt550.2.1 bt550.2.2.1 bt550.2.2.2.1 bt558.1 bt558.2.1 bt558.2.2.1 bt558.2.2.2.1) else ((laws_wnTexts.f k bt550.1 bt558.1).bind fun t566 => (if t566 = true then (if bt550.2.1 = bt558.2.1 then (if bt550.2.2.1 = bt558.2.2.1 then (if (bt550.2.2.2.1 != bt558.2.2.2.1) = true then (laws_FnLinkSafe.j0 k bt539.2.1 bt539.2.2.2.2 bt550.2.2.2.2 bt558.2.2.2.2 true bt550.1 bt550.2.1 bt550.2.2.1 bt550.2.2.2.1 bt558.1 bt558.2.1 bt558.2.2.1 bt558.2.2.2.1) else (laws_FnLinkSafe.j0 k bt539.2.1 bt539.2.2.2.2 bt550.2.2.2.2 bt558.2.2.2.2 (!bt550.2.2.2.2) bt550.1 bt550.2.1 bt550.2.2.1 bt550.2.2.2.1 bt558.1 bt558.2.1 bt558.2.2.1 bt558.2.2.2.1)) else (laws_FnLinkSafe.j0 k bt539.2.1 bt539.2.2.2.2 bt550.2.2.2.2 bt558.2.2.2.2 true bt550.1 bt550.2.1 bt550.2.2.1 bt550.2.2.2.1 bt558.1 bt558.2.1 bt558.2.2.1 bt558.2.2.2.1)) else (laws_FnLinkSafe.j0 k bt539.2.1 bt539.2.2.2.2 bt550.2.2.2.2 bt558.2.2.2.2 true bt550.1 bt550.2.1 bt550.2.2.1 bt550.2.2.2.1 bt558.1 bt558.2.1 bt558.2.2.1 bt558.2.2.2.1)) else (laws_FnLinkSafe.j0 k bt539.2.1 bt539.2.2.2.2 bt550.2.2.2.2 bt558.2.2.2.2 true bt550.1 bt550.2.1 bt550.2.2.1 bt550.2.2.2.1 bt558.1 bt558.2.1 bt558.2.2.1 bt558.2.2.2.1)))))))) = some r := h
  clear h
  by_cases c2 : (l0.length : Int) > 1048576
  · rw [if_pos c2] at H
    have c2b0 : decide (1048576 < (l0.length : Int)) = true := decide_eq_true c2
    have c2b1 : decide (1048576 < l0.length) = true := decide_eq_true (by omega)
    clear c2
    obtain rfl := Option.some.inj H
    go_enter Try.func5, Try.ntmps5
    go_wp2
    go_ret
    exact ⟨by first | rfl | (simp [errW_none, errW_some] <;> rfl) | (simp [*, errW_none, errW_some] <;> rfl), by repeat (first | (with_reducible first | exact HB.out | apply below_alloc | apply pw_below_drewN | apply below_drew1) | exact HB.out)⟩
  · rw [if_neg c2] at H
    have c2b0 : decide (1048576 < (l0.length : Int)) = false := decide_eq_false c2
    have c2b1 : decide (1048576 < l0.length) = false := decide_eq_false (by omega)
    clear c2
    replace H := Option.bind_eq_some_iff.mp H
    obtain ⟨⟨t539, t540, t541, t542, t543⟩, A30, H⟩ := H
    replace H : ((impl_RunLink.f k t539 t540 t541 t542 t543).bind fun bt550 => ((spec_RunLink.f k t539 t540 t541 t542 t543).bind fun bt558 => (if (bt550.2.2.2.2 != bt558.2.2.2.2) = true then (laws_FnLinkSafe.j0 k t540 t543 bt550.2.2.2.2 bt558.2.2.2.2 true bt550.1 bt550.2.1 bt550.2.2.1 bt550.2.2.2.1 bt558.1 bt558.2.1 bt558.2.2.1 bt558.2.2.2.1) else ((laws_wnTexts.f k bt550.1 bt558.1).bind fun t566 => (if t566 = true then (if bt550.2.1 = bt558.2.1 then (if bt550.2.2.1 = bt558.2.2.1 then (if (bt550.2.2.2.1 != bt558.2.2.2.1) = true then (laws_FnLinkSafe.j0 k t540 t543 bt550.2.2.2.2 bt558.2.2.2.2 true bt550.1 bt550.2.1 bt550.2.2.1 bt550.2.2.2.1 bt558.1 bt558.2.1 bt558.2.2.1 bt558.2.2.2.1) else (laws_FnLinkSafe.j0 k t540 t543 bt550.2.2.2.2 bt558.2.2.2.2 (!bt550.2.2.2.2) bt550.1 bt550.2.1 bt550.2.2.1 bt550.2.2.2.1 bt558.1 bt558.2.1 bt558.2.2.1 bt558.2.2.2.1)) else (laws_FnLinkSafe.j0 k t540 t543 bt550.2.2.2.2 bt558.2.2.2.2 true bt550.1 bt550.2.1 bt550.2.2.1 bt550.2.2.2.1 bt558.1 bt558.2.1 bt558.2.2.1 bt558.2.2.2.1)) else (laws_FnLinkSafe.j0 k t540 t543 bt550.2.2.2.2 bt558.2.2.2.2 true bt550.1 bt550.2.1 bt550.2.2.1 bt550.2.2.2.1 bt558.1 bt558.2.1 bt558.2.2.1 bt558.2.2.2.1)) else (laws_FnLinkSafe.j0 k t540 t543 bt550.2.2.2.2 bt558.2.2.2.2 true bt550.1 bt550.2.1 bt550.2.2.1 bt550.2.2.2.1 bt558.1 bt558.2.1 bt558.2.2.1 bt558.2.2.2.1)))))) = some r := H
    have A3 := Aside0.mk A30
    clear A30
    replace H := Option.bind_eq_some_iff.mp H
    obtain ⟨⟨t550, t553, t554, t555, t556⟩, A40, H⟩ := H
    replace H : ((spec_RunLink.f k t539 t540 t541 t542 t543).bind fun bt558 => (if (t556 != bt558.2.2.2.2) = true then (laws_FnLinkSafe.j0 k t540 t543 t556 bt558.2.2.2.2 true t550 t553 t554 t555 bt558.1 bt558.2.1 bt558.2.2.1 bt558.2.2.2.1) else ((laws_wnTexts.f k t550 bt558.1).bind fun t566 => (if t566 = true then (if t553 = bt558.2.1 then (if t554 = bt558.2.2.1 then (if (t555 != bt558.2.2.2.1) = true then (laws_FnLinkSafe.j0 k t540 t543 t556 bt558.2.2.2.2 true t550 t553 t554 t555 bt558.1 bt558.2.1 bt558.2.2.1 bt558.2.2.2.1) else (laws_FnLinkSafe.j0 k t540 t543 t556 bt558.2.2.2.2 (!t556) t550 t553 t554 t555 bt558.1 bt558.2.1 bt558.2.2.1 bt558.2.2.2.1)) else (laws_FnLinkSafe.j0 k t540 t543 t556 bt558.2.2.2.2 true t550 t553 t554 t555 bt558.1 bt558.2.1 bt558.2.2.1 bt558.2.2.2.1)) else (laws_FnLinkSafe.j0 k t540 t543 t556 bt558.2.2.2.2 true t550 t553 t554 t555 bt558.1 bt558.2.1 bt558.2.2.1 bt558.2.2.2.1)) else (laws_FnLinkSafe.j0 k t540 t543 t556 bt558.2.2.2.2 true t550 t553 t554 t555 bt558.1 bt558.2.1 bt558.2.2.1 bt558.2.2.2.1))))) = some r := H
    have A4 := Aside0.mk A40
    clear A40
    replace H := Option.bind_eq_some_iff.mp H
    obtain ⟨⟨t558, t561, t562, t563, t564⟩, A50, H⟩ := H
    replace H : (if (t556 != t564) = true then (laws_FnLinkSafe.j0 k t540 t543 t556 t564 true t550 t553 t554 t555 t558 t561 t562 t563) else ((laws_wnTexts.f k t550 t558).bind fun t566 => (if t566 = true then (if t553 = t561 then (if t554 = t562 then (if (t555 != t563) = true then (laws_FnLinkSafe.j0 k t540 t543 t556 t564 true t550 t553 t554 t555 t558 t561 t562 t563) else (laws_FnLinkSafe.j0 k t540 t543 t556 t564 (!t556) t550 t553 t554 t555 t558 t561 t562 t563)) else (laws_FnLinkSafe.j0 k t540 t543 t556 t564 true t550 t553 t554 t555 t558 t561 t562 t563)) else (laws_FnLinkSafe.j0 k t540 t543 t556 t564 true t550 t553 t554 t555 t558 t561 t562 t563)) else (laws_FnLinkSafe.j0 k t540 t543 t556 t564 true t550 t553 t554 t555 t558 t561 t562 t563)))) = some r := H
    have A5 := Aside0.mk A50
    clear A50
    have hE2 := hE _ _ _ _ _ _ _ A3.out A4.out A5.out
    simp only [Prod.mk.injEq] at hE2
    obtain ⟨rfl, rfl, rfl, rfl, rfl⟩ := hE2
    clear hE
    have HC6 := Aside0.mk H
    clear H
    go_enter Try.func5, Try.ntmps5
    go_upto_region 6 with (first | ((with_reducible refine gate_callee (f := 19) rfl ?_); refine goesL_ (some 17) rfl rfl Try.func19 (by kernel_rfl) rfl #[.slice A0 l0.length c0] rfl (by (try simp only [List.map_toArray, List.map_cons, List.map_nil]); first | done | rfl | (simp only [List.length_drop, List.length_take]; rfl)) ?_; (with_reducible refine (spec_DrawRunLink.calls k _ _ l0 t539 t540 t541 t542 t543 _ ?side1 ?side2 A3.out).mono ?_); (case side1 => repeat (first | exact HR0.out | (with_reducible refine Kd.C_alloc ?_ _) | (with_reducible refine Kd.C_drewN ?_ _) | (with_reducible refine Kd.C_drew ?_))); (case side2 => exact HC0.out); rintro e w7 ⟨v544, v546, v548, rfl, ho0, ho1, ho2, hb⟩; refine ⟨_, rfl, ?_⟩; have n0_ := Aside0.mk (Kd.S_lower ho0 (below_size (by repeat (first | (with_reducible first | exact HB.out | apply below_alloc | apply pw_below_drewN | apply below_drew1) | exact HB.out)))); have n1_ := Aside0.mk (Kd.R_lower ho1 (below_size (by repeat (first | (with_reducible first | exact HB.out | apply below_alloc | apply pw_below_drewN | apply below_drew1) | exact HB.out)))); have n2_ := Aside0.mk (Kd.R_lower ho2 (below_size (by repeat (first | (with_reducible first | exact HB.out | apply below_alloc | apply pw_below_drewN | apply below_drew1) | exact HB.out)))); have n3_ := Aside0.mk (below_step (by repeat (first | (with_reducible first | exact HB.out | apply below_alloc | apply pw_below_drewN | apply below_drew1) | exact HB.out)) hb); clear HB; have HO545 := n0_; have HO547 := n1_; have HO549 := n2_; have HB := n3_; clear n0_ n1_ n2_ n3_; (try clear hb); (try clear hb2); (try clear hk); (try clear hi); (try clear ho0); (try clear ho1); (try clear ho2); obtain ⟨Ao8, co8, eo8⟩ := Kd.S_slice HO545.out; subst eo8; obtain ⟨Ao9, co9, eo9⟩ := Kd.R_slice HO547.out; subst eo9; obtain ⟨Ao10, co10, eo10⟩ := Kd.R_slice HO549.out; subst eo10) | ((with_reducible refine gate_callee (f := 10) rfl ?_); refine goesL_ (some 29) rfl rfl Try.func10 (by kernel_rfl) rfl #[.int .i64 t539, .slice Ao8 t540.length co8, .slice Ao9 t541.length co9, .slice Ao10 t542.length co10, .int .i64 t543] rfl (by (try simp only [List.map_toArray, List.map_cons, List.map_nil]); first | done | rfl | (simp only [List.length_drop, List.length_take]; rfl)) ?_; (with_reducible refine (impl_RunLink.calls k t539 _ _ t540 _ _ t541 _ _ t542 t543 t550 t553 t554 t555 t556 _ ?side1 ?side2 ?side3 ?side4 ?side5 ?side6 A4.out).mono ?_); (case side1 => repeat (first | exact (Kd.S_reads' HO545.out).2.2 | (with_reducible refine Kd.C_alloc ?_ _) | (with_reducible refine Kd.C_drewN ?_ _) | (with_reducible refine Kd.C_drew ?_))); (case side2 => exact (Kd.S_reads' HO545.out).2.1); (case side3 => repeat (first | exact (Kd.R_reads' HO547.out).2.2 | (with_reducible refine Kd.C_alloc ?_ _) | (with_reducible refine Kd.C_drewN ?_ _) | (with_reducible refine Kd.C_drew ?_))); (case side4 => exact (Kd.R_reads' HO547.out).2.1); (case side5 => repeat (first | exact (Kd.R_reads' HO549.out).2.2 | (with_reducible refine Kd.C_alloc ?_ _) | (with_reducible refine Kd.C_drewN ?_ _) | (with_reducible refine Kd.C_drew ?_))); (case side6 => exact (Kd.R_reads' HO549.out).2.1); rintro e w11 ⟨v551, rfl, ho0, hb⟩; refine ⟨_, rfl, ?_⟩; have n0_ := Aside0.mk (Kd.S_elder' (by (with_reducible repeat (first | apply Kd.S_alloc | apply Kd.S_drewN | apply Kd.S_drew)); exact HO545.out) (Kd.S_base ho0) hb); have n1_ := Aside0.mk (Kd.R_below (by (with_reducible repeat (first | apply Kd.R_alloc | apply Kd.R_drewN | apply Kd.R_drew)); exact HO547.out) hb); have n2_ := Aside0.mk (Kd.R_below (by (with_reducible repeat (first | apply Kd.R_alloc | apply Kd.R_drewN | apply Kd.R_drew)); exact HO549.out) hb); have n3_ := Aside0.mk (Kd.S_lower (Kd.S_new' ho0 (Kd.S_lt (by (with_reducible repeat (first | apply Kd.S_alloc | apply Kd.S_drewN | apply Kd.S_drew)); exact HO545.out))) (below_size (by repeat (first | (with_reducible first | exact HB.out | apply below_alloc | apply pw_below_drewN | apply below_drew1) | exact HB.out)))); have n4_ := Aside0.mk (below_step (by repeat (first | (with_reducible first | exact HB.out | apply below_alloc | apply pw_below_drewN | apply below_drew1) | exact HB.out)) hb); clear HO545; clear HO547; clear HO549; clear HB; have HO545 := n0_; have HO547 := n1_; have HO549 := n2_; have HO552 := n3_; have HB := n4_; clear n0_ n1_ n2_ n3_ n4_; (try clear hb); (try clear hb2); (try clear hk); (try clear hi); (try clear ho0)) | ((with_reducible refine gate_dst (N := 8) rfl ?_); (try (refine gate_guard (by rfl) ?_; dsimp only)); refine box_event ?hg (N := 8) ?hd (cs := #[.slice none 0 0, .int .i64 0, .int .i64 0, .bool false]) (t := 28) ?hr ?_; (case hd => rfl); (case hg => rfl); (case hr => first | (go_simp; done) | (go_simp; rfl)); intro gb557 hg w12 hbox hb; have n0_ := Aside0.mk (Kd.S_below (by (with_reducible repeat (first | apply Kd.S_alloc | apply Kd.S_drewN | apply Kd.S_drew)); exact HO545.out) hb); have n1_ := Aside0.mk (Kd.R_below (by (with_reducible repeat (first | apply Kd.R_alloc | apply Kd.R_drewN | apply Kd.R_drew)); exact HO547.out) hb); have n2_ := Aside0.mk (Kd.R_below (by (with_reducible repeat (first | apply Kd.R_alloc | apply Kd.R_drewN | apply Kd.R_drew)); exact HO549.out) hb); have n3_ := Aside0.mk (Kd.S_below (by (with_reducible repeat (first | apply Kd.S_alloc | apply Kd.S_drewN | apply Kd.S_drew)); exact HO552.out) hb); have n4_ := Aside0.mk (below_step (by repeat (first | (with_reducible first | exact HB.out | apply below_alloc | apply pw_below_drewN | apply below_drew1) | exact HB.out)) hb); have n5_ := Aside0.mk (hbox); have n6_ := Aside0.mk ((by rw [hg]; exact (below_size (by repeat (first | (with_reducible first | exact HB.out | apply below_alloc | apply pw_below_drewN | apply below_drew1) | exact HB.out))) : w.heap.size ≤ gb557)); have n7_ := Aside0.mk ((by rw [hg]; exact (below_size (by repeat (first | (with_reducible first | exact HB.out | apply below_alloc | apply pw_below_drewN | apply below_drew1) | exact HB.out))) : w.heap.size ≤ gb557)); clear HO545; clear HO547; clear HO549; clear HO552; clear HB; have HO545 := n0_; have HO547 := n1_; have HO549 := n2_; have HO552 := n3_; have HB := n4_; have BK557 := n5_; have GW557 := n6_; have GE557 := n7_; clear n0_ n1_ n2_ n3_ n4_ n5_ n6_ n7_; clear hb hbox hg; obtain ⟨Ao13, co13, eo13⟩ := Kd.S_slice HO552.out; subst eo13; have hcz14_0 : w12.cell? ⟨gb557, 0, none⟩ = some (.slice none 0 0) := (blk_cell BK557.out 0).trans rfl; have hcz14_1 : w12.cell? ⟨gb557, 1, none⟩ = some (.int .i64 0) := (blk_cell BK557.out 1).trans rfl; have hcz14_2 : w12.cell? ⟨gb557, 2, none⟩ = some (.int .i64 0) := (blk_cell BK557.out 2).trans rfl; have hcz14_3 : w12.cell? ⟨gb557, 3, none⟩ = some (.bool false) := (blk_cell BK557.out 3).trans rfl; have hfz14_0 := blk_frozen BK557.out 0; have hfz14_1 := blk_frozen BK557.out 1; have hfz14_2 := blk_frozen BK557.out 2; have hfz14_3 := blk_frozen BK557.out 3) | ((with_reducible refine gate_callee (f := 11) rfl ?_); refine goesL_ (some 38) rfl rfl Try.func11 (by kernel_rfl) rfl #[.int .i64 t539, .slice Ao8 t540.length co8, .slice Ao9 t541.length co9, .slice Ao10 t542.length co10, .int .i64 t543] rfl (by (try simp only [List.map_toArray, List.map_cons, List.map_nil]); first | done | rfl | (simp only [List.length_drop, List.length_take]; rfl)) ?_; (with_reducible refine (spec_RunLink.calls k t539 _ _ t540 _ _ t541 _ _ t542 t543 t550 t553 t554 t555 t556 _ ?side1 ?side2 ?side3 ?side4 ?side5 ?side6 A5.out).mono ?_); (case side1 => refine (Kd.S_reads' (e := 22) (base := w.heap.size) (ok := fun k_ => (True ∧ some k_ ≠ (.slice Ao13 t550.length co13 : Value).ownBlock)) (n := t540.length) (c := co8) ?_).2.2; exact (by (with_reducible repeat (first | apply Kd.S_alloc | apply Kd.S_drewN | apply Kd.S_drew)); exact (Kd.S_mono (Kd.S_far (p := ⟨gb557, 3, none⟩) (Kd.S_far (p := ⟨gb557, 2, none⟩) (Kd.S_far (p := ⟨gb557, 1, none⟩) (Kd.S_far (p := ⟨gb557, 0, none⟩) (Kd.S_types HO545.out BK557.out (by decide)) (fun _ hk => hk.2) (.slice Ao13 t550.length co13)) (fun _ hk => hk.2) (.int .i64 t553)) (fun _ hk => hk.2) (.int .i64 t554)) (fun _ hk => hk.2) (.bool t555)) (fun _ h_ => h_.1)))); (case side2 => exact (Kd.S_reads' HO545.out).2.1); (case side3 => refine (Kd.R_reads' (e := 3) (base := w.heap.size) (ok := fun k_ => some k_ ≠ (.slice Ao10 t542.length co10 : Value).ownBlock) (n := t541.length) (c := co9) ?_).2.2; exact (by (with_reducible repeat (first | apply Kd.R_alloc | apply Kd.R_drewN | apply Kd.R_drew)); exact (Kd.R_mono (Kd.R_far (p := ⟨gb557, 3, none⟩) (Kd.R_far (p := ⟨gb557, 2, none⟩) (Kd.R_far (p := ⟨gb557, 1, none⟩) (Kd.R_far (p := ⟨gb557, 0, none⟩) (Kd.R_types HO547.out BK557.out (by decide)) (fun _ hk => hk.2) (.slice Ao13 t550.length co13)) (fun _ hk => hk.2) (.int .i64 t553)) (fun _ hk => hk.2) (.int .i64 t554)) (fun _ hk => hk.2) (.bool t555)) (fun _ h_ => h_.1)))); (case side4 => exact (Kd.R_reads' HO547.out).2.1); (case side5 => refine (Kd.R_reads' (e := 3) (base := w.heap.size) (ok := fun k_ => some k_ ≠ (.slice Ao9 t541.length co9 : Value).ownBlock) (n := t542.length) (c := co10) ?_).2.2; exact (by (with_reducible repeat (first | apply Kd.R_alloc | apply Kd.R_drewN | apply Kd.R_drew)); exact (Kd.R_mono (Kd.R_far (p := ⟨gb557, 3, none⟩) (Kd.R_far (p := ⟨gb557, 2, none⟩) (Kd.R_far (p := ⟨gb557, 1, none⟩) (Kd.R_far (p := ⟨gb557, 0, none⟩) (Kd.R_types HO549.out BK557.out (by decide)) (fun _ hk => hk.2) (.slice Ao13 t550.length co13)) (fun _ hk => hk.2) (.int .i64 t553)) (fun _ hk => hk.2) (.int .i64 t554)) (fun _ hk => hk.2) (.bool t555)) (fun _ h_ => h_.1)))); (case side6 => exact (Kd.R_reads' HO549.out).2.1); rintro e w15 ⟨v559, rfl, ho0, hb⟩; refine ⟨_, rfl, ?_⟩; have n0_ := Aside0.mk (Kd.S_elder' (by (with_reducible repeat (first | apply Kd.S_alloc | apply Kd.S_drewN | apply Kd.S_drew)); exact (Kd.S_mono (Kd.S_far (p := ⟨gb557, 3, none⟩) (Kd.S_far (p := ⟨gb557, 2, none⟩) (Kd.S_far (p := ⟨gb557, 1, none⟩) (Kd.S_far (p := ⟨gb557, 0, none⟩) (Kd.S_types HO545.out BK557.out (by decide)) (fun _ hk => hk.2) (.slice Ao13 t550.length co13)) (fun _ hk => hk.2) (.int .i64 t553)) (fun _ hk => hk.2) (.int .i64 t554)) (fun _ hk => hk.2) (.bool t555)) (fun _ h_ => h_.1))) (Kd.S_base ho0) hb); have n1_ := Aside0.mk (Kd.R_below (by (with_reducible repeat (first | apply Kd.R_alloc | apply Kd.R_drewN | apply Kd.R_drew)); exact (Kd.R_mono (Kd.R_far (p := ⟨gb557, 3, none⟩) (Kd.R_far (p := ⟨gb557, 2, none⟩) (Kd.R_far (p := ⟨gb557, 1, none⟩) (Kd.R_far (p := ⟨gb557, 0, none⟩) (Kd.R_types HO547.out BK557.out (by decide)) (fun _ hk => hk.2) (.slice Ao13 t550.length co13)) (fun _ hk => hk.2) (.int .i64 t553)) (fun _ hk => hk.2) (.int .i64 t554)) (fun _ hk => hk.2) (.bool t555)) (fun _ h_ => h_.1))) hb); have n2_ := Aside0.mk (Kd.R_below (by (with_reducible repeat (first | apply Kd.R_alloc | apply Kd.R_drewN | apply Kd.R_drew)); exact (Kd.R_mono (Kd.R_far (p := ⟨gb557, 3, none⟩) (Kd.R_far (p := ⟨gb557, 2, none⟩) (Kd.R_far (p := ⟨gb557, 1, none⟩) (Kd.R_far (p := ⟨gb557, 0, none⟩) (Kd.R_types HO549.out BK557.out (by decide)) (fun _ hk => hk.2) (.slice Ao13 t550.length co13)) (fun _ hk => hk.2) (.int .i64 t553)) (fun _ hk => hk.2) (.int .i64 t554)) (fun _ hk => hk.2) (.bool t555)) (fun _ h_ => h_.1))) hb); have n3_ := Aside0.mk (Kd.S_elder' (by (with_reducible repeat (first | apply Kd.S_alloc | apply Kd.S_drewN | apply Kd.S_drew)); exact (Kd.S_mono (Kd.S_far (p := ⟨gb557, 3, none⟩) (Kd.S_far (p := ⟨gb557, 2, none⟩) (Kd.S_far (p := ⟨gb557, 1, none⟩) (Kd.S_far (p := ⟨gb557, 0, none⟩) (Kd.S_types HO552.out BK557.out (by decide)) (fun _ hk => hk.2) (.slice Ao13 t550.length co13)) (fun _ hk => hk.2) (.int .i64 t553)) (fun _ hk => hk.2) (.int .i64 t554)) (fun _ hk => hk.2) (.bool t555)) (fun _ h_ => h_.1))) (Kd.S_base ho0) hb); have n4_ := Aside0.mk (Kd.S_lower (Kd.S_new' (Kd.S_new' ho0 (Kd.S_lt (by (with_reducible repeat (first | apply Kd.S_alloc | apply Kd.S_drewN | apply Kd.S_drew)); exact (Kd.S_mono (Kd.S_far (p := ⟨gb557, 3, none⟩) (Kd.S_far (p := ⟨gb557, 2, none⟩) (Kd.S_far (p := ⟨gb557, 1, none⟩) (Kd.S_far (p := ⟨gb557, 0, none⟩) (Kd.S_types HO545.out BK557.out (by decide)) (fun _ hk => hk.2) (.slice Ao13 t550.length co13)) (fun _ hk => hk.2) (.int .i64 t553)) (fun _ hk => hk.2) (.int .i64 t554)) (fun _ hk => hk.2) (.bool t555)) (fun _ h_ => h_.1))))) (Kd.S_lt (by (with_reducible repeat (first | apply Kd.S_alloc | apply Kd.S_drewN | apply Kd.S_drew)); exact (Kd.S_mono (Kd.S_far (p := ⟨gb557, 3, none⟩) (Kd.S_far (p := ⟨gb557, 2, none⟩) (Kd.S_far (p := ⟨gb557, 1, none⟩) (Kd.S_far (p := ⟨gb557, 0, none⟩) (Kd.S_types HO552.out BK557.out (by decide)) (fun _ hk => hk.2) (.slice Ao13 t550.length co13)) (fun _ hk => hk.2) (.int .i64 t553)) (fun _ hk => hk.2) (.int .i64 t554)) (fun _ hk => hk.2) (.bool t555)) (fun _ h_ => h_.1))))) (below_size (by repeat (first | (with_reducible first | exact HB.out | apply below_alloc | apply pw_below_drewN | apply below_drew1 | refine below_set ?_ GE557.out) | exact HB.out)))); have n5_ := Aside0.mk (blk_below (g := gb557) (o := .cells #[.slice Ao13 t550.length co13, .int .i64 t553, .int .i64 t554, .bool t555] 28 (0, 0)) (by (with_reducible repeat (first | refine blk_drewN ?_ _ | refine blk_drew ?_ | refine blk_alloc ?_ _)); refine blk_put (cs := #[.slice Ao13 t550.length co13, .int .i64 t553, .int .i64 t554, .bool false]) ?_ 3 _ rfl; (with_reducible repeat (first | refine blk_drewN ?_ _ | refine blk_drew ?_ | refine blk_alloc ?_ _)); refine blk_put (cs := #[.slice Ao13 t550.length co13, .int .i64 t553, .int .i64 0, .bool false]) ?_ 2 _ rfl; (with_reducible repeat (first | refine blk_drewN ?_ _ | refine blk_drew ?_ | refine blk_alloc ?_ _)); refine blk_put (cs := #[.slice Ao13 t550.length co13, .int .i64 0, .int .i64 0, .bool false]) ?_ 1 _ rfl; (with_reducible repeat (first | refine blk_drewN ?_ _ | refine blk_drew ?_ | refine blk_alloc ?_ _)); refine blk_put (cs := #[.slice none 0 0, .int .i64 0, .int .i64 0, .bool false]) ?_ 0 _ rfl; (with_reducible repeat (first | refine blk_drewN ?_ _ | refine blk_drew ?_ | refine blk_alloc ?_ _)); exact BK557.out) hb); have n6_ := Aside0.mk (below_step (by repeat (first | (with_reducible first | exact HB.out | apply below_alloc | apply pw_below_drewN | apply below_drew1 | refine below_set ?_ GE557.out) | exact HB.out)) hb); clear HO545; clear HO547; clear HO549; clear HO552; clear BK557; clear HB; have HO545 := n0_; have HO547 := n1_; have HO549 := n2_; have HO552 := n3_; have HO560 := n4_; have BK557 := n5_; have HB := n6_; clear n0_ n1_ n2_ n3_ n4_ n5_ n6_; (try clear hb); (try clear hb2); (try clear hk); (try clear hi); (try clear ho0)) | ((with_reducible refine gate_dst (N := 10) rfl ?_); (try (refine gate_guard (by rfl) ?_; dsimp only)); refine box_event ?hg (N := 10) ?hd (cs := #[.slice none 0 0, .int .i64 0, .int .i64 0, .bool false]) (t := 28) ?hr ?_; (case hd => rfl); (case hg => rfl); (case hr => first | (go_simp; done) | (go_simp; rfl)); intro gb565 hg w16 hbox hb; have n0_ := Aside0.mk (Kd.S_below (by (with_reducible repeat (first | apply Kd.S_alloc | apply Kd.S_drewN | apply Kd.S_drew)); exact HO545.out) hb); have n1_ := Aside0.mk (Kd.R_below (by (with_reducible repeat (first | apply Kd.R_alloc | apply Kd.R_drewN | apply Kd.R_drew)); exact HO547.out) hb); have n2_ := Aside0.mk (Kd.R_below (by (with_reducible repeat (first | apply Kd.R_alloc | apply Kd.R_drewN | apply Kd.R_drew)); exact HO549.out) hb); have n3_ := Aside0.mk (Kd.S_below (by (with_reducible repeat (first | apply Kd.S_alloc | apply Kd.S_drewN | apply Kd.S_drew)); exact HO552.out) hb); have n4_ := Aside0.mk (Kd.S_below (by (with_reducible repeat (first | apply Kd.S_alloc | apply Kd.S_drewN | apply Kd.S_drew)); exact HO560.out) hb); have n5_ := Aside0.mk (blk_below (g := gb557) (o := .cells #[.slice Ao13 t550.length co13, .int .i64 t553, .int .i64 t554, .bool t555] 28 (0, 0)) (by (with_reducible repeat (first | refine blk_drewN ?_ _ | refine blk_drew ?_ | refine blk_alloc ?_ _)); exact BK557.out) hb); have n6_ := Aside0.mk (below_step (by repeat (first | (with_reducible first | exact HB.out | apply below_alloc | apply pw_below_drewN | apply below_drew1 | refine below_set ?_ GE557.out) | exact HB.out)) hb); have n7_ := Aside0.mk (hbox); have n8_ := Aside0.mk ((by rw [hg]; exact (below_size (by repeat (first | (with_reducible first | exact HB.out | apply below_alloc | apply pw_below_drewN | apply below_drew1 | refine below_set ?_ GE557.out) | exact HB.out))) : w.heap.size ≤ gb565)); have n9_ := Aside0.mk ((by rw [hg]; exact (below_size (by repeat (first | (with_reducible first | exact HB.out | apply below_alloc | apply pw_below_drewN | apply below_drew1 | refine below_set ?_ GE557.out) | exact HB.out))) : w.heap.size ≤ gb565)); have n10_ := Aside0.mk ((by rw [hg]; exact Nat.ne_of_lt (blk_lt (g := gb557) (o := .cells #[.slice Ao13 t550.length co13, .int .i64 t553, .int .i64 t554, .bool t555] 28 (0, 0)) (by (with_reducible repeat (first | refine blk_drewN ?_ _ | refine blk_drew ?_ | refine blk_alloc ?_ _)); exact BK557.out)) : gb557 ≠ gb565)); have n11_ := Aside0.mk ((by rw [hg]; exact Nat.ne_of_gt (blk_lt (g := gb557) (o := .cells #[.slice Ao13 t550.length co13, .int .i64 t553, .int .i64 t554, .bool t555] 28 (0, 0)) (by (with_reducible repeat (first | refine blk_drewN ?_ _ | refine blk_drew ?_ | refine blk_alloc ?_ _)); exact BK557.out)) : gb565 ≠ gb557)); clear HO545; clear HO547; clear HO549; clear HO552; clear HO560; clear BK557; clear HB; have HO545 := n0_; have HO547 := n1_; have HO549 := n2_; have HO552 := n3_; have HO560 := n4_; have BK557 := n5_; have HB := n6_; have BK565 := n7_; have GW565 := n8_; have GE565 := n9_; have NB557_565 := n10_; have NB565_557 := n11_; clear n0_ n1_ n2_ n3_ n4_ n5_ n6_ n7_ n8_ n9_ n10_ n11_; clear hb hbox hg; obtain ⟨Ao17, co17, eo17⟩ := Kd.S_slice HO560.out; subst eo17; have hnb18 := NB565_557.out; have hnc18 := NB557_565.out; have hcz19_0 : w16.cell? ⟨gb565, 0, none⟩ = some (.slice none 0 0) := (blk_cell BK565.out 0).trans rfl; have hcz19_1 : w16.cell? ⟨gb565, 1, none⟩ = some (.int .i64 0) := (blk_cell BK565.out 1).trans rfl; have hcz19_2 : w16.cell? ⟨gb565, 2, none⟩ = some (.int .i64 0) := (blk_cell BK565.out 2).trans rfl; have hcz19_3 : w16.cell? ⟨gb565, 3, none⟩ = some (.bool false) := (blk_cell BK565.out 3).trans rfl; have hfz19_0 := blk_frozen BK565.out 0; have hfz19_1 := blk_frozen BK565.out 1; have hfz19_2 := blk_frozen BK565.out 2; have hfz19_3 := blk_frozen BK565.out 3))
    (try simp only [Act.put, List.setIfInBounds_toArray, List.set_cons_zero, List.set_cons_succ])
    go_cut [76] (fun v76 wc => ∃ (kq : Nat) (x76_5 : Bool), v76 = .bool x76_5 ∧ Aside0 (laws_FnLinkSafe.j0 kq t540 t543 t556 t556 x76_5 t550 t553 t554 t555 t550 t553 t554 t555 = some r) ∧ Aside0 (kq ≤ k) ∧ Aside0 (Kd.S (Kd.slice 5 (Kd.int .u8)) 22 wc w.heap.size (fun k_ => some k_ ≠ ((.slice Ao13 t550.length co13) : Value).ownBlock ∧ some k_ ≠ ((.slice Ao17 t550.length co17) : Value).ownBlock) (.slice Ao8 t540.length co8) t540) ∧ Aside0 (Kd.S (Kd.slice 5 (Kd.int .u8)) 22 wc w.heap.size (fun k_ => some k_ ≠ ((.slice Ao8 t540.length co8) : Value).ownBlock ∧ some k_ ≠ ((.slice Ao17 t550.length co17) : Value).ownBlock) (.slice Ao13 t550.length co13) t550) ∧ Aside0 (Kd.S (Kd.slice 5 (Kd.int .u8)) 22 wc w.heap.size (fun k_ => some k_ ≠ ((.slice Ao8 t540.length co8) : Value).ownBlock ∧ some k_ ≠ ((.slice Ao13 t550.length co13) : Value).ownBlock) (.slice Ao17 t550.length co17) t550) ∧ Aside0 (wc.heap[gb557]? = some (.cells #[(.slice Ao13 t550.length co13), .int .i64 t553, .int .i64 t554, .bool t555] 28 (0, 0))) ∧ Aside0 (wc.heap[gb565]? = some (.cells #[(.slice Ao17 t550.length co17), .int .i64 t553, .int .i64 t554, .bool t555] 28 (0, 0))) ∧ Aside0 (Below w.heap.size w wc))
    case first =>
      have H := HC6.out
      clear HC6
      by_cases c20 : (t556 != t556) = true
      · exact absurd c20 (by simp)
      · rw [if_neg c20] at H
        have c20b0 : (t556 != t556) = false := by first | (simp; done) | simpa using c20
        (try (have c20b1 : decide (t556 = t556) = true := by first | (simp; done) | simpa using c20))
        (try (have c20b2 : (t556 == t556) = true := by first | (simp; done) | simpa using c20))
        clear c20
        (first | rw [c20b0] | (simp only [i64_w, i32_w]; rw [c20b0]) | skip)
        replace H := Option.bind_eq_some_iff.mp H
        obtain ⟨t566, A210, H⟩ := H
        replace H : (if t566 = true then (if t553 = t553 then (if t554 = t554 then (if (t555 != t555) = true then (laws_FnLinkSafe.j0 k t540 t543 t556 t556 true t550 t553 t554 t555 t550 t553 t554 t555) else (laws_FnLinkSafe.j0 k t540 t543 t556 t556 (!t556) t550 t553 t554 t555 t550 t553 t554 t555)) else (laws_FnLinkSafe.j0 k t540 t543 t556 t556 true t550 t553 t554 t555 t550 t553 t554 t555)) else (laws_FnLinkSafe.j0 k t540 t543 t556 t556 true t550 t553 t554 t555 t550 t553 t554 t555)) else (laws_FnLinkSafe.j0 k t540 t543 t556 t556 true t550 t553 t554 t555 t550 t553 t554 t555)) = some r := H
        have A21 := Aside0.mk A210
        clear A210
        by_cases c22 : t566 = true
        · subst c22
          have H1 : (if t553 = t553 then (if t554 = t554 then (if (t555 != t555) = true then (laws_FnLinkSafe.j0 k t540 t543 t556 t556 true t550 t553 t554 t555 t550 t553 t554 t555) else (laws_FnLinkSafe.j0 k t540 t543 t556 t556 (!t556) t550 t553 t554 t555 t550 t553 t554 t555)) else (laws_FnLinkSafe.j0 k t540 t543 t556 t556 true t550 t553 t554 t555 t550 t553 t554 t555)) else (laws_FnLinkSafe.j0 k t540 t543 t556 t556 true t550 t553 t554 t555 t550 t553 t554 t555)) = some r := by rw [if_pos rfl] at H; exact H
          clear H
          have H := H1
          clear H1
          by_cases c23 : t553 = t553
          · rw [if_pos c23] at H
            have c23b0 : (t553 == t553) = true := beq_iff_eq.mpr c23
            have c23b1 : (t553 != t553) = false := bne_eq_false_iff_eq.mpr c23
            clear c23
            by_cases c24 : t554 = t554
            · rw [if_pos c24] at H
              have c24b0 : (t554 == t554) = true := beq_iff_eq.mpr c24
              have c24b1 : (t554 != t554) = false := bne_eq_false_iff_eq.mpr c24
              clear c24
              by_cases c25 : (t555 != t555) = true
              · exact absurd c25 (by simp)
              · rw [if_neg c25] at H
                have c25b0 : (t555 != t555) = false := by first | (simp; done) | simpa using c25
                (try (have c25b1 : decide (t555 = t555) = true := by first | (simp; done) | simpa using c25))
                (try (have c25b2 : (t555 == t555) = true := by first | (simp; done) | simpa using c25))
                clear c25
                have H' := Aside0.mk H
                clear H
                have hnb32 := NB557_565.out
                have hnc32 := NB565_557.out
                have hcz33_0 : w16.cell? ⟨gb557, 0, none⟩ = some (.slice Ao13 t550.length co13) := (blk_cell BK557.out 0).trans rfl
                have hcz33_1 : w16.cell? ⟨gb557, 1, none⟩ = some (.int .i64 t553) := (blk_cell BK557.out 1).trans rfl
                have hcz33_2 : w16.cell? ⟨gb557, 2, none⟩ = some (.int .i64 t554) := (blk_cell BK557.out 2).trans rfl
                have hcz33_3 : w16.cell? ⟨gb557, 3, none⟩ = some (.bool t555) := (blk_cell BK557.out 3).trans rfl
                have hfz33_0 := blk_frozen BK557.out 0
                have hfz33_1 := blk_frozen BK557.out 1
                have hfz33_2 := blk_frozen BK557.out 2
                have hfz33_3 := blk_frozen BK557.out 3
                have hcz34_0 : w16.cell? ⟨gb565, 0, none⟩ = some (.slice none 0 0) := (blk_cell BK565.out 0).trans rfl
                have hcz34_1 : w16.cell? ⟨gb565, 1, none⟩ = some (.int .i64 0) := (blk_cell BK565.out 1).trans rfl
                have hcz34_2 : w16.cell? ⟨gb565, 2, none⟩ = some (.int .i64 0) := (blk_cell BK565.out 2).trans rfl
                have hcz34_3 : w16.cell? ⟨gb565, 3, none⟩ = some (.bool false) := (blk_cell BK565.out 3).trans rfl
                have hfz34_0 := blk_frozen BK565.out 0
                have hfz34_1 := blk_frozen BK565.out 1
                have hfz34_2 := blk_frozen BK565.out 2
                have hfz34_3 := blk_frozen BK565.out 3
                go_wp2_with (first | (go_at_call 20; (with_reducible refine (laws_wnTexts.calls k _ _ t550 _ _ t550 true _ ?side1 ?side2 ?side3 ?side4 A21.out).mono ?_); (case side1 => refine (Kd.S_reads' (e := 22) (base := w.heap.size) (ok := fun k_ => ((True ∧ some k_ ≠ (.slice Ao8 t540.length co8 : Value).ownBlock) ∧ some k_ ≠ (.slice Ao17 t550.length co17 : Value).ownBlock)) (n := t550.length) (c := co13) ?_).2.2; exact (by (with_reducible repeat (first | apply Kd.S_alloc | apply Kd.S_drewN | apply Kd.S_drew)); exact (Kd.S_mono (Kd.S_far (p := ⟨gb565, 3, none⟩) (Kd.S_far (p := ⟨gb565, 2, none⟩) (Kd.S_far (p := ⟨gb565, 1, none⟩) (Kd.S_far (p := ⟨gb565, 0, none⟩) (Kd.S_types HO552.out BK565.out (by decide)) (fun _ hk => hk.2) (.slice Ao17 t550.length co17)) (fun _ hk => hk.2) (.int .i64 t553)) (fun _ hk => hk.2) (.int .i64 t554)) (fun _ hk => hk.2) (.bool t555)) (fun _ h_ => h_.1)))); (case side2 => exact (Kd.S_reads' HO552.out).2.1); (case side3 => refine (Kd.S_reads' (e := 22) (base := w.heap.size) (ok := fun k_ => ((True ∧ some k_ ≠ (.slice Ao8 t540.length co8 : Value).ownBlock) ∧ some k_ ≠ (.slice Ao13 t550.length co13 : Value).ownBlock)) (n := t550.length) (c := co17) ?_).2.2; exact (by (with_reducible repeat (first | apply Kd.S_alloc | apply Kd.S_drewN | apply Kd.S_drew)); exact (Kd.S_mono (Kd.S_far (p := ⟨gb565, 3, none⟩) (Kd.S_far (p := ⟨gb565, 2, none⟩) (Kd.S_far (p := ⟨gb565, 1, none⟩) (Kd.S_far (p := ⟨gb565, 0, none⟩) (Kd.S_types HO560.out BK565.out (by decide)) (fun _ hk => hk.2) (.slice Ao17 t550.length co17)) (fun _ hk => hk.2) (.int .i64 t553)) (fun _ hk => hk.2) (.int .i64 t554)) (fun _ hk => hk.2) (.bool t555)) (fun _ h_ => h_.1)))); (case side4 => exact (Kd.S_reads' HO560.out).2.1); rintro e w35 ⟨rfl, hb⟩; have n0_ := Aside0.mk (Kd.S_below (by (with_reducible repeat (first | apply Kd.S_alloc | apply Kd.S_drewN | apply Kd.S_drew)); exact (Kd.S_mono (Kd.S_far (p := ⟨gb565, 3, none⟩) (Kd.S_far (p := ⟨gb565, 2, none⟩) (Kd.S_far (p := ⟨gb565, 1, none⟩) (Kd.S_far (p := ⟨gb565, 0, none⟩) (Kd.S_types HO545.out BK565.out (by decide)) (fun _ hk => hk.2) (.slice Ao17 t550.length co17)) (fun _ hk => hk.2) (.int .i64 t553)) (fun _ hk => hk.2) (.int .i64 t554)) (fun _ hk => hk.2) (.bool t555)) (fun _ h_ => h_.1))) hb); have n1_ := Aside0.mk (Kd.R_below (by (with_reducible repeat (first | apply Kd.R_alloc | apply Kd.R_drewN | apply Kd.R_drew)); exact (Kd.R_mono (Kd.R_far (p := ⟨gb565, 3, none⟩) (Kd.R_far (p := ⟨gb565, 2, none⟩) (Kd.R_far (p := ⟨gb565, 1, none⟩) (Kd.R_far (p := ⟨gb565, 0, none⟩) (Kd.R_types HO547.out BK565.out (by decide)) (fun _ hk => hk.2) (.slice Ao17 t550.length co17)) (fun _ hk => hk.2) (.int .i64 t553)) (fun _ hk => hk.2) (.int .i64 t554)) (fun _ hk => hk.2) (.bool t555)) (fun _ h_ => h_.1))) hb); have n2_ := Aside0.mk (Kd.R_below (by (with_reducible repeat (first | apply Kd.R_alloc | apply Kd.R_drewN | apply Kd.R_drew)); exact (Kd.R_mono (Kd.R_far (p := ⟨gb565, 3, none⟩) (Kd.R_far (p := ⟨gb565, 2, none⟩) (Kd.R_far (p := ⟨gb565, 1, none⟩) (Kd.R_far (p := ⟨gb565, 0, none⟩) (Kd.R_types HO549.out BK565.out (by decide)) (fun _ hk => hk.2) (.slice Ao17 t550.length co17)) (fun _ hk => hk.2) (.int .i64 t553)) (fun _ hk => hk.2) (.int .i64 t554)) (fun _ hk => hk.2) (.bool t555)) (fun _ h_ => h_.1))) hb); have n3_ := Aside0.mk (Kd.S_below (by (with_reducible repeat (first | apply Kd.S_alloc | apply Kd.S_drewN | apply Kd.S_drew)); exact (Kd.S_mono (Kd.S_far (p := ⟨gb565, 3, none⟩) (Kd.S_far (p := ⟨gb565, 2, none⟩) (Kd.S_far (p := ⟨gb565, 1, none⟩) (Kd.S_far (p := ⟨gb565, 0, none⟩) (Kd.S_types HO552.out BK565.out (by decide)) (fun _ hk => hk.2) (.slice Ao17 t550.length co17)) (fun _ hk => hk.2) (.int .i64 t553)) (fun _ hk => hk.2) (.int .i64 t554)) (fun _ hk => hk.2) (.bool t555)) (fun _ h_ => h_.1))) hb); have n4_ := Aside0.mk (Kd.S_below (by (with_reducible repeat (first | apply Kd.S_alloc | apply Kd.S_drewN | apply Kd.S_drew)); exact (Kd.S_mono (Kd.S_far (p := ⟨gb565, 3, none⟩) (Kd.S_far (p := ⟨gb565, 2, none⟩) (Kd.S_far (p := ⟨gb565, 1, none⟩) (Kd.S_far (p := ⟨gb565, 0, none⟩) (Kd.S_types HO560.out BK565.out (by decide)) (fun _ hk => hk.2) (.slice Ao17 t550.length co17)) (fun _ hk => hk.2) (.int .i64 t553)) (fun _ hk => hk.2) (.int .i64 t554)) (fun _ hk => hk.2) (.bool t555)) (fun _ h_ => h_.1))) hb); have n5_ := Aside0.mk (blk_below (g := gb557) (o := .cells #[.slice Ao13 t550.length co13, .int .i64 t553, .int .i64 t554, .bool t555] 28 (0, 0)) (by (with_reducible repeat (first | refine blk_drewN ?_ _ | refine blk_drew ?_ | refine blk_alloc ?_ _)); refine blk_far ?_ NB557_565.out _; (with_reducible repeat (first | refine blk_drewN ?_ _ | refine blk_drew ?_ | refine blk_alloc ?_ _)); refine blk_far ?_ NB557_565.out _; (with_reducible repeat (first | refine blk_drewN ?_ _ | refine blk_drew ?_ | refine blk_alloc ?_ _)); refine blk_far ?_ NB557_565.out _; (with_reducible repeat (first | refine blk_drewN ?_ _ | refine blk_drew ?_ | refine blk_alloc ?_ _)); refine blk_far ?_ NB557_565.out _; (with_reducible repeat (first | refine blk_drewN ?_ _ | refine blk_drew ?_ | refine blk_alloc ?_ _)); exact BK557.out) hb); have n6_ := Aside0.mk (blk_below (g := gb565) (o := .cells #[.slice Ao17 t550.length co17, .int .i64 t553, .int .i64 t554, .bool t555] 28 (0, 0)) (by (with_reducible repeat (first | refine blk_drewN ?_ _ | refine blk_drew ?_ | refine blk_alloc ?_ _)); refine blk_put (cs := #[.slice Ao17 t550.length co17, .int .i64 t553, .int .i64 t554, .bool false]) ?_ 3 _ rfl; (with_reducible repeat (first | refine blk_drewN ?_ _ | refine blk_drew ?_ | refine blk_alloc ?_ _)); refine blk_put (cs := #[.slice Ao17 t550.length co17, .int .i64 t553, .int .i64 0, .bool false]) ?_ 2 _ rfl; (with_reducible repeat (first | refine blk_drewN ?_ _ | refine blk_drew ?_ | refine blk_alloc ?_ _)); refine blk_put (cs := #[.slice Ao17 t550.length co17, .int .i64 0, .int .i64 0, .bool false]) ?_ 1 _ rfl; (with_reducible repeat (first | refine blk_drewN ?_ _ | refine blk_drew ?_ | refine blk_alloc ?_ _)); refine blk_put (cs := #[.slice none 0 0, .int .i64 0, .int .i64 0, .bool false]) ?_ 0 _ rfl; (with_reducible repeat (first | refine blk_drewN ?_ _ | refine blk_drew ?_ | refine blk_alloc ?_ _)); exact BK565.out) hb); have n7_ := Aside0.mk (below_step (by repeat (first | (with_reducible first | exact HB.out | apply below_alloc | apply pw_below_drewN | apply below_drew1 | refine below_set ?_ GE557.out | refine below_set ?_ GE565.out) | exact HB.out)) hb); clear HO545; clear HO547; clear HO549; clear HO552; clear HO560; clear BK557; clear BK565; clear HB; have HO545 := n0_; have HO547 := n1_; have HO549 := n2_; have HO552 := n3_; have HO560 := n4_; have BK557 := n5_; have BK565 := n6_; have HB := n7_; clear n0_ n1_ n2_ n3_ n4_ n5_ n6_ n7_; (try clear hb); (try clear hb2); (try clear hk); (try clear hi); have hcz36_0 : w35.cell? ⟨gb557, 0, none⟩ = some (.slice Ao13 t550.length co13) := (blk_cell BK557.out 0).trans rfl; have hcz36_1 : w35.cell? ⟨gb557, 1, none⟩ = some (.int .i64 t553) := (blk_cell BK557.out 1).trans rfl; have hcz36_2 : w35.cell? ⟨gb557, 2, none⟩ = some (.int .i64 t554) := (blk_cell BK557.out 2).trans rfl; have hcz36_3 : w35.cell? ⟨gb557, 3, none⟩ = some (.bool t555) := (blk_cell BK557.out 3).trans rfl; have hfz36_0 := blk_frozen BK557.out 0; have hfz36_1 := blk_frozen BK557.out 1; have hfz36_2 := blk_frozen BK557.out 2; have hfz36_3 := blk_frozen BK557.out 3; have hcz37_0 : w35.cell? ⟨gb565, 0, none⟩ = some (.slice Ao17 t550.length co17) := (blk_cell BK565.out 0).trans rfl; have hcz37_1 : w35.cell? ⟨gb565, 1, none⟩ = some (.int .i64 t553) := (blk_cell BK565.out 1).trans rfl; have hcz37_2 : w35.cell? ⟨gb565, 2, none⟩ = some (.int .i64 t554) := (blk_cell BK565.out 2).trans rfl; have hcz37_3 : w35.cell? ⟨gb565, 3, none⟩ = some (.bool t555) := (blk_cell BK565.out 3).trans rfl; have hfz37_0 := blk_frozen BK565.out 0; have hfz37_1 := blk_frozen BK565.out 1; have hfz37_2 := blk_frozen BK565.out 2; have hfz37_3 := blk_frozen BK565.out 3))
                go_meet
                case rel => exact ⟨_, (!t556), (by first | rfl | (simp; done) | (simp [*]; done)), H', ⟨by first | omega | exact Nat.le_refl _⟩, ⟨by (with_reducible repeat (first | apply Kd.S_alloc | apply Kd.S_drewN | apply Kd.S_drew)); exact Kd.S_mono HO545.out (fun _ hk => ⟨hk.1.2, hk.2⟩)⟩, ⟨by (with_reducible repeat (first | apply Kd.S_alloc | apply Kd.S_drewN | apply Kd.S_drew)); exact Kd.S_mono HO552.out (fun _ hk => ⟨hk.1.2, hk.2⟩)⟩, ⟨by (with_reducible repeat (first | apply Kd.S_alloc | apply Kd.S_drewN | apply Kd.S_drew)); exact Kd.S_mono HO560.out (fun _ hk => ⟨hk.1.2, hk.2⟩)⟩, ⟨by (with_reducible repeat (first | refine blk_drewN ?_ _ | refine blk_drew ?_ | refine blk_alloc ?_ _)); exact BK557.out⟩, ⟨by (with_reducible repeat (first | refine blk_drewN ?_ _ | refine blk_drew ?_ | refine blk_alloc ?_ _)); exact BK565.out⟩, ⟨by repeat (first | (with_reducible first | exact HB.out | apply below_alloc | apply pw_below_drewN | apply below_drew1 | refine below_set ?_ GE557.out | refine below_set ?_ GE565.out) | exact HB.out)⟩⟩
            · exact absurd c24 (by simp)
          · exact absurd c23 (by simp)
        · exact absurd (wnTexts_true A21.out) c22
    case rest =>
      clear HC6
      try clear c1
      try clear c2
      try clear c2b0
      try clear c2b1
      try clear p2
      try clear c3
      try clear c4
      try clear c5
      try clear c10
      try clear c11
      try clear c18
      try clear c19
      try clear c20
      try clear c20b0
      try clear c20b1
      try clear c20b2
      try clear c22
      try clear c23
      try clear c23b0
      try clear c23b1
      try clear c24
      try clear c24b0
      try clear c24b1
      try clear c25
      try clear c25b0
      try clear c25b1
      try clear c25b2
      try clear c26
      try clear c32
      try clear c38
      try clear c44
      try clear c50
      try clear hcz14_0
      try clear hcz14_1
      try clear hcz14_2
      try clear hcz14_3
      try clear hcz19_0
      try clear hcz19_1
      try clear hcz19_2
      try clear hcz19_3
      try clear hcz27_0
      try clear hcz27_1
      try clear hcz27_2
      try clear hcz27_3
      try clear hcz28_0
      try clear hcz28_1
      try clear hcz28_2
      try clear hcz28_3
      try clear hcz30_0
      try clear hcz30_1
      try clear hcz30_2
      try clear hcz30_3
      try clear hcz31_0
      try clear hcz31_1
      try clear hcz31_2
      try clear hcz31_3
      try clear hcz33_0
      try clear hcz33_1
      try clear hcz33_2
      try clear hcz33_3
      try clear hcz34_0
      try clear hcz34_1
      try clear hcz34_2
      try clear hcz34_3
      try clear hcz36_0
      try clear hcz36_1
      try clear hcz36_2
      try clear hcz36_3
      try clear hcz37_0
      try clear hcz37_1
      try clear hcz37_2
      try clear hcz37_3
      try clear hcz39_0
      try clear hcz39_1
      try clear hcz39_2
      try clear hcz39_3
      try clear hcz40_0
      try clear hcz40_1
      try clear hcz40_2
      try clear hcz40_3
      try clear hcz42_0
      try clear hcz42_1
      try clear hcz42_2
      try clear hcz42_3
      try clear hcz43_0
      try clear hcz43_1
      try clear hcz43_2
      try clear hcz43_3
      try clear hcz45_0
      try clear hcz45_1
      try clear hcz45_2
      try clear hcz45_3
      try clear hcz46_0
      try clear hcz46_1
      try clear hcz46_2
      try clear hcz46_3
      try clear hcz48_0
      try clear hcz48_1
      try clear hcz48_2
      try clear hcz48_3
      try clear hcz49_0
      try clear hcz49_1
      try clear hcz49_2
      try clear hcz49_3
      try clear hcz51_0
      try clear hcz51_1
      try clear hcz51_2
      try clear hcz51_3
      try clear hcz52_0
      try clear hcz52_1
      try clear hcz52_2
      try clear hcz52_3
      try clear hfz14_0
      try clear hfz14_1
      try clear hfz14_2
      try clear hfz14_3
      try clear hfz19_0
      try clear hfz19_1
      try clear hfz19_2
      try clear hfz19_3
      try clear hfz27_0
      try clear hfz27_1
      try clear hfz27_2
      try clear hfz27_3
      try clear hfz28_0
      try clear hfz28_1
      try clear hfz28_2
      try clear hfz28_3
      try clear hfz30_0
      try clear hfz30_1
      try clear hfz30_2
      try clear hfz30_3
      try clear hfz31_0
      try clear hfz31_1
      try clear hfz31_2
      try clear hfz31_3
      try clear hfz33_0
      try clear hfz33_1
      try clear hfz33_2
      try clear hfz33_3
      try clear hfz34_0
      try clear hfz34_1
      try clear hfz34_2
      try clear hfz34_3
      try clear hfz36_0
      try clear hfz36_1
      try clear hfz36_2
      try clear hfz36_3
      try clear hfz37_0
      try clear hfz37_1
      try clear hfz37_2
      try clear hfz37_3
      try clear hfz39_0
      try clear hfz39_1
      try clear hfz39_2
      try clear hfz39_3
      try clear hfz40_0
      try clear hfz40_1
      try clear hfz40_2
      try clear hfz40_3
      try clear hfz42_0
      try clear hfz42_1
      try clear hfz42_2
      try clear hfz42_3
      try clear hfz43_0
      try clear hfz43_1
      try clear hfz43_2
      try clear hfz43_3
      try clear hfz45_0
      try clear hfz45_1
      try clear hfz45_2
      try clear hfz45_3
      try clear hfz46_0
      try clear hfz46_1
      try clear hfz46_2
      try clear hfz46_3
      try clear hfz48_0
      try clear hfz48_1
      try clear hfz48_2
      try clear hfz48_3
      try clear hfz49_0
      try clear hfz49_1
      try clear hfz49_2
      try clear hfz49_3
      try clear hfz51_0
      try clear hfz51_1
      try clear hfz51_2
      try clear hfz51_3
      try clear hfz52_0
      try clear hfz52_1
      try clear hfz52_2
      try clear hfz52_3
      obtain ⟨kq, x76_5, rfl, HA, HJ5, HO_4, HO_558000, HO_566000, BK557, BK565, HB⟩ := hcut
      cases kq with
      | zero => exact absurd HA.out (by simp [laws_FnLinkSafe.j0])
      | succ kj5 =>
        have H := HA.out
        clear HA
        rw [laws_FnLinkSafe.j0] at H
        by_cases c54 : x76_5 = true
        · subst c54
          have H1 : (if (t556 == t556) = true then (if t553 = t553 then ((laws_wnTexts.f kj5 t550 t550).bind fun t567 => (if t567 = true then (if t554 = t554 then (some (t555 == t555)) else (some false)) else (some false))) else (some false)) else (some false)) = some r := by rw [if_pos rfl] at H; exact H
          clear H
          have H := H1
          clear H1
          by_cases c55 : (t556 == t556) = true
          · rw [if_pos c55] at H
            have c55b0 : (t556 == t556) = true := c55
            (try (have c55b1 : decide (t556 = t556) = true := by first | (simp; done) | simpa using c55))
            (try (have c55b2 : (t556 == t556) = true := by first | (simp; done) | simpa using c55))
            clear c55
            by_cases c56 : t553 = t553
            · rw [if_pos c56] at H
              have c56b0 : (t553 == t553) = true := beq_iff_eq.mpr c56
              have c56b1 : (t553 != t553) = false := bne_eq_false_iff_eq.mpr c56
              clear c56
              replace H := Option.bind_eq_some_iff.mp H
              obtain ⟨t567, A570, H⟩ := H
              replace H : (if t567 = true then (if t554 = t554 then (some (t555 == t555)) else (some false)) else (some false)) = some r := H
              have A57 := Aside0.mk A570
              clear A570
              by_cases c58 : t567 = true
              · subst c58
                have H1 : (if t554 = t554 then (some (t555 == t555)) else (some false)) = some r := by rw [if_pos rfl] at H; exact H
                clear H
                have H := H1
                clear H1
                by_cases c59 : t554 = t554
                · rw [if_pos c59] at H
                  have c59b0 : (t554 == t554) = true := beq_iff_eq.mpr c59
                  have c59b1 : (t554 != t554) = false := bne_eq_false_iff_eq.mpr c59
                  clear c59
                  obtain rfl := Option.some.inj H
                  have hnb60 := NB557_565.out
                  have hnc60 := NB565_557.out
                  have hcz61_0 : wc.cell? ⟨gb557, 0, none⟩ = some (.slice Ao13 t550.length co13) := (blk_cell BK557.out 0).trans rfl
                  have hcz61_1 : wc.cell? ⟨gb557, 1, none⟩ = some (.int .i64 t553) := (blk_cell BK557.out 1).trans rfl
                  have hcz61_2 : wc.cell? ⟨gb557, 2, none⟩ = some (.int .i64 t554) := (blk_cell BK557.out 2).trans rfl
                  have hcz61_3 : wc.cell? ⟨gb557, 3, none⟩ = some (.bool t555) := (blk_cell BK557.out 3).trans rfl
                  have hfz61_0 := blk_frozen BK557.out 0
                  have hfz61_1 := blk_frozen BK557.out 1
                  have hfz61_2 := blk_frozen BK557.out 2
                  have hfz61_3 := blk_frozen BK557.out 3
                  have hcz62_0 : wc.cell? ⟨gb565, 0, none⟩ = some (.slice Ao17 t550.length co17) := (blk_cell BK565.out 0).trans rfl
                  have hcz62_1 : wc.cell? ⟨gb565, 1, none⟩ = some (.int .i64 t553) := (blk_cell BK565.out 1).trans rfl
                  have hcz62_2 : wc.cell? ⟨gb565, 2, none⟩ = some (.int .i64 t554) := (blk_cell BK565.out 2).trans rfl
                  have hcz62_3 : wc.cell? ⟨gb565, 3, none⟩ = some (.bool t555) := (blk_cell BK565.out 3).trans rfl
                  have hfz62_0 := blk_frozen BK565.out 0
                  have hfz62_1 := blk_frozen BK565.out 1
                  have hfz62_2 := blk_frozen BK565.out 2
                  have hfz62_3 := blk_frozen BK565.out 3
                  go_wp2_with (first | (go_at_call 20; (with_reducible refine (laws_wnTexts.calls kj5 _ _ t550 _ _ t550 true _ ?side1 ?side2 ?side3 ?side4 A57.out).mono ?_); (case side1 => repeat (first | exact (Kd.S_reads' HO_558000.out).2.2 | (with_reducible refine Kd.C_alloc ?_ _) | (with_reducible refine Kd.C_drewN ?_ _) | (with_reducible refine Kd.C_drew ?_))); (case side2 => exact (Kd.S_reads' HO_558000.out).2.1); (case side3 => repeat (first | exact (Kd.S_reads' HO_566000.out).2.2 | (with_reducible refine Kd.C_alloc ?_ _) | (with_reducible refine Kd.C_drewN ?_ _) | (with_reducible refine Kd.C_drew ?_))); (case side4 => exact (Kd.S_reads' HO_566000.out).2.1); rintro e w63 ⟨rfl, hb⟩; have n0_ := Aside0.mk (Kd.S_below (by (with_reducible repeat (first | apply Kd.S_alloc | apply Kd.S_drewN | apply Kd.S_drew)); exact HO_4.out) hb); have n1_ := Aside0.mk (Kd.S_below (by (with_reducible repeat (first | apply Kd.S_alloc | apply Kd.S_drewN | apply Kd.S_drew)); exact HO_558000.out) hb); have n2_ := Aside0.mk (Kd.S_below (by (with_reducible repeat (first | apply Kd.S_alloc | apply Kd.S_drewN | apply Kd.S_drew)); exact HO_566000.out) hb); have n3_ := Aside0.mk (blk_below (g := gb557) (o := .cells #[.slice Ao13 t550.length co13, .int .i64 t553, .int .i64 t554, .bool t555] 28 (0, 0)) (by (with_reducible repeat (first | refine blk_drewN ?_ _ | refine blk_drew ?_ | refine blk_alloc ?_ _)); exact BK557.out) hb); have n4_ := Aside0.mk (blk_below (g := gb565) (o := .cells #[.slice Ao17 t550.length co17, .int .i64 t553, .int .i64 t554, .bool t555] 28 (0, 0)) (by (with_reducible repeat (first | refine blk_drewN ?_ _ | refine blk_drew ?_ | refine blk_alloc ?_ _)); exact BK565.out) hb); have n5_ := Aside0.mk (below_step (by repeat (first | (with_reducible first | exact HB.out | apply below_alloc | apply pw_below_drewN | apply below_drew1 | refine below_set ?_ GE557.out | refine below_set ?_ GE565.out) | exact HB.out)) hb); clear HO_4; clear HO_558000; clear HO_566000; clear BK557; clear BK565; clear HB; have HO_4 := n0_; have HO_558000 := n1_; have HO_566000 := n2_; have BK557 := n3_; have BK565 := n4_; have HB := n5_; clear n0_ n1_ n2_ n3_ n4_ n5_; (try clear hb); (try clear hb2); (try clear hk); (try clear hi); have hcz64_0 : w63.cell? ⟨gb557, 0, none⟩ = some (.slice Ao13 t550.length co13) := (blk_cell BK557.out 0).trans rfl; have hcz64_1 : w63.cell? ⟨gb557, 1, none⟩ = some (.int .i64 t553) := (blk_cell BK557.out 1).trans rfl; have hcz64_2 : w63.cell? ⟨gb557, 2, none⟩ = some (.int .i64 t554) := (blk_cell BK557.out 2).trans rfl; have hcz64_3 : w63.cell? ⟨gb557, 3, none⟩ = some (.bool t555) := (blk_cell BK557.out 3).trans rfl; have hfz64_0 := blk_frozen BK557.out 0; have hfz64_1 := blk_frozen BK557.out 1; have hfz64_2 := blk_frozen BK557.out 2; have hfz64_3 := blk_frozen BK557.out 3; have hcz65_0 : w63.cell? ⟨gb565, 0, none⟩ = some (.slice Ao17 t550.length co17) := (blk_cell BK565.out 0).trans rfl; have hcz65_1 : w63.cell? ⟨gb565, 1, none⟩ = some (.int .i64 t553) := (blk_cell BK565.out 1).trans rfl; have hcz65_2 : w63.cell? ⟨gb565, 2, none⟩ = some (.int .i64 t554) := (blk_cell BK565.out 2).trans rfl; have hcz65_3 : w63.cell? ⟨gb565, 3, none⟩ = some (.bool t555) := (blk_cell BK565.out 3).trans rfl; have hfz65_0 := blk_frozen BK565.out 0; have hfz65_1 := blk_frozen BK565.out 1; have hfz65_2 := blk_frozen BK565.out 2; have hfz65_3 := blk_frozen BK565.out 3))
                  go_ret
                  exact ⟨by first | rfl | (simp [errW_none, errW_some] <;> rfl) | (simp [*, errW_none, errW_some] <;> rfl), by repeat (first | (with_reducible first | exact HB.out | apply below_alloc | apply pw_below_drewN | apply below_drew1 | refine below_set ?_ GE557.out | refine below_set ?_ GE565.out) | exact HB.out)⟩
                · exact absurd c59 (by simp)
              · replace c58 := Bool.eq_false_iff.mpr c58
                subst c58
                have H1 : (some false) = some r := by rw [if_neg (show ¬ (false = true) by decide)] at H; exact H
                clear H
                have H := H1
                clear H1
                obtain rfl := Option.some.inj H
                exact absurd hr (by simp)
            · exact absurd c56 (by simp)
          · exact absurd c55 (by simp)
        · replace c54 := Bool.eq_false_iff.mpr c54
          subst c54
          have H1 : (if (t550.length : Int) ≤ (t540.length : Int) then (if 0 ≤ (t550.length : Int) then ((laws_wnTexts.f kj5 t550 (t540.take ((t550.length : Int) : Int).toNat)).bind fun t572 => (if t572 = true then (if t555 = true then (if (t550.length : Int) = (t540.length : Int) then (some (decide (t553 ≤ t543))) else (some false)) else (some (decide (t553 ≤ t543)))) else (some false))) else (none)) else (some false)) = some r := by rw [if_neg (show ¬ (false = true) by decide)] at H; exact H
          clear H
          have H := H1
          clear H1
          by_cases c79 : (t550.length : Int) ≤ (t540.length : Int)
          · rw [if_pos c79] at H
            have c79b0 : decide ((t550.length : Int) ≤ (t540.length : Int)) = true := decide_eq_true c79
            have c79b1 : decide (t550.length ≤ t540.length) = true := decide_eq_true (Int.ofNat_le.mp c79)
            clear c79
            by_cases c80 : 0 ≤ (t550.length : Int)
            · rw [if_pos c80] at H
              have c80b0 := eq_true c80
              have c80b1 : decide (0 ≤ (t550.length : Int)) = true := decide_eq_true c80
              clear c80
              have c81b0 := eq_true (of_decide_eq_true (by first | (with_reducible assumption) | assumption) : (t550.length : Int) ≤ (t540.length : Int))
              obtain ⟨y568, hy568⟩ : ∃ y_ : List (List Int), y_ = (t540.take ((t550.length : Int) : Int).toNat) := ⟨_, rfl⟩
              replace H : ((laws_wnTexts.f kj5 t550 y568).bind fun t572 => (if t572 = true then (if t555 = true then (if (t550.length : Int) = (t540.length : Int) then (some (decide (t553 ≤ t543))) else (some false)) else (some (decide (t553 ≤ t543)))) else (some false))) = some r := by first | (rw [hy568]; with_reducible exact H) | (have H2_ := (Option.bind_some _ _).symm.trans H; rw [hy568]; with_reducible exact H2_) | (have H2_ := (Option.bind_some _ _).symm.trans H; with_reducible exact H2_) | with_reducible exact H | (rw [hy568]; exact H) | exact H
              have Ny568 := Aside0.mk hy568
              clear hy568
              replace H := Option.bind_eq_some_iff.mp H
              obtain ⟨t572, A820, H⟩ := H
              replace H : (if t572 = true then (if t555 = true then (if (t550.length : Int) = (t540.length : Int) then (some (decide (t553 ≤ t543))) else (some false)) else (some (decide (t553 ≤ t543)))) else (some false)) = some r := H
              have A82 := Aside0.mk A820
              clear A820
              by_cases c83 : t572 = true
              · subst c83
                have H1 : (if t555 = true then (if (t550.length : Int) = (t540.length : Int) then (some (decide (t553 ≤ t543))) else (some false)) else (some (decide (t553 ≤ t543)))) = some r := by rw [if_pos rfl] at H; exact H
                clear H
                have H := H1
                clear H1
                by_cases c84 : t555 = true
                · subst c84
                  have H1 : (if (t550.length : Int) = (t540.length : Int) then (some (decide (t553 ≤ t543))) else (some false)) = some r := by rw [if_pos rfl] at H; exact H
                  clear H
                  have H := H1
                  clear H1
                  by_cases c85 : (t550.length : Int) = (t540.length : Int)
                  · rw [if_pos c85] at H
                    have c85b0 : ((t550.length : Int) == (t540.length : Int)) = true := beq_iff_eq.mpr c85
                    have c85b1 : ((t550.length : Int) != (t540.length : Int)) = false := bne_eq_false_iff_eq.mpr c85
                    have c85b2 : (t550.length == t540.length) = true := by first | simpa using c85 | (simp at c85 ⊢; omega)
                    clear c85
                    obtain rfl := Option.some.inj H
                    try go_wp2
                    have n0_ := Aside0.mk (Kd.S_drew HO_4.out)
                    have n1_ := Aside0.mk (Kd.S_drew HO_558000.out)
                    have n2_ := Aside0.mk (Kd.S_drew HO_566000.out)
                    have n3_ := Aside0.mk (blk_drew BK557.out)
                    have n4_ := Aside0.mk (blk_drew BK565.out)
                    have n5_ := Aside0.mk (below_drew1 HB.out)
                    clear HO_4
                    clear HO_558000
                    clear HO_566000
                    clear BK557
                    clear BK565
                    clear HB
                    have HO_4 := n0_
                    have HO_558000 := n1_
                    have HO_566000 := n2_
                    have BK557 := n3_
                    have BK565 := n4_
                    have HB := n5_
                    clear n0_ n1_ n2_ n3_ n4_ n5_
                    have q87 : ((t550.length : Int) : Int) ≤ ((t540.length : Int) : Int) := of_decide_eq_true (by first | (with_reducible assumption) | assumption)
                    obtain ⟨i087, hi087, _, hsz87, _⟩ := info_parts info22
                    have hroom87 : t540.length ≤ co8 := (Kd.S_reads' HO_4.out).2.1
                    have hC87 : Kd.C (Kd.slice 5 (Kd.int .u8)) _ Ao8 t540.length t540 := (Kd.S_reads' HO_4.out).2.2
                    have hcut87 := cut_to (P := Try.prog) 23 22 .i64 Try.underlying23 hi087 Ao8 t540.length co8 (t550.length : Int) (of_decide_eq_true (by first | (with_reducible assumption) | assumption)) q87 hroom87
                    have hr87 := Kd.C_take (m := ((t550.length : Int) : Int).toNat) hC87 (by omega)
                    have hy87 : y568.length = ((t550.length : Int) : Int).toNat := (by rw [Ny568.out, List.length_take]; omega)
                    rw [← Ny568.out] at hr87
                    rw [← hy87] at hcut87
                    have HR571 := Aside0.mk hr87
                    have HC571 := Aside0.mk (show y568.length ≤ co8 from by omega)
                    clear hr87 hC87 hroom87 hi087 hsz87
                    have KY87 := Aside0.mk hy87
                    clear hy87
                    have KL87 := Aside0.mk (show ((t550.length : Int) : Int).toNat ≤ t540.length from by omega)
                    replace q87 := eq_true q87
                    refine start_ (n := 36) (S := fun w' => w'.cell? ⟨gb557, 0, none⟩ = some (.slice Ao13 t550.length co13) ∧ w'.cell? ⟨gb557, 1, none⟩ = some (.int .i64 t553) ∧ w'.cell? ⟨gb557, 2, none⟩ = some (.int .i64 t554) ∧ w'.cell? ⟨gb557, 3, none⟩ = some (.bool true)) (ds := []) #[false, false, false, false, false, false, false, false, false, false, false, false, false, false, false, false, false, false, false, false, false, false, false, false, false, false, false, false, false, false, false, false, false, false, false, false] (by kernel_rfl) rfl rfl ⟨(blk_cell BK557.out 0).trans rfl, (blk_cell BK557.out 1).trans rfl, (blk_cell BK557.out 2).trans rfl, (blk_cell BK557.out 3).trans rfl⟩ (fun hHeld => ?_); refine with_tabW laws_FnLinkSafe.tab8 laws_FnLinkSafe.bits8 (fun HT_ HW_ => ?_)
                    generalize wc.drew = w86 at HO_4 HO_558000 HO_566000 BK557 BK565 HB HR571 hHeld ⊢
                    refine pure_ (i := 0) (N := some 108) (v := ?_) (a' := ?_) #[true, false, false, false, false, false, false, false, false, false, false, false, false, false, false, false, false, false, false, false, false, false, false, false, false, false, false, false, false, false, false, false, false, false, false, false] rfl rfl (any_of HT_.out (by kernel_rfl)) (fun _ _ _ h => h) (Or.inl ⟨by rfl, ?_⟩) ?_ ?_
                    rotate_left
                    · intro w'
                      go_simp
                      with_reducible rfl
                    rotate_left
                    · simp only [Act.put, List.setIfInBounds_toArray, List.set_cons_zero, List.set_cons_succ, i64_w, i32_w]
                      rfl
                    refine pure_ (i := 3) (N := some 111) (v := ?_) (a' := ?_) #[true, false, false, true, false, false, false, false, false, false, false, false, false, false, false, false, false, false, false, false, false, false, false, false, false, false, false, false, false, false, false, false, false, false, false, false] rfl rfl (any_of HT_.out (by kernel_rfl)) (fun _ _ _ h => h) (Or.inl ⟨by rfl, ?_⟩) ?_ ?_
                    rotate_left
                    · intro w'
                      go_simp
                      with_reducible rfl
                    rotate_left
                    · simp only [Act.put, List.setIfInBounds_toArray, List.set_cons_zero, List.set_cons_succ, i64_w, i32_w]
                      rfl
                    refine pure_ (i := 4) (N := some 112) (v := ?_) (a' := ?_) #[true, false, false, true, true, false, false, false, false, false, false, false, false, false, false, false, false, false, false, false, false, false, false, false, false, false, false, false, false, false, false, false, false, false, false, false] rfl rfl (any_of HT_.out (by kernel_rfl)) (fun _ _ _ h => h) (Or.inl ⟨by rfl, ?_⟩) ?_ ?_
                    rotate_left
                    · intro w'
                      go_simp
                      with_reducible rfl
                    rotate_left
                    · simp only [Act.put, List.setIfInBounds_toArray, List.set_cons_zero, List.set_cons_succ, i64_w, i32_w]
                      rfl
                    refine take_ (i := 1) (N := some 109) (v := ?_) (a' := ?_) #[true, true, false, true, true, false, false, false, false, false, false, false, false, false, false, false, false, false, false, false, false, false, false, false, false, false, false, false, false, false, false, false, false, false, false, false] rfl rfl (take_ofW HT_.out HW_.out (by kernel_rfl)) (fun _ _ _ h => h) (Or.inl ⟨by rfl, ?_⟩) hHeld ?_ ?_
                    rotate_left
                    · rintro w' ⟨s0, s1, s2, s3⟩
                      go_simp
                      with_reducible rfl
                    rotate_left
                    · simp only [Act.put, List.setIfInBounds_toArray, List.set_cons_zero, List.set_cons_succ, i64_w, i32_w]
                      rfl
                    refine pure_ (i := 2) (N := some 110) (v := ?_) (a' := ?_) #[true, true, true, true, true, false, false, false, false, false, false, false, false, false, false, false, false, false, false, false, false, false, false, false, false, false, false, false, false, false, false, false, false, false, false, false] rfl rfl (any_of HT_.out (by kernel_rfl)) (fun _ _ _ h => h) (Or.inl ⟨by rfl, ?_⟩) ?_ ?_
                    rotate_left
                    · intro w'
                      go_simp
                      with_reducible rfl
                    rotate_left
                    · simp only [Act.put, List.setIfInBounds_toArray, List.set_cons_zero, List.set_cons_succ, i64_w, i32_w]
                      rfl
                    refine pure_ (i := 5) (N := some 113) (v := ?_) (a' := ?_) #[true, true, true, true, true, true, false, false, false, false, false, false, false, false, false, false, false, false, false, false, false, false, false, false, false, false, false, false, false, false, false, false, false, false, false, false] rfl rfl (any_of HT_.out (by kernel_rfl)) (fun _ _ _ h => h) (Or.inl ⟨by rfl, ?_⟩) ?_ ?_
                    rotate_left
                    · intro w'
                      go_simp
                      with_reducible rfl
                    rotate_left
                    · simp only [Act.put, List.setIfInBounds_toArray, List.set_cons_zero, List.set_cons_succ, i64_w, i32_w]
                      rfl
                    refine pure_ (i := 6) (N := some 114) (v := ?_) (a' := ?_) #[true, true, true, true, true, true, true, false, false, false, false, false, false, false, false, false, false, false, false, false, false, false, false, false, false, false, false, false, false, false, false, false, false, false, false, false] rfl rfl (any_of HT_.out (by kernel_rfl)) (fun _ _ _ h => h) (Or.inl ⟨by rfl, ?_⟩) ?_ ?_
                    rotate_left
                    · intro w'
                      go_simp
                      with_reducible rfl
                    rotate_left
                    · simp only [Act.put, List.setIfInBounds_toArray, List.set_cons_zero, List.set_cons_succ, i64_w, i32_w]
                      rfl
                    refine pure_ (i := 7) (N := some 115) (v := ?_) (a' := ?_) #[true, true, true, true, true, true, true, true, false, false, false, false, false, false, false, false, false, false, false, false, false, false, false, false, false, false, false, false, false, false, false, false, false, false, false, false] rfl rfl (any_of HT_.out (by kernel_rfl)) (fun _ _ _ h => h) (Or.inl ⟨by rfl, ?_⟩) ?_ ?_
                    rotate_left
                    · intro w'
                      go_simp
                      with_reducible rfl
                    rotate_left
                    · simp only [Act.put, List.setIfInBounds_toArray, List.set_cons_zero, List.set_cons_succ, i64_w, i32_w]
                      rfl
                    refine pure_ (i := 9) (N := some 117) (v := ?_) (a' := ?_) #[true, true, true, true, true, true, true, true, false, true, false, false, false, false, false, false, false, false, false, false, false, false, false, false, false, false, false, false, false, false, false, false, false, false, false, false] rfl rfl (any_of HT_.out (by kernel_rfl)) (fun _ _ _ h => h) (Or.inl ⟨by rfl, ?_⟩) ?_ ?_
                    rotate_left
                    · intro w'
                      go_simp
                      with_reducible rfl
                    rotate_left
                    · simp only [Act.put, List.setIfInBounds_toArray, List.set_cons_zero, List.set_cons_succ, i64_w, i32_w]
                      rfl
                    refine pure_ (i := 10) (N := some 118) (v := ?_) (a' := ?_) #[true, true, true, true, true, true, true, true, false, true, true, false, false, false, false, false, false, false, false, false, false, false, false, false, false, false, false, false, false, false, false, false, false, false, false, false] rfl rfl (any_of HT_.out (by kernel_rfl)) (fun _ _ _ h => h) (Or.inl ⟨by rfl, ?_⟩) ?_ ?_
                    rotate_left
                    · intro w'
                      go_simp
                      with_reducible rfl
                    rotate_left
                    · simp only [Act.put, List.setIfInBounds_toArray, List.set_cons_zero, List.set_cons_succ, i64_w, i32_w]
                      rfl
                    refine take_ (i := 8) (N := some 116) (v := ?_) (a' := ?_) #[true, true, true, true, true, true, true, true, true, true, true, false, false, false, false, false, false, false, false, false, false, false, false, false, false, false, false, false, false, false, false, false, false, false, false, false] rfl rfl (take_ofW HT_.out HW_.out (by kernel_rfl)) (fun _ _ _ h => h) (Or.inl ⟨by rfl, ?_⟩) hHeld ?_ ?_
                    rotate_left
                    · rintro w' ⟨s0, s1, s2, s3⟩
                      go_simp
                      with_reducible rfl
                    rotate_left
                    · simp only [Act.put, List.setIfInBounds_toArray, List.set_cons_zero, List.set_cons_succ, i64_w, i32_w]
                      rfl
                    refine take_ (i := 11) (N := some 119) (v := ?_) (a' := ?_) #[true, true, true, true, true, true, true, true, true, true, true, true, false, false, false, false, false, false, false, false, false, false, false, false, false, false, false, false, false, false, false, false, false, false, false, false] rfl rfl (take_ofW HT_.out HW_.out (by kernel_rfl)) (fun _ _ _ h => h) (Or.inl ⟨by rfl, ?_⟩) hHeld ?_ ?_
                    rotate_left
                    · rintro w' ⟨s0, s1, s2, s3⟩
                      go_simp
                      with_reducible rfl
                    rotate_left
                    · simp only [Act.put, List.setIfInBounds_toArray, List.set_cons_zero, List.set_cons_succ, i64_w, i32_w]
                      rfl
                    refine pure_ (i := 12) (N := some 120) (v := ?_) (a' := ?_) #[true, true, true, true, true, true, true, true, true, true, true, true, true, false, false, false, false, false, false, false, false, false, false, false, false, false, false, false, false, false, false, false, false, false, false, false] rfl rfl (any_of HT_.out (by kernel_rfl)) (fun _ _ _ h => h) (Or.inl ⟨by rfl, ?_⟩) ?_ ?_
                    rotate_left
                    · intro w'
                      go_simp
                      with_reducible rfl
                    rotate_left
                    · simp only [Act.put, List.setIfInBounds_toArray, List.set_cons_zero, List.set_cons_succ, i64_w, i32_w]
                      rfl
                    refine pure_ (i := 13) (N := some 121) (v := ?_) (a' := ?_) #[true, true, true, true, true, true, true, true, true, true, true, true, true, true, false, false, false, false, false, false, false, false, false, false, false, false, false, false, false, false, false, false, false, false, false, false] rfl rfl (any_of HT_.out (by kernel_rfl)) (fun _ _ _ h => h) (Or.inl ⟨by rfl, ?_⟩) ?_ ?_
                    rotate_left
                    · intro w'
                      go_simp
                      with_reducible rfl
                    rotate_left
                    · simp only [Act.put, List.setIfInBounds_toArray, List.set_cons_zero, List.set_cons_succ, i64_w, i32_w]
                      rfl
                    refine one_ (i := 14) (N := some 122) #[true, true, true, true, true, true, true, true, true, true, true, true, true, true, true, false, false, false, false, false, false, false, false, false, false, false, false, false, false, false, false, false, false, false, false, false] rfl rfl (one_of HT_.out (by kernel_rfl)) (by decide) (fun K hK => ?_)
                    refine goes_ Try.func20 (by kernel_rfl) rfl #[.slice Ao13 t550.length co13, .slice Ao8 y568.length co8] (by rfl) rfl rfl (by (try simp only [List.map_toArray, List.map_cons, List.map_nil]); first | done | rfl | (simp only [List.length_drop, List.length_take]; rfl)) ?_
                    with_reducible refine (laws_wnTexts.calls kj5 _ _ t550 _ _ y568 true _ ?side1 ?side2 ?side3 ?side4 A82.out).mono ?_
                    (case side1 => repeat (first | exact (Kd.S_reads' HO_558000.out).2.2 | (with_reducible refine Kd.C_alloc ?_ _) | (with_reducible refine Kd.C_drewN ?_ _) | (with_reducible refine Kd.C_drew ?_)))
                    (case side2 => exact (Kd.S_reads' HO_558000.out).2.1)
                    (case side3 => repeat (first | exact (by repeat (first | (with_reducible exact HR571.out) | (with_reducible refine Kd.C_alloc ?_ _) | (with_reducible refine Kd.C_drewN ?_ _) | (with_reducible refine Kd.C_drew ?_) | exact HR571.out)) | (with_reducible refine Kd.C_alloc ?_ _) | (with_reducible refine Kd.C_drewN ?_ _) | (with_reducible refine Kd.C_drew ?_)))
                    (case side4 => exact HC571.out)
                    rintro e w88 ⟨rfl, hb⟩
                    refine ⟨_, rfl, ?_⟩
                    have n0_ := Aside0.mk (Kd.S_below (by (with_reducible repeat (first | apply Kd.S_alloc | apply Kd.S_drewN | apply Kd.S_drew)); exact HO_4.out) hb)
                    have n1_ := Aside0.mk (Kd.S_below (by (with_reducible repeat (first | apply Kd.S_alloc | apply Kd.S_drewN | apply Kd.S_drew)); exact HO_558000.out) hb)
                    have n2_ := Aside0.mk (Kd.S_below (by (with_reducible repeat (first | apply Kd.S_alloc | apply Kd.S_drewN | apply Kd.S_drew)); exact HO_566000.out) hb)
                    have n3_ := Aside0.mk (blk_below (g := gb557) (o := .cells #[.slice Ao13 t550.length co13, .int .i64 t553, .int .i64 t554, .bool true] 28 (0, 0)) (by (with_reducible repeat (first | refine blk_drewN ?_ _ | refine blk_drew ?_ | refine blk_alloc ?_ _)); exact BK557.out) hb)
                    have n4_ := Aside0.mk (blk_below (g := gb565) (o := .cells #[.slice Ao17 t550.length co17, .int .i64 t553, .int .i64 t554, .bool true] 28 (0, 0)) (by (with_reducible repeat (first | refine blk_drewN ?_ _ | refine blk_drew ?_ | refine blk_alloc ?_ _)); exact BK565.out) hb)
                    have n5_ := Aside0.mk (Kd.C_below (by repeat (first | (with_reducible exact HR571.out) | (with_reducible refine Kd.C_alloc ?_ _) | (with_reducible refine Kd.C_drewN ?_ _) | (with_reducible refine Kd.C_drew ?_) | exact HR571.out)) hb)
                    have n6_ := Aside0.mk (below_step (by repeat (first | (with_reducible first | exact HB.out | apply below_alloc | apply pw_below_drewN | apply below_drew1 | refine below_set ?_ GE557.out | refine below_set ?_ GE565.out) | exact HB.out)) hb)
                    clear HO_4
                    clear HO_558000
                    clear HO_566000
                    clear BK557
                    clear BK565
                    clear HR571
                    clear HB
                    have HO_4 := n0_
                    have HO_558000 := n1_
                    have HO_566000 := n2_
                    have BK557 := n3_
                    have BK565 := n4_
                    have HR571 := n5_
                    have HB := n6_
                    clear n0_ n1_ n2_ n3_ n4_ n5_ n6_
                    (try clear hb)
                    (try clear hb2)
                    (try clear hk)
                    (try clear hi)
                    refine hK.out _ _ ⟨(blk_cell BK557.out 0).trans rfl, (blk_cell BK557.out 1).trans rfl, (blk_cell BK557.out 2).trans rfl, (blk_cell BK557.out 3).trans rfl⟩ (fun hHeld => ?_)
                    clear hK K
                    refine norm_ (a' := ?_) ?_ ?_
                    rotate_left
                    · show Act.put _ (some 122) _ = _
                      simp only [Act.put, List.setIfInBounds_toArray, List.set_cons_zero, List.set_cons_succ, i64_w, i32_w]
                      rfl
                    refine pure_ (i := 15) (N := some 123) (v := ?_) (a' := ?_) #[true, true, true, true, true, true, true, true, true, true, true, true, true, true, true, true, false, false, false, false, false, false, false, false, false, false, false, false, false, false, false, false, false, false, false, false] rfl rfl (any_of HT_.out (by kernel_rfl)) (fun _ _ _ h => h) (Or.inl ⟨by rfl, ?_⟩) ?_ ?_
                    rotate_left
                    · intro w'
                      go_simp
                      with_reducible rfl
                    rotate_left
                    · simp only [Act.put, List.setIfInBounds_toArray, List.set_cons_zero, List.set_cons_succ, i64_w, i32_w]
                      rfl
                    refine pure_ (i := 16) (N := some 124) (v := ?_) (a' := ?_) #[true, true, true, true, true, true, true, true, true, true, true, true, true, true, true, true, true, false, false, false, false, false, false, false, false, false, false, false, false, false, false, false, false, false, false, false] rfl rfl (any_of HT_.out (by kernel_rfl)) (fun _ _ _ h => h) (Or.inl ⟨by rfl, ?_⟩) ?_ ?_
                    rotate_left
                    · intro w'
                      go_simp
                      with_reducible rfl
                    rotate_left
                    · simp only [Act.put, List.setIfInBounds_toArray, List.set_cons_zero, List.set_cons_succ, i64_w, i32_w]
                      rfl
                    refine pure_ (i := 17) (N := some 125) (v := ?_) (a' := ?_) #[true, true, true, true, true, true, true, true, true, true, true, true, true, true, true, true, true, true, false, false, false, false, false, false, false, false, false, false, false, false, false, false, false, false, false, false] rfl rfl (any_of HT_.out (by kernel_rfl)) (fun _ _ _ h => h) (Or.inl ⟨by rfl, ?_⟩) ?_ ?_
                    rotate_left
                    · intro w'
                      go_simp
                      with_reducible rfl
                    rotate_left
                    · simp only [Act.put, List.setIfInBounds_toArray, List.set_cons_zero, List.set_cons_succ, i64_w, i32_w]
                      rfl
                    refine take_ (i := 18) (N := some 126) (v := ?_) (a' := ?_) #[true, true, true, true, true, true, true, true, true, true, true, true, true, true, true, true, true, true, true, false, false, false, false, false, false, false, false, false, false, false, false, false, false, false, false, false] rfl rfl (take_ofW HT_.out HW_.out (by kernel_rfl)) (fun _ _ _ h => h) (Or.inl ⟨by rfl, ?_⟩) hHeld ?_ ?_
                    rotate_left
                    · rintro w' ⟨s0, s1, s2, s3⟩
                      go_simp
                      with_reducible rfl
                    rotate_left
                    · simp only [Act.put, List.setIfInBounds_toArray, List.set_cons_zero, List.set_cons_succ, i64_w, i32_w]
                      rfl
                    refine pure_ (i := 19) (N := some 127) (v := ?_) (a' := ?_) #[true, true, true, true, true, true, true, true, true, true, true, true, true, true, true, true, true, true, true, true, false, false, false, false, false, false, false, false, false, false, false, false, false, false, false, false] rfl rfl (any_of HT_.out (by kernel_rfl)) (fun _ _ _ h => h) (Or.inl ⟨by rfl, ?_⟩) ?_ ?_
                    rotate_left
                    · intro w'
                      go_simp
                      with_reducible rfl
                    rotate_left
                    · simp only [Act.put, List.setIfInBounds_toArray, List.set_cons_zero, List.set_cons_succ, i64_w, i32_w]
                      rfl
                    refine pure_ (i := 20) (N := some 128) (v := ?_) (a' := ?_) #[true, true, true, true, true, true, true, true, true, true, true, true, true, true, true, true, true, true, true, true, true, false, false, false, false, false, false, false, false, false, false, false, false, false, false, false] rfl rfl (any_of HT_.out (by kernel_rfl)) (fun _ _ _ h => h) (Or.inl ⟨by rfl, ?_⟩) ?_ ?_
                    rotate_left
                    · intro w'
                      go_simp
                      with_reducible rfl
                    rotate_left
                    · simp only [Act.put, List.setIfInBounds_toArray, List.set_cons_zero, List.set_cons_succ, i64_w, i32_w]
                      rfl
                    refine pure_ (i := 21) (N := some 129) (v := ?_) (a' := ?_) #[true, true, true, true, true, true, true, true, true, true, true, true, true, true, true, true, true, true, true, true, true, true, false, false, false, false, false, false, false, false, false, false, false, false, false, false] rfl rfl (any_of HT_.out (by kernel_rfl)) (fun _ _ _ h => h) (Or.inl ⟨by rfl, ?_⟩) ?_ ?_
                    rotate_left
                    · intro w'
                      go_simp
                      with_reducible rfl
                    rotate_left
                    · simp only [Act.put, List.setIfInBounds_toArray, List.set_cons_zero, List.set_cons_succ, i64_w, i32_w]
                      rfl
                    refine pure_ (i := 24) (N := some 132) (v := ?_) (a' := ?_) #[true, true, true, true, true, true, true, true, true, true, true, true, true, true, true, true, true, true, true, true, true, true, false, false, true, false, false, false, false, false, false, false, false, false, false, false] rfl rfl (any_of HT_.out (by kernel_rfl)) (fun _ _ _ h => h) (Or.inl ⟨by rfl, ?_⟩) ?_ ?_
                    rotate_left
                    · intro w'
                      go_simp
                      with_reducible rfl
                    rotate_left
                    · simp only [Act.put, List.setIfInBounds_toArray, List.set_cons_zero, List.set_cons_succ, i64_w, i32_w]
                      rfl
                    refine pure_ (i := 25) (N := some 133) (v := ?_) (a' := ?_) #[true, true, true, true, true, true, true, true, true, true, true, true, true, true, true, true, true, true, true, true, true, true, false, false, true, true, false, false, false, false, false, false, false, false, false, false] rfl rfl (any_of HT_.out (by kernel_rfl)) (fun _ _ _ h => h) (Or.inl ⟨by rfl, ?_⟩) ?_ ?_
                    rotate_left
                    · intro w'
                      go_simp
                      with_reducible rfl
                    rotate_left
                    · simp only [Act.put, List.setIfInBounds_toArray, List.set_cons_zero, List.set_cons_succ, i64_w, i32_w]
                      rfl
                    refine take_ (i := 22) (N := some 130) (v := ?_) (a' := ?_) #[true, true, true, true, true, true, true, true, true, true, true, true, true, true, true, true, true, true, true, true, true, true, true, false, true, true, false, false, false, false, false, false, false, false, false, false] rfl rfl (take_ofW HT_.out HW_.out (by kernel_rfl)) (fun _ _ _ h => h) (Or.inl ⟨by rfl, ?_⟩) hHeld ?_ ?_
                    rotate_left
                    · rintro w' ⟨s0, s1, s2, s3⟩
                      go_simp
                      with_reducible rfl
                    rotate_left
                    · simp only [Act.put, List.setIfInBounds_toArray, List.set_cons_zero, List.set_cons_succ, i64_w, i32_w]
                      rfl
                    refine pure_ (i := 23) (N := some 131) (v := ?_) (a' := ?_) #[true, true, true, true, true, true, true, true, true, true, true, true, true, true, true, true, true, true, true, true, true, true, true, true, true, true, false, false, false, false, false, false, false, false, false, false] rfl rfl (any_of HT_.out (by kernel_rfl)) (fun _ _ _ h => h) (Or.inl ⟨by rfl, ?_⟩) ?_ ?_
                    rotate_left
                    · intro w'
                      go_simp
                      with_reducible rfl
                    rotate_left
                    · simp only [Act.put, List.setIfInBounds_toArray, List.set_cons_zero, List.set_cons_succ, i64_w, i32_w]
                      rfl
                    refine pure_ (i := 26) (N := some 134) (v := ?_) (a' := ?_) #[true, true, true, true, true, true, true, true, true, true, true, true, true, true, true, true, true, true, true, true, true, true, true, true, true, true, true, false, false, false, false, false, false, false, false, false] rfl rfl (any_of HT_.out (by kernel_rfl)) (fun _ _ _ h => h) (Or.inl ⟨by rfl, ?_⟩) ?_ ?_
                    rotate_left
                    · intro w'
                      go_simp
                      with_reducible rfl
                    rotate_left
                    · simp only [Act.put, List.setIfInBounds_toArray, List.set_cons_zero, List.set_cons_succ, i64_w, i32_w]
                      rfl
                    refine pure_ (i := 27) (N := some 135) (v := ?_) (a' := ?_) #[true, true, true, true, true, true, true, true, true, true, true, true, true, true, true, true, true, true, true, true, true, true, true, true, true, true, true, true, false, false, false, false, false, false, false, false] rfl rfl (any_of HT_.out (by kernel_rfl)) (fun _ _ _ h => h) (Or.inl ⟨by rfl, ?_⟩) ?_ ?_
                    rotate_left
                    · intro w'
                      go_simp
                      with_reducible rfl
                    rotate_left
                    · simp only [Act.put, List.setIfInBounds_toArray, List.set_cons_zero, List.set_cons_succ, i64_w, i32_w]
                      rfl
                    refine pure_ (i := 28) (N := some 136) (v := ?_) (a' := ?_) #[true, true, true, true, true, true, true, true, true, true, true, true, true, true, true, true, true, true, true, true, true, true, true, true, true, true, true, true, true, false, false, false, false, false, false, false] rfl rfl (any_of HT_.out (by kernel_rfl)) (fun _ _ _ h => h) (Or.inl ⟨by rfl, ?_⟩) ?_ ?_
                    rotate_left
                    · intro w'
                      go_simp
                      with_reducible rfl
                    rotate_left
                    · simp only [Act.put, List.setIfInBounds_toArray, List.set_cons_zero, List.set_cons_succ, i64_w, i32_w]
                      rfl
                    refine pure_ (i := 29) (N := some 137) (v := ?_) (a' := ?_) #[true, true, true, true, true, true, true, true, true, true, true, true, true, true, true, true, true, true, true, true, true, true, true, true, true, true, true, true, true, true, false, false, false, false, false, false] rfl rfl (any_of HT_.out (by kernel_rfl)) (fun _ _ _ h => h) (Or.inl ⟨by rfl, ?_⟩) ?_ ?_
                    rotate_left
                    · intro w'
                      go_simp
                      with_reducible rfl
                    rotate_left
                    · simp only [Act.put, List.setIfInBounds_toArray, List.set_cons_zero, List.set_cons_succ, i64_w, i32_w]
                      rfl
                    refine pure_ (i := 30) (N := some 138) (v := ?_) (a' := ?_) #[true, true, true, true, true, true, true, true, true, true, true, true, true, true, true, true, true, true, true, true, true, true, true, true, true, true, true, true, true, true, true, false, false, false, false, false] rfl rfl (any_of HT_.out (by kernel_rfl)) (fun _ _ _ h => h) (Or.inl ⟨by rfl, ?_⟩) ?_ ?_
                    rotate_left
                    · intro w'
                      go_simp
                      with_reducible rfl
                    rotate_left
                    · simp only [Act.put, List.setIfInBounds_toArray, List.set_cons_zero, List.set_cons_succ, i64_w, i32_w]
                      rfl
                    refine pure_ (i := 32) (N := some 140) (v := ?_) (a' := ?_) #[true, true, true, true, true, true, true, true, true, true, true, true, true, true, true, true, true, true, true, true, true, true, true, true, true, true, true, true, true, true, true, false, true, false, false, false] rfl rfl (any_of HT_.out (by kernel_rfl)) (fun _ _ _ h => h) (Or.inl ⟨by rfl, ?_⟩) ?_ ?_
                    rotate_left
                    · intro w'
                      go_simp
                      with_reducible rfl
                    rotate_left
                    · simp only [Act.put, List.setIfInBounds_toArray, List.set_cons_zero, List.set_cons_succ, i64_w, i32_w]
                      rfl
                    refine take_ (i := 31) (N := some 139) (v := ?_) (a' := ?_) #[true, true, true, true, true, true, true, true, true, true, true, true, true, true, true, true, true, true, true, true, true, true, true, true, true, true, true, true, true, true, true, true, true, false, false, false] rfl rfl (take_ofW HT_.out HW_.out (by kernel_rfl)) (fun _ _ _ h => h) (Or.inl ⟨by rfl, ?_⟩) hHeld ?_ ?_
                    rotate_left
                    · rintro w' ⟨s0, s1, s2, s3⟩
                      go_simp
                      with_reducible rfl
                    rotate_left
                    · simp only [Act.put, List.setIfInBounds_toArray, List.set_cons_zero, List.set_cons_succ, i64_w, i32_w]
                      rfl
                    refine pure_ (i := 33) (N := some 141) (v := ?_) (a' := ?_) #[true, true, true, true, true, true, true, true, true, true, true, true, true, true, true, true, true, true, true, true, true, true, true, true, true, true, true, true, true, true, true, true, true, true, false, false] rfl rfl (any_of HT_.out (by kernel_rfl)) (fun _ _ _ h => h) (Or.inl ⟨by rfl, ?_⟩) ?_ ?_
                    rotate_left
                    · intro w'
                      go_simp
                      with_reducible rfl
                    rotate_left
                    · simp only [Act.put, List.setIfInBounds_toArray, List.set_cons_zero, List.set_cons_succ, i64_w, i32_w]
                      rfl
                    refine pure_ (i := 34) (N := some 142) (v := ?_) (a' := ?_) #[true, true, true, true, true, true, true, true, true, true, true, true, true, true, true, true, true, true, true, true, true, true, true, true, true, true, true, true, true, true, true, true, true, true, true, false] rfl rfl (any_of HT_.out (by kernel_rfl)) (fun _ _ _ h => h) (Or.inl ⟨by rfl, ?_⟩) ?_ ?_
                    rotate_left
                    · intro w'
                      go_simp
                      with_reducible rfl
                    rotate_left
                    · simp only [Act.put, List.setIfInBounds_toArray, List.set_cons_zero, List.set_cons_succ, i64_w, i32_w]
                      rfl
                    refine pure_ (i := 35) (N := some 2) (v := ?_) (a' := ?_) #[true, true, true, true, true, true, true, true, true, true, true, true, true, true, true, true, true, true, true, true, true, true, true, true, true, true, true, true, true, true, true, true, true, true, true, true] rfl rfl (any_of HT_.out (by kernel_rfl)) (fun _ _ _ h => h) (Or.inl ⟨by rfl, ?_⟩) ?_ ?_
                    rotate_left
                    · intro w'
                      go_simp
                      with_reducible rfl
                    rotate_left
                    · simp only [Act.put, List.setIfInBounds_toArray, List.set_cons_zero, List.set_cons_succ, i64_w, i32_w]
                      rfl
                    refine done_ (done_of HT_.out (by kernel_rfl)) ?_
                    try go_wp2
                    go_ret
                    exact ⟨by first | rfl | (simp [errW_none, errW_some] <;> rfl) | (simp [*, errW_none, errW_some] <;> rfl), by repeat (first | (with_reducible first | exact HB.out | apply below_alloc | apply pw_below_drewN | apply below_drew1 | refine below_set ?_ GE557.out | refine below_set ?_ GE565.out) | exact HB.out)⟩
                  · rw [if_neg c85] at H
                    have c85b0 : ((t550.length : Int) == (t540.length : Int)) = false := beq_eq_false_iff_ne.mpr c85
                    have c85b1 : ((t550.length : Int) != (t540.length : Int)) = true := bne_iff_ne.mpr c85
                    have c85b2 : (t550.length == t540.length) = false := by first | simpa using c85 | (simp at c85 ⊢; omega)
                    obtain rfl := Option.some.inj H
                    exact absurd hr (by simp)
                · replace c84 := Bool.eq_false_iff.mpr c84
                  subst c84
                  have H1 : (some (decide (t553 ≤ t543))) = some r := by rw [if_neg (show ¬ (false = true) by decide)] at H; exact H
                  clear H
                  have H := H1
                  clear H1
                  obtain rfl := Option.some.inj H
                  try go_wp2
                  have n0_ := Aside0.mk (Kd.S_drew HO_4.out)
                  have n1_ := Aside0.mk (Kd.S_drew HO_558000.out)
                  have n2_ := Aside0.mk (Kd.S_drew HO_566000.out)
                  have n3_ := Aside0.mk (blk_drew BK557.out)
                  have n4_ := Aside0.mk (blk_drew BK565.out)
                  have n5_ := Aside0.mk (below_drew1 HB.out)
                  clear HO_4
                  clear HO_558000
                  clear HO_566000
                  clear BK557
                  clear BK565
                  clear HB
                  have HO_4 := n0_
                  have HO_558000 := n1_
                  have HO_566000 := n2_
                  have BK557 := n3_
                  have BK565 := n4_
                  have HB := n5_
                  clear n0_ n1_ n2_ n3_ n4_ n5_
                  have q93 : ((t550.length : Int) : Int) ≤ ((t540.length : Int) : Int) := of_decide_eq_true (by first | (with_reducible assumption) | assumption)
                  obtain ⟨i093, hi093, _, hsz93, _⟩ := info_parts info22
                  have hroom93 : t540.length ≤ co8 := (Kd.S_reads' HO_4.out).2.1
                  have hC93 : Kd.C (Kd.slice 5 (Kd.int .u8)) _ Ao8 t540.length t540 := (Kd.S_reads' HO_4.out).2.2
                  have hcut93 := cut_to (P := Try.prog) 23 22 .i64 Try.underlying23 hi093 Ao8 t540.length co8 (t550.length : Int) (of_decide_eq_true (by first | (with_reducible assumption) | assumption)) q93 hroom93
                  have hr93 := Kd.C_take (m := ((t550.length : Int) : Int).toNat) hC93 (by omega)
                  have hy93 : y568.length = ((t550.length : Int) : Int).toNat := (by rw [Ny568.out, List.length_take]; omega)
                  rw [← Ny568.out] at hr93
                  rw [← hy93] at hcut93
                  have HR571 := Aside0.mk hr93
                  have HC571 := Aside0.mk (show y568.length ≤ co8 from by omega)
                  clear hr93 hC93 hroom93 hi093 hsz93
                  have KY93 := Aside0.mk hy93
                  clear hy93
                  have KL93 := Aside0.mk (show ((t550.length : Int) : Int).toNat ≤ t540.length from by omega)
                  replace q93 := eq_true q93
                  refine start_ (n := 36) (S := fun w' => w'.cell? ⟨gb557, 0, none⟩ = some (.slice Ao13 t550.length co13) ∧ w'.cell? ⟨gb557, 1, none⟩ = some (.int .i64 t553) ∧ w'.cell? ⟨gb557, 2, none⟩ = some (.int .i64 t554) ∧ w'.cell? ⟨gb557, 3, none⟩ = some (.bool false)) (ds := []) #[false, false, false, false, false, false, false, false, false, false, false, false, false, false, false, false, false, false, false, false, false, false, false, false, false, false, false, false, false, false, false, false, false, false, false, false] (by kernel_rfl) rfl rfl ⟨(blk_cell BK557.out 0).trans rfl, (blk_cell BK557.out 1).trans rfl, (blk_cell BK557.out 2).trans rfl, (blk_cell BK557.out 3).trans rfl⟩ (fun hHeld => ?_); refine with_tabW laws_FnLinkSafe.tab8 laws_FnLinkSafe.bits8 (fun HT_ HW_ => ?_)
                  generalize wc.drew = w92 at HO_4 HO_558000 HO_566000 BK557 BK565 HB HR571 hHeld ⊢
                  refine pure_ (i := 0) (N := some 108) (v := ?_) (a' := ?_) #[true, false, false, false, false, false, false, false, false, false, false, false, false, false, false, false, false, false, false, false, false, false, false, false, false, false, false, false, false, false, false, false, false, false, false, false] rfl rfl (any_of HT_.out (by kernel_rfl)) (fun _ _ _ h => h) (Or.inl ⟨by rfl, ?_⟩) ?_ ?_
                  rotate_left
                  · intro w'
                    go_simp
                    with_reducible rfl
                  rotate_left
                  · simp only [Act.put, List.setIfInBounds_toArray, List.set_cons_zero, List.set_cons_succ, i64_w, i32_w]
                    rfl
                  refine pure_ (i := 3) (N := some 111) (v := ?_) (a' := ?_) #[true, false, false, true, false, false, false, false, false, false, false, false, false, false, false, false, false, false, false, false, false, false, false, false, false, false, false, false, false, false, false, false, false, false, false, false] rfl rfl (any_of HT_.out (by kernel_rfl)) (fun _ _ _ h => h) (Or.inl ⟨by rfl, ?_⟩) ?_ ?_
                  rotate_left
                  · intro w'
                    go_simp
                    with_reducible rfl
                  rotate_left
                  · simp only [Act.put, List.setIfInBounds_toArray, List.set_cons_zero, List.set_cons_succ, i64_w, i32_w]
                    rfl
                  refine pure_ (i := 4) (N := some 112) (v := ?_) (a' := ?_) #[true, false, false, true, true, false, false, false, false, false, false, false, false, false, false, false, false, false, false, false, false, false, false, false, false, false, false, false, false, false, false, false, false, false, false, false] rfl rfl (any_of HT_.out (by kernel_rfl)) (fun _ _ _ h => h) (Or.inl ⟨by rfl, ?_⟩) ?_ ?_
                  rotate_left
                  · intro w'
                    go_simp
                    with_reducible rfl
                  rotate_left
                  · simp only [Act.put, List.setIfInBounds_toArray, List.set_cons_zero, List.set_cons_succ, i64_w, i32_w]
                    rfl
                  refine take_ (i := 1) (N := some 109) (v := ?_) (a' := ?_) #[true, true, false, true, true, false, false, false, false, false, false, false, false, false, false, false, false, false, false, false, false, false, false, false, false, false, false, false, false, false, false, false, false, false, false, false] rfl rfl (take_ofW HT_.out HW_.out (by kernel_rfl)) (fun _ _ _ h => h) (Or.inl ⟨by rfl, ?_⟩) hHeld ?_ ?_
                  rotate_left
                  · rintro w' ⟨s0, s1, s2, s3⟩
                    go_simp
                    with_reducible rfl
                  rotate_left
                  · simp only [Act.put, List.setIfInBounds_toArray, List.set_cons_zero, List.set_cons_succ, i64_w, i32_w]
                    rfl
                  refine pure_ (i := 2) (N := some 110) (v := ?_) (a' := ?_) #[true, true, true, true, true, false, false, false, false, false, false, false, false, false, false, false, false, false, false, false, false, false, false, false, false, false, false, false, false, false, false, false, false, false, false, false] rfl rfl (any_of HT_.out (by kernel_rfl)) (fun _ _ _ h => h) (Or.inl ⟨by rfl, ?_⟩) ?_ ?_
                  rotate_left
                  · intro w'
                    go_simp
                    with_reducible rfl
                  rotate_left
                  · simp only [Act.put, List.setIfInBounds_toArray, List.set_cons_zero, List.set_cons_succ, i64_w, i32_w]
                    rfl
                  refine pure_ (i := 5) (N := some 113) (v := ?_) (a' := ?_) #[true, true, true, true, true, true, false, false, false, false, false, false, false, false, false, false, false, false, false, false, false, false, false, false, false, false, false, false, false, false, false, false, false, false, false, false] rfl rfl (any_of HT_.out (by kernel_rfl)) (fun _ _ _ h => h) (Or.inl ⟨by rfl, ?_⟩) ?_ ?_
                  rotate_left
                  · intro w'
                    go_simp
                    with_reducible rfl
                  rotate_left
                  · simp only [Act.put, List.setIfInBounds_toArray, List.set_cons_zero, List.set_cons_succ, i64_w, i32_w]
                    rfl
                  refine pure_ (i := 6) (N := some 114) (v := ?_) (a' := ?_) #[true, true, true, true, true, true, true, false, false, false, false, false, false, false, false, false, false, false, false, false, false, false, false, false, false, false, false, false, false, false, false, false, false, false, false, false] rfl rfl (any_of HT_.out (by kernel_rfl)) (fun _ _ _ h => h) (Or.inl ⟨by rfl, ?_⟩) ?_ ?_
                  rotate_left
                  · intro w'
                    go_simp
                    with_reducible rfl
                  rotate_left
                  · simp only [Act.put, List.setIfInBounds_toArray, List.set_cons_zero, List.set_cons_succ, i64_w, i32_w]
                    rfl
                  refine pure_ (i := 7) (N := some 115) (v := ?_) (a' := ?_) #[true, true, true, true, true, true, true, true, false, false, false, false, false, false, false, false, false, false, false, false, false, false, false, false, false, false, false, false, false, false, false, false, false, false, false, false] rfl rfl (any_of HT_.out (by kernel_rfl)) (fun _ _ _ h => h) (Or.inl ⟨by rfl, ?_⟩) ?_ ?_
                  rotate_left
                  · intro w'
                    go_simp
                    with_reducible rfl
                  rotate_left
                  · simp only [Act.put, List.setIfInBounds_toArray, List.set_cons_zero, List.set_cons_succ, i64_w, i32_w]
                    rfl
                  refine pure_ (i := 9) (N := some 117) (v := ?_) (a' := ?_) #[true, true, true, true, true, true, true, true, false, true, false, false, false, false, false, false, false, false, false, false, false, false, false, false, false, false, false, false, false, false, false, false, false, false, false, false] rfl rfl (any_of HT_.out (by kernel_rfl)) (fun _ _ _ h => h) (Or.inl ⟨by rfl, ?_⟩) ?_ ?_
                  rotate_left
                  · intro w'
                    go_simp
                    with_reducible rfl
                  rotate_left
                  · simp only [Act.put, List.setIfInBounds_toArray, List.set_cons_zero, List.set_cons_succ, i64_w, i32_w]
                    rfl
                  refine pure_ (i := 10) (N := some 118) (v := ?_) (a' := ?_) #[true, true, true, true, true, true, true, true, false, true, true, false, false, false, false, false, false, false, false, false, false, false, false, false, false, false, false, false, false, false, false, false, false, false, false, false] rfl rfl (any_of HT_.out (by kernel_rfl)) (fun _ _ _ h => h) (Or.inl ⟨by rfl, ?_⟩) ?_ ?_
                  rotate_left
                  · intro w'
                    go_simp
                    with_reducible rfl
                  rotate_left
                  · simp only [Act.put, List.setIfInBounds_toArray, List.set_cons_zero, List.set_cons_succ, i64_w, i32_w]
                    rfl
                  refine take_ (i := 8) (N := some 116) (v := ?_) (a' := ?_) #[true, true, true, true, true, true, true, true, true, true, true, false, false, false, false, false, false, false, false, false, false, false, false, false, false, false, false, false, false, false, false, false, false, false, false, false] rfl rfl (take_ofW HT_.out HW_.out (by kernel_rfl)) (fun _ _ _ h => h) (Or.inl ⟨by rfl, ?_⟩) hHeld ?_ ?_
                  rotate_left
                  · rintro w' ⟨s0, s1, s2, s3⟩
                    go_simp
                    with_reducible rfl
                  rotate_left
                  · simp only [Act.put, List.setIfInBounds_toArray, List.set_cons_zero, List.set_cons_succ, i64_w, i32_w]
                    rfl
                  refine take_ (i := 11) (N := some 119) (v := ?_) (a' := ?_) #[true, true, true, true, true, true, true, true, true, true, true, true, false, false, false, false, false, false, false, false, false, false, false, false, false, false, false, false, false, false, false, false, false, false, false, false] rfl rfl (take_ofW HT_.out HW_.out (by kernel_rfl)) (fun _ _ _ h => h) (Or.inl ⟨by rfl, ?_⟩) hHeld ?_ ?_
                  rotate_left
                  · rintro w' ⟨s0, s1, s2, s3⟩
                    go_simp
                    with_reducible rfl
                  rotate_left
                  · simp only [Act.put, List.setIfInBounds_toArray, List.set_cons_zero, List.set_cons_succ, i64_w, i32_w]
                    rfl
                  refine pure_ (i := 12) (N := some 120) (v := ?_) (a' := ?_) #[true, true, true, true, true, true, true, true, true, true, true, true, true, false, false, false, false, false, false, false, false, false, false, false, false, false, false, false, false, false, false, false, false, false, false, false] rfl rfl (any_of HT_.out (by kernel_rfl)) (fun _ _ _ h => h) (Or.inl ⟨by rfl, ?_⟩) ?_ ?_
                  rotate_left
                  · intro w'
                    go_simp
                    with_reducible rfl
                  rotate_left
                  · simp only [Act.put, List.setIfInBounds_toArray, List.set_cons_zero, List.set_cons_succ, i64_w, i32_w]
                    rfl
                  refine pure_ (i := 13) (N := some 121) (v := ?_) (a' := ?_) #[true, true, true, true, true, true, true, true, true, true, true, true, true, true, false, false, false, false, false, false, false, false, false, false, false, false, false, false, false, false, false, false, false, false, false, false] rfl rfl (any_of HT_.out (by kernel_rfl)) (fun _ _ _ h => h) (Or.inl ⟨by rfl, ?_⟩) ?_ ?_
                  rotate_left
                  · intro w'
                    go_simp
                    with_reducible rfl
                  rotate_left
                  · simp only [Act.put, List.setIfInBounds_toArray, List.set_cons_zero, List.set_cons_succ, i64_w, i32_w]
                    rfl
                  refine one_ (i := 14) (N := some 122) #[true, true, true, true, true, true, true, true, true, true, true, true, true, true, true, false, false, false, false, false, false, false, false, false, false, false, false, false, false, false, false, false, false, false, false, false] rfl rfl (one_of HT_.out (by kernel_rfl)) (by decide) (fun K hK => ?_)
                  refine goes_ Try.func20 (by kernel_rfl) rfl #[.slice Ao13 t550.length co13, .slice Ao8 y568.length co8] (by rfl) rfl rfl (by (try simp only [List.map_toArray, List.map_cons, List.map_nil]); first | done | rfl | (simp only [List.length_drop, List.length_take]; rfl)) ?_
                  with_reducible refine (laws_wnTexts.calls kj5 _ _ t550 _ _ y568 true _ ?side1 ?side2 ?side3 ?side4 A82.out).mono ?_
                  (case side1 => repeat (first | exact (Kd.S_reads' HO_558000.out).2.2 | (with_reducible refine Kd.C_alloc ?_ _) | (with_reducible refine Kd.C_drewN ?_ _) | (with_reducible refine Kd.C_drew ?_)))
                  (case side2 => exact (Kd.S_reads' HO_558000.out).2.1)
                  (case side3 => repeat (first | exact (by repeat (first | (with_reducible exact HR571.out) | (with_reducible refine Kd.C_alloc ?_ _) | (with_reducible refine Kd.C_drewN ?_ _) | (with_reducible refine Kd.C_drew ?_) | exact HR571.out)) | (with_reducible refine Kd.C_alloc ?_ _) | (with_reducible refine Kd.C_drewN ?_ _) | (with_reducible refine Kd.C_drew ?_)))
                  (case side4 => exact HC571.out)
                  rintro e w94 ⟨rfl, hb⟩
                  refine ⟨_, rfl, ?_⟩
                  have n0_ := Aside0.mk (Kd.S_below (by (with_reducible repeat (first | apply Kd.S_alloc | apply Kd.S_drewN | apply Kd.S_drew)); exact HO_4.out) hb)
                  have n1_ := Aside0.mk (Kd.S_below (by (with_reducible repeat (first | apply Kd.S_alloc | apply Kd.S_drewN | apply Kd.S_drew)); exact HO_558000.out) hb)
                  have n2_ := Aside0.mk (Kd.S_below (by (with_reducible repeat (first | apply Kd.S_alloc | apply Kd.S_drewN | apply Kd.S_drew)); exact HO_566000.out) hb)
                  have n3_ := Aside0.mk (blk_below (g := gb557) (o := .cells #[.slice Ao13 t550.length co13, .int .i64 t553, .int .i64 t554, .bool false] 28 (0, 0)) (by (with_reducible repeat (first | refine blk_drewN ?_ _ | refine blk_drew ?_ | refine blk_alloc ?_ _)); exact BK557.out) hb)
                  have n4_ := Aside0.mk (blk_below (g := gb565) (o := .cells #[.slice Ao17 t550.length co17, .int .i64 t553, .int .i64 t554, .bool false] 28 (0, 0)) (by (with_reducible repeat (first | refine blk_drewN ?_ _ | refine blk_drew ?_ | refine blk_alloc ?_ _)); exact BK565.out) hb)
                  have n5_ := Aside0.mk (Kd.C_below (by repeat (first | (with_reducible exact HR571.out) | (with_reducible refine Kd.C_alloc ?_ _) | (with_reducible refine Kd.C_drewN ?_ _) | (with_reducible refine Kd.C_drew ?_) | exact HR571.out)) hb)
                  have n6_ := Aside0.mk (below_step (by repeat (first | (with_reducible first | exact HB.out | apply below_alloc | apply pw_below_drewN | apply below_drew1 | refine below_set ?_ GE557.out | refine below_set ?_ GE565.out) | exact HB.out)) hb)
                  clear HO_4
                  clear HO_558000
                  clear HO_566000
                  clear BK557
                  clear BK565
                  clear HR571
                  clear HB
                  have HO_4 := n0_
                  have HO_558000 := n1_
                  have HO_566000 := n2_
                  have BK557 := n3_
                  have BK565 := n4_
                  have HR571 := n5_
                  have HB := n6_
                  clear n0_ n1_ n2_ n3_ n4_ n5_ n6_
                  (try clear hb)
                  (try clear hb2)
                  (try clear hk)
                  (try clear hi)
                  refine hK.out _ _ ⟨(blk_cell BK557.out 0).trans rfl, (blk_cell BK557.out 1).trans rfl, (blk_cell BK557.out 2).trans rfl, (blk_cell BK557.out 3).trans rfl⟩ (fun hHeld => ?_)
                  clear hK K
                  refine norm_ (a' := ?_) ?_ ?_
                  rotate_left
                  · show Act.put _ (some 122) _ = _
                    simp only [Act.put, List.setIfInBounds_toArray, List.set_cons_zero, List.set_cons_succ, i64_w, i32_w]
                    rfl
                  refine pure_ (i := 15) (N := some 123) (v := ?_) (a' := ?_) #[true, true, true, true, true, true, true, true, true, true, true, true, true, true, true, true, false, false, false, false, false, false, false, false, false, false, false, false, false, false, false, false, false, false, false, false] rfl rfl (any_of HT_.out (by kernel_rfl)) (fun _ _ _ h => h) (Or.inl ⟨by rfl, ?_⟩) ?_ ?_
                  rotate_left
                  · intro w'
                    go_simp
                    with_reducible rfl
                  rotate_left
                  · simp only [Act.put, List.setIfInBounds_toArray, List.set_cons_zero, List.set_cons_succ, i64_w, i32_w]
                    rfl
                  refine pure_ (i := 16) (N := some 124) (v := ?_) (a' := ?_) #[true, true, true, true, true, true, true, true, true, true, true, true, true, true, true, true, true, false, false, false, false, false, false, false, false, false, false, false, false, false, false, false, false, false, false, false] rfl rfl (any_of HT_.out (by kernel_rfl)) (fun _ _ _ h => h) (Or.inl ⟨by rfl, ?_⟩) ?_ ?_
                  rotate_left
                  · intro w'
                    go_simp
                    with_reducible rfl
                  rotate_left
                  · simp only [Act.put, List.setIfInBounds_toArray, List.set_cons_zero, List.set_cons_succ, i64_w, i32_w]
                    rfl
                  refine pure_ (i := 17) (N := some 125) (v := ?_) (a' := ?_) #[true, true, true, true, true, true, true, true, true, true, true, true, true, true, true, true, true, true, false, false, false, false, false, false, false, false, false, false, false, false, false, false, false, false, false, false] rfl rfl (any_of HT_.out (by kernel_rfl)) (fun _ _ _ h => h) (Or.inl ⟨by rfl, ?_⟩) ?_ ?_
                  rotate_left
                  · intro w'
                    go_simp
                    with_reducible rfl
                  rotate_left
                  · simp only [Act.put, List.setIfInBounds_toArray, List.set_cons_zero, List.set_cons_succ, i64_w, i32_w]
                    rfl
                  refine take_ (i := 18) (N := some 126) (v := ?_) (a' := ?_) #[true, true, true, true, true, true, true, true, true, true, true, true, true, true, true, true, true, true, true, false, false, false, false, false, false, false, false, false, false, false, false, false, false, false, false, false] rfl rfl (take_ofW HT_.out HW_.out (by kernel_rfl)) (fun _ _ _ h => h) (Or.inl ⟨by rfl, ?_⟩) hHeld ?_ ?_
                  rotate_left
                  · rintro w' ⟨s0, s1, s2, s3⟩
                    go_simp
                    with_reducible rfl
                  rotate_left
                  · simp only [Act.put, List.setIfInBounds_toArray, List.set_cons_zero, List.set_cons_succ, i64_w, i32_w]
                    rfl
                  refine pure_ (i := 19) (N := some 127) (v := ?_) (a' := ?_) #[true, true, true, true, true, true, true, true, true, true, true, true, true, true, true, true, true, true, true, true, false, false, false, false, false, false, false, false, false, false, false, false, false, false, false, false] rfl rfl (any_of HT_.out (by kernel_rfl)) (fun _ _ _ h => h) (Or.inl ⟨by rfl, ?_⟩) ?_ ?_
                  rotate_left
                  · intro w'
                    go_simp
                    with_reducible rfl
                  rotate_left
                  · simp only [Act.put, List.setIfInBounds_toArray, List.set_cons_zero, List.set_cons_succ, i64_w, i32_w]
                    rfl
                  refine pure_ (i := 20) (N := some 128) (v := ?_) (a' := ?_) #[true, true, true, true, true, true, true, true, true, true, true, true, true, true, true, true, true, true, true, true, true, false, false, false, false, false, false, false, false, false, false, false, false, false, false, false] rfl rfl (any_of HT_.out (by kernel_rfl)) (fun _ _ _ h => h) (Or.inl ⟨by rfl, ?_⟩) ?_ ?_
                  rotate_left
                  · intro w'
                    go_simp
                    with_reducible rfl
                  rotate_left
                  · simp only [Act.put, List.setIfInBounds_toArray, List.set_cons_zero, List.set_cons_succ, i64_w, i32_w]
                    rfl
                  refine pure_ (i := 21) (N := some 129) (v := undef) (a' := ?_) #[true, true, true, true, true, true, true, true, true, true, true, true, true, true, true, true, true, true, true, true, true, true, false, false, false, false, false, false, false, false, false, false, false, false, false, false] rfl rfl (any_of HT_.out (by kernel_rfl)) (fun _ _ _ h => h) (Or.inr ⟨by rfl, rfl⟩) ?_ ?_
                  rotate_left
                  · simp only [Act.put, List.setIfInBounds_toArray, List.set_cons_zero, List.set_cons_succ, i64_w, i32_w]
                    rfl
                  refine pure_ (i := 22) (N := some 130) (v := undef) (a' := ?_) #[true, true, true, true, true, true, true, true, true, true, true, true, true, true, true, true, true, true, true, true, true, true, true, false, false, false, false, false, false, false, false, false, false, false, false, false] rfl rfl (any_of HT_.out (by kernel_rfl)) (fun _ _ _ h => h) (Or.inr ⟨by rfl, rfl⟩) ?_ ?_
                  rotate_left
                  · simp only [Act.put, List.setIfInBounds_toArray, List.set_cons_zero, List.set_cons_succ, i64_w, i32_w]
                    rfl
                  refine pure_ (i := 23) (N := some 131) (v := undef) (a' := ?_) #[true, true, true, true, true, true, true, true, true, true, true, true, true, true, true, true, true, true, true, true, true, true, true, true, false, false, false, false, false, false, false, false, false, false, false, false] rfl rfl (any_of HT_.out (by kernel_rfl)) (fun _ _ _ h => h) (Or.inr ⟨by rfl, rfl⟩) ?_ ?_
                  rotate_left
                  · simp only [Act.put, List.setIfInBounds_toArray, List.set_cons_zero, List.set_cons_succ, i64_w, i32_w]
                    rfl
                  refine pure_ (i := 24) (N := some 132) (v := undef) (a' := ?_) #[true, true, true, true, true, true, true, true, true, true, true, true, true, true, true, true, true, true, true, true, true, true, true, true, true, false, false, false, false, false, false, false, false, false, false, false] rfl rfl (any_of HT_.out (by kernel_rfl)) (fun _ _ _ h => h) (Or.inr ⟨by rfl, rfl⟩) ?_ ?_
                  rotate_left
                  · simp only [Act.put, List.setIfInBounds_toArray, List.set_cons_zero, List.set_cons_succ, i64_w, i32_w]
                    rfl
                  refine pure_ (i := 25) (N := some 133) (v := undef) (a' := ?_) #[true, true, true, true, true, true, true, true, true, true, true, true, true, true, true, true, true, true, true, true, true, true, true, true, true, true, false, false, false, false, false, false, false, false, false, false] rfl rfl (any_of HT_.out (by kernel_rfl)) (fun _ _ _ h => h) (Or.inr ⟨by rfl, rfl⟩) ?_ ?_
                  rotate_left
                  · simp only [Act.put, List.setIfInBounds_toArray, List.set_cons_zero, List.set_cons_succ, i64_w, i32_w]
                    rfl
                  refine pure_ (i := 26) (N := some 134) (v := undef) (a' := ?_) #[true, true, true, true, true, true, true, true, true, true, true, true, true, true, true, true, true, true, true, true, true, true, true, true, true, true, true, false, false, false, false, false, false, false, false, false] rfl rfl (any_of HT_.out (by kernel_rfl)) (fun _ _ _ h => h) (Or.inr ⟨by rfl, rfl⟩) ?_ ?_
                  rotate_left
                  · simp only [Act.put, List.setIfInBounds_toArray, List.set_cons_zero, List.set_cons_succ, i64_w, i32_w]
                    rfl
                  refine pure_ (i := 27) (N := some 135) (v := ?_) (a' := ?_) #[true, true, true, true, true, true, true, true, true, true, true, true, true, true, true, true, true, true, true, true, true, true, true, true, true, true, true, true, false, false, false, false, false, false, false, false] rfl rfl (any_of HT_.out (by kernel_rfl)) (fun _ _ _ h => h) (Or.inl ⟨by rfl, ?_⟩) ?_ ?_
                  rotate_left
                  · intro w'
                    go_simp
                    with_reducible rfl
                  rotate_left
                  · simp only [Act.put, List.setIfInBounds_toArray, List.set_cons_zero, List.set_cons_succ, i64_w, i32_w]
                    rfl
                  refine pure_ (i := 28) (N := some 136) (v := ?_) (a' := ?_) #[true, true, true, true, true, true, true, true, true, true, true, true, true, true, true, true, true, true, true, true, true, true, true, true, true, true, true, true, true, false, false, false, false, false, false, false] rfl rfl (any_of HT_.out (by kernel_rfl)) (fun _ _ _ h => h) (Or.inl ⟨by rfl, ?_⟩) ?_ ?_
                  rotate_left
                  · intro w'
                    go_simp
                    with_reducible rfl
                  rotate_left
                  · simp only [Act.put, List.setIfInBounds_toArray, List.set_cons_zero, List.set_cons_succ, i64_w, i32_w]
                    rfl
                  refine pure_ (i := 29) (N := some 137) (v := ?_) (a' := ?_) #[true, true, true, true, true, true, true, true, true, true, true, true, true, true, true, true, true, true, true, true, true, true, true, true, true, true, true, true, true, true, false, false, false, false, false, false] rfl rfl (any_of HT_.out (by kernel_rfl)) (fun _ _ _ h => h) (Or.inl ⟨by rfl, ?_⟩) ?_ ?_
                  rotate_left
                  · intro w'
                    go_simp
                    with_reducible rfl
                  rotate_left
                  · simp only [Act.put, List.setIfInBounds_toArray, List.set_cons_zero, List.set_cons_succ, i64_w, i32_w]
                    rfl
                  refine pure_ (i := 30) (N := some 138) (v := ?_) (a' := ?_) #[true, true, true, true, true, true, true, true, true, true, true, true, true, true, true, true, true, true, true, true, true, true, true, true, true, true, true, true, true, true, true, false, false, false, false, false] rfl rfl (any_of HT_.out (by kernel_rfl)) (fun _ _ _ h => h) (Or.inl ⟨by rfl, ?_⟩) ?_ ?_
                  rotate_left
                  · intro w'
                    go_simp
                    with_reducible rfl
                  rotate_left
                  · simp only [Act.put, List.setIfInBounds_toArray, List.set_cons_zero, List.set_cons_succ, i64_w, i32_w]
                    rfl
                  refine pure_ (i := 32) (N := some 140) (v := ?_) (a' := ?_) #[true, true, true, true, true, true, true, true, true, true, true, true, true, true, true, true, true, true, true, true, true, true, true, true, true, true, true, true, true, true, true, false, true, false, false, false] rfl rfl (any_of HT_.out (by kernel_rfl)) (fun _ _ _ h => h) (Or.inl ⟨by rfl, ?_⟩) ?_ ?_
                  rotate_left
                  · intro w'
                    go_simp
                    with_reducible rfl
                  rotate_left
                  · simp only [Act.put, List.setIfInBounds_toArray, List.set_cons_zero, List.set_cons_succ, i64_w, i32_w]
                    rfl
                  refine take_ (i := 31) (N := some 139) (v := ?_) (a' := ?_) #[true, true, true, true, true, true, true, true, true, true, true, true, true, true, true, true, true, true, true, true, true, true, true, true, true, true, true, true, true, true, true, true, true, false, false, false] rfl rfl (take_ofW HT_.out HW_.out (by kernel_rfl)) (fun _ _ _ h => h) (Or.inl ⟨by rfl, ?_⟩) hHeld ?_ ?_
                  rotate_left
                  · rintro w' ⟨s0, s1, s2, s3⟩
                    go_simp
                    with_reducible rfl
                  rotate_left
                  · simp only [Act.put, List.setIfInBounds_toArray, List.set_cons_zero, List.set_cons_succ, i64_w, i32_w]
                    rfl
                  refine pure_ (i := 33) (N := some 141) (v := ?_) (a' := ?_) #[true, true, true, true, true, true, true, true, true, true, true, true, true, true, true, true, true, true, true, true, true, true, true, true, true, true, true, true, true, true, true, true, true, true, false, false] rfl rfl (any_of HT_.out (by kernel_rfl)) (fun _ _ _ h => h) (Or.inl ⟨by rfl, ?_⟩) ?_ ?_
                  rotate_left
                  · intro w'
                    go_simp
                    with_reducible rfl
                  rotate_left
                  · simp only [Act.put, List.setIfInBounds_toArray, List.set_cons_zero, List.set_cons_succ, i64_w, i32_w]
                    rfl
                  refine pure_ (i := 34) (N := some 142) (v := ?_) (a' := ?_) #[true, true, true, true, true, true, true, true, true, true, true, true, true, true, true, true, true, true, true, true, true, true, true, true, true, true, true, true, true, true, true, true, true, true, true, false] rfl rfl (any_of HT_.out (by kernel_rfl)) (fun _ _ _ h => h) (Or.inl ⟨by rfl, ?_⟩) ?_ ?_
                  rotate_left
                  · intro w'
                    go_simp
                    with_reducible rfl
                  rotate_left
                  · simp only [Act.put, List.setIfInBounds_toArray, List.set_cons_zero, List.set_cons_succ, i64_w, i32_w]
                    rfl
                  refine pure_ (i := 35) (N := some 2) (v := ?_) (a' := ?_) #[true, true, true, true, true, true, true, true, true, true, true, true, true, true, true, true, true, true, true, true, true, true, true, true, true, true, true, true, true, true, true, true, true, true, true, true] rfl rfl (any_of HT_.out (by kernel_rfl)) (fun _ _ _ h => h) (Or.inl ⟨by rfl, ?_⟩) ?_ ?_
                  rotate_left
                  · intro w'
                    go_simp
                    with_reducible rfl
                  rotate_left
                  · simp only [Act.put, List.setIfInBounds_toArray, List.set_cons_zero, List.set_cons_succ, i64_w, i32_w]
                    rfl
                  refine done_ (done_of HT_.out (by kernel_rfl)) ?_
                  try go_wp2
                  go_ret
                  exact ⟨by first | rfl | (simp [errW_none, errW_some] <;> rfl) | (simp [*, errW_none, errW_some] <;> rfl), by repeat (first | (with_reducible first | exact HB.out | apply below_alloc | apply pw_below_drewN | apply below_drew1 | refine below_set ?_ GE557.out | refine below_set ?_ GE565.out) | exact HB.out)⟩
              · replace c83 := Bool.eq_false_iff.mpr c83
                subst c83
                have H1 : (some false) = some r := by rw [if_neg (show ¬ (false = true) by decide)] at H; exact H
                clear H
                have H := H1
                clear H1
                obtain rfl := Option.some.inj H
                exact absurd hr (by simp)
            · rw [if_neg c80] at H
              exact absurd H (by simp)
          · rw [if_neg c79] at H
            have c79b0 : decide ((t550.length : Int) ≤ (t540.length : Int)) = false := decide_eq_false c79
            have c79b1 : decide (t550.length ≤ t540.length) = false := decide_eq_false (fun h => c79 (Int.ofNat_le.mpr h))
            clear c79
            obtain rfl := Option.some.inj H
            exact absurd hr (by simp)

def laws_FnLinkSafe.Pure : Prop := ∀ (l0 : List Int), l0.length ≤ maxLen → l0.length * 1 ≤ 140737488351232 → (∀ x ∈ l0, (Lit.int .u8 x).wf = true) → ∃ k, laws_FnLinkSafe.f k l0 = some true ∧ ∀ a b c d e x y, spec_DrawRunLink.f k l0 = some (a, b, c, d, e) → impl_RunLink.f k a b c d e = some x → spec_RunLink.f k a b c d e = some y → x = y
theorem laws_FnLinkSafe.walk (P : laws_FnLinkSafe.Pure) (a0 : Option Addr) (len0 cap0 : Nat) (z0 : List Int) (w : World) (w0 : (a0 = none ∧ len0 = 0 ∧ cap0 = 0 ∧ z0 = []) ∨ ∃ x, a0 = some x ∧ len0 ≤ cap0 ∧ cap0 ≤ maxLen ∧ z0.length = cap0 ∧ (∀ i, i < z0.length → w.cell? (x.add i) = some (.int .u8 (z0.getD i 0))) ∧ ∀ n ∈ z0, (Lit.int .u8 n).wf = true) (y0 : len0 * 1 ≤ 140737488351232) :
    Calls Try.prog 5 #[.slice a0 len0 cap0] w fun e w' => e = .returned (.bool true) ∧ Below w.heap.size w w' := by
  obtain ⟨l0, rfl, hr0, hm0, hw0, hc0⟩ := ReadsInt.ofRowC w0
  obtain ⟨k, h, hE⟩ := P l0 hm0 y0 hw0
  refine (laws_FnLinkSafe.calls k _ _ l0 true w (Kd.C_of_reads (d := (0 : Int)) (h1 := fun _ => rfl) hr0) hc0 hE rfl h).mono ?_
  rintro e w' ⟨rfl, hd⟩
  exact ⟨rfl, hd⟩
end Go.Proofs.Ytookabfmbimnoaa.Lk

namespace Go.Proofs.Ytookabfmbimnoaa.Lk
open Go.RowKit Go.Proofs.YtookabfmbimnoaaW.PrintWords Go.Proofs.YtookabfmbimnoaaW.PrintLast Go.Proofs.YtookabfmbimnoaaW.PrintMore
set_option linter.unusedVariables false
set_option linter.unusedSimpArgs false

/-- Ahead of a round (and behind it): what came is the front of the list, and reaches from what the sender knows to a window further at most. -/
structure LInv (w : Nat) (list : List (List Int)) (st : LSt) : Prop where
  lo : st.kn ≤ st.got.length
  hi : st.got.length ≤ min list.length (st.kn + w)
  front : st.got = list.take st.got.length
  r1 : st.rounds ≤ st.s1
  r2 : st.s2 = st.rounds
/-- In the midst of a round's arrivals. -/
theorem recv1_front {w : Nat} (hw : w ≤ 8) {list : List (List Int)} {kn : Nat} {fs : List Int} {got : List (List Int)} {j : Int} (h0 : 0 ≤ j) (h1 : j < (sentN w list.length kn : Nat)) (hlo : kn ≤ got.length) (hhi : got.length ≤ min list.length (kn + w)) (hf : got = list.take got.length) :
    got.length ≤ (recv1 list kn fs got j).length ∧ (recv1 list kn fs got j).length ≤ min list.length (kn + w) ∧ recv1 list kn fs got j = list.take (recv1 list kn fs got j).length ∧ (fateN fs j.toNat ≠ 4 → got.length = kn + j.toNat → (recv1 list kn fs got j).length = got.length + 1) := by
  obtain ⟨i, rfl⟩ := Int.eq_ofNat_of_zero_le h0
  unfold sentN at h1
  unfold recv1
  simp only [Int.toNat_natCast]
  by_cases h4 : fateN fs i = 4
  · rw [if_pos h4]
    exact ⟨Nat.le_refl _, hhi, hf, fun h => absurd h4 h⟩
  · rw [if_neg h4]
    by_cases hq : (kn + i) % 16 = got.length % 16
    · rw [if_pos hq]
      have hi : kn + i = got.length := by omega
      have hlt : got.length < list.length := by omega
      refine ⟨by simp, by simp; omega, ?_, fun _ _ => by simp⟩
      rw [List.length_append, List.length_singleton, List.take_succ_eq_append_getElem hlt, ← hf, hi, List.getD_eq_getElem?_getD, List.getElem?_eq_getElem hlt]
      rfl
    · rw [if_neg hq]
      exact ⟨Nat.le_refl _, hhi, hf, fun _ he => absurd (by rw [he]) hq⟩
theorem recvs_front {w : Nat} (hw : w ≤ 8) {list : List (List Int)} {kn : Nat} {fs : List Int} : ∀ (l : List Int) (got : List (List Int)), (∀ j ∈ l, 0 ≤ j ∧ j < (sentN w list.length kn : Nat)) → kn ≤ got.length → got.length ≤ min list.length (kn + w) → got = list.take got.length →
    got.length ≤ (l.foldl (recv1 list kn fs) got).length ∧ (l.foldl (recv1 list kn fs) got).length ≤ min list.length (kn + w) ∧ l.foldl (recv1 list kn fs) got = list.take (l.foldl (recv1 list kn fs) got).length
  | [], got, hj, hlo, hhi, hf => ⟨Nat.le_refl _, hhi, hf⟩
  | j :: l, got, hj, hlo, hhi, hf => by
    obtain ⟨a, b, c, _⟩ := recv1_front hw (fs := fs) (hj j (by simp)).1 (hj j (by simp)).2 hlo hhi hf
    have ih := recvs_front hw (fs := fs) l (recv1 list kn fs got j) (fun j h => hj j (by simp [h])) (by omega) b c
    rw [List.foldl_cons]
    exact ⟨by omega, ih.2⟩
theorem ackFind_hits {w : Nat} (hw : w ≤ 8) {kn g : Nat} (h0 : kn ≤ g) (h1 : g ≤ kn + w) : ackFind kn w (g % 16) = g := by
  have := ackFind_hit (kn := kn) (w := w) (q := g % 16) (d := g - kn) (by omega) (by rw [show kn + (g - kn) = g by omega]) (fun e he => by omega)
  omega
theorem acks_known {w : Nat} (hw : w ≤ 8) {g : Nat} {gs : List Int} : ∀ (l : List Int) (kn : Nat), kn ≤ g → g ≤ kn + w → l.foldl (ack1 w (g % 16) gs) kn = kn ∨ l.foldl (ack1 w (g % 16) gs) kn = g
  | [], kn, h0, h1 => .inl rfl
  | j :: l, kn, h0, h1 => by
    rw [List.foldl_cons]
    by_cases h4 : fateN gs j.toNat = 4
    · rw [show ack1 w (g % 16) gs kn j = kn by unfold ack1; rw [if_pos h4]]
      exact acks_known hw l kn h0 h1
    · rw [show ack1 w (g % 16) gs kn j = g by unfold ack1; rw [if_neg h4]; exact ackFind_hits hw h0 h1]
      rcases acks_known hw (gs := gs) l g (Nat.le_refl _) (by omega) with h | h <;> exact .inr h
theorem stepL_inv {w : Nat} (hw : w ≤ 8) (hw1 : 1 ≤ w) {list : List (List Int)} {there back : List Int} {st : LSt} (hk : st.kn < list.length) (h : LInv w list st) : LInv w list (stepL w list there back st) ∧ st.kn ≤ (stepL w list there back st).kn := by
  have hr := recvs_front hw (fs := there.drop st.s1) (arrivals (there.drop st.s1) (sentN w list.length st.kn)) st.got (arrivals_mem _ _) h.lo h.hi h.front
  have hlo := h.lo
  have ha := acks_known hw (g := ((arrivals (there.drop st.s1) (sentN w list.length st.kn)).foldl (recv1 list st.kn (there.drop st.s1)) st.got).length) (gs := back.drop st.s2) (arrivals (back.drop st.s2) 1) st.kn (by omega) (by omega)
  have hn : 1 ≤ sentN w list.length st.kn := by unfold sentN; omega
  have hr1 := h.r1
  have hr2 := h.r2
  unfold stepL
  simp only
  generalize (arrivals (there.drop st.s1) (sentN w list.length st.kn)).foldl (recv1 list st.kn (there.drop st.s1)) st.got = got at hr ha
  generalize (arrivals (back.drop st.s2) 1).foldl (ack1 w (got.length % 16) (back.drop st.s2)) st.kn = kn at ha
  refine ⟨⟨?_, ?_, hr.2.2, ?_, ?_⟩, ?_⟩
  all_goals (first | omega | (simp only; omega))
theorem linv0 (w : Nat) (list : List (List Int)) : LInv w list ⟨[], 0, 0, 0, 0⟩ := ⟨by simp, by simp, by simp, by simp, rfl⟩
end Go.Proofs.Ytookabfmbimnoaa.Lk

namespace Go.Proofs.Ytookabfmbimnoaa.Lk
open Go.RowKit Go.Proofs.YtookabfmbimnoaaW.PrintWords Go.Proofs.YtookabfmbimnoaaW.PrintLast Go.Proofs.YtookabfmbimnoaaW.PrintMore
set_option linter.unusedVariables false
set_option linter.unusedSimpArgs false

theorem i64_xor_pos (a b : Int) (h0 : 0 ≤ a) (h1 : a < 4611686018427387904) (h2 : 0 ≤ b) (h3 : b < 4611686018427387904) : 0 ≤ Go.bits .xor .i64 a b := by
  have key : (BitVec.ofInt 64 a ^^^ BitVec.ofInt 64 b).toNat < 2 ^ 62 := by
    rw [BitVec.toNat_xor, BitVec.toNat_ofInt, BitVec.toNat_ofInt]
    exact Nat.xor_lt_two_pow (by omega) (by omega)
  show 0 ≤ IntKind.i64.wrap ((BitVec.ofInt 64 a ^^^ BitVec.ofInt 64 b).toNat : Nat)
  rw [IntKind.wrap_i64]
  omega
structure SrcOk (b : List Int) : Prop where
  len : b.length ≤ 2000
  byt : ∀ x ∈ b, byteOk x
theorem rd_byte {b : List Int} (h : SrcOk b) (i : Int) : 0 ≤ rd b i ∧ rd b i ≤ 255 := by
  show 0 ≤ b.getD i.toNat 0 ∧ b.getD i.toNat 0 ≤ 255
  by_cases hi : i.toNat < b.length
  · rw [List.getD_eq_getElem?_getD, List.getElem?_eq_getElem hi]
    exact h.byt _ (List.getElem_mem hi)
  · rw [List.getD_eq_getElem?_getD, List.getElem?_eq_none (by omega)]
    simp
theorem tmod_ok (x n : Int) (h0 : 0 ≤ x) (h1 : 1 ≤ n) : 0 ≤ Int.tmod x n ∧ Int.tmod x n < n := by
  rw [Int.tmod_eq_emod_of_nonneg h0]
  exact ⟨Int.emod_nonneg _ (by omega), Int.emod_lt_of_pos _ (by omega)⟩
theorem pick_ok {b : List Int} (hb : SrcOk b) (k : Nat) (hk : 1 ≤ k) (p n : Int) (h0 : 0 ≤ p) (h1 : p ≤ 1000000) (hn : n ≤ 1000000) : ∃ v, spec_l21Rd_pick.f k b p n = some (v, p + 1) ∧ 0 ≤ v ∧ (1 ≤ n → v < n) := by
  obtain ⟨k, rfl⟩ : ∃ j, k = j + 1 := ⟨k - 1, by omega⟩
  have e1 : wrap64 (p + 1) = p + 1 := w64 _ (by omega)
  unfold spec_l21Rd_pick.f
  rw [e1]
  by_cases hn1 : n < 1
  · rw [if_pos hn1, spec_l21Rd_pick.j0, if_pos rfl]
    exact ⟨0, rfl, Int.le_refl _, fun h => absurd h (by omega)⟩
  rw [if_neg hn1, spec_l21Rd_pick.j0]
  by_cases hl : (b.length : Int) = 0
  · rw [hl, if_pos (by rfl)]
    exact ⟨0, rfl, Int.le_refl _, fun h => by omega⟩
  have hlb := hb.len
  have hl1 : 1 ≤ (b.length : Int) := by omega
  rw [if_neg (by simpa using hl)]
  have e2 : wrap64 (p + 1 - 1) = p := by rw [w64 _ (by omega)]; omega
  simp only [e2]
  by_cases hp : p < (b.length : Int)
  · have hr := rd_byte hb p
    rw [if_pos hp, if_pos h0, if_neg (by omega), w64 (rd b p) (by omega)]
    have ht := tmod_ok (rd b p) n hr.1 (by omega)
    exact ⟨_, rfl, ht.1, fun _ => ht.2⟩
  · rw [if_neg hp, if_neg hl]
    have t1 := tmod_ok p (b.length : Int) h0 hl1
    have e3 : wrap64 (p * 7) = p * 7 := w64 _ (by omega)
    have e4 : wrap64 (p * 7 + 3) = p * 7 + 3 := w64 _ (by omega)
    have t2 := tmod_ok (p * 7 + 3) (b.length : Int) (by omega) hl1
    rw [e3, e4, if_pos t1.1, if_pos t1.2, if_pos t2.1, if_pos t2.2, if_neg (by omega)]
    have r1 := rd_byte hb (Int.tmod p (b.length : Int))
    have r2 := rd_byte hb (Int.tmod (p * 7 + 3) (b.length : Int))
    have hq : Int.tdiv p (b.length : Int) = p / (b.length : Int) := Int.tdiv_eq_ediv_of_nonneg h0
    have q0 : 0 ≤ p / (b.length : Int) := Int.ediv_nonneg h0 (by omega)
    have q1 : p / (b.length : Int) ≤ p := Int.ediv_le_self _ h0
    rw [hq]
    generalize rd b (Int.tmod p (b.length : Int)) = u at r1
    generalize rd b (Int.tmod (p * 7 + 3) (b.length : Int)) = v at r2
    generalize p / (b.length : Int) = q at q0 q1
    rw [w64 u (by omega), w64 v (by omega), w64 (u * 131) (by omega), w64 (v * 1117) (by omega), w64 (u * 131 + v * 1117) (by omega), w64 (p * 29) (by omega), w64 (u * 131 + v * 1117 + p * 29) (by omega), w64 q (by omega), w64 (q * 53) (by omega), w64 (u * 131 + v * 1117 + p * 29 + q * 53) (by omega)]
    have hx0 : 0 ≤ u * 131 + v * 1117 + p * 29 + q * 53 := by omega
    have hx1 : u * 131 + v * 1117 + p * 29 + q * 53 ≤ 1000000000 := by omega
    generalize u * 131 + v * 1117 + p * 29 + q * 53 = x at hx0 hx1
    have hdv : Int.tdiv x 64 = x / 64 := Int.tdiv_eq_ediv_of_nonneg hx0
    rw [hdv, w64 (x / 64) (by omega)]
    have hxx := i64_xor_pos x (x / 64) hx0 (by omega) (by omega) (by omega)
    have ht := tmod_ok _ n hxx (by omega)
    exact ⟨_, rfl, ht.1, fun _ => ht.2⟩
theorem num_ok {b : List Int} (hb : SrcOk b) (k : Nat) (hk : 1 ≤ k) (p : Int) (l : List Int) (h0 : 0 ≤ p) (h1 : p ≤ 1000000) (hl : 1 ≤ l.length) (hl2 : l.length ≤ 1000) : ∃ v, spec_l21Rd_num.f k b p l = some (v, p + 1) ∧ v ∈ l := by
  obtain ⟨v, hv, hv0, hv1⟩ := pick_ok hb k hk p (l.length : Int) h0 h1 (by omega)
  have hvl := hv1 (by omega)
  unfold spec_l21Rd_num.f
  rw [hv, Option.bind_some, if_pos hv0, if_pos hvl]
  refine ⟨_, rfl, ?_⟩
  have hi : v.toNat < l.length := by omega
  show l.getD v.toNat 0 ∈ l
  rw [List.getD_eq_getElem?_getD, List.getElem?_eq_getElem hi]
  exact List.getElem_mem hi
theorem some_ok0 {b : List Int} (hb : SrcOk b) (n : Nat) (hn : n ≤ 100) : ∀ (m i k : Nat) (acc : List Int) (p : Int), i + m = n → m + 2 ≤ k → acc.length = i → (∀ x ∈ acc, byteOk x) → 0 ≤ p → p + 2 * m ≤ 1000000 →
    ∃ bs q, spec_l1Some.l0 k (n : Int) acc (i : Int) b p = some (bs, q) ∧ p ≤ q ∧ q ≤ p + 2 * m ∧ bs.length = n ∧ ∀ x ∈ bs, byteOk x
  | m, i, 0, acc, p, hi, hk, ha, hb2, h0, h1 => by omega
  | 0, i, k + 1, acc, p, hi, hk, ha, hb2, h0, h1 => ⟨acc, p, by rw [spec_l1Some.l0, if_neg (by omega)], by omega, by omega, by omega, hb2⟩
  | m + 1, i, k + 1, acc, p, hi, hk, ha, hb2, h0, h1 => by
    have e : wrap64 ((i : Int) + 1) = ((i + 1 : Nat) : Int) := by rw [w64 _ (by omega)]; simp
    obtain ⟨v, hv, _, _⟩ := pick_ok hb k (by omega) p 4 h0 (by omega) (by omega)
    have hacc : ∀ y, ∀ x ∈ acc ++ [y % 256], byteOk x := by
      intro y x hx
      rcases List.mem_append.1 hx with hx | hx
      · exact hb2 x hx
      · rw [List.mem_singleton] at hx
        subst hx
        exact ⟨by omega, by omega⟩
    rw [spec_l1Some.l0, if_pos (by omega), hv, Option.bind_some]
    simp only
    by_cases hv0 : v = 0
    · obtain ⟨u, hu, _⟩ := num_ok hb k (by omega) (p + 1) ([0, 1, 125, 126, 127, 128, 255, 94, 93] : List Int) (by omega) (by omega) (by simp) (by simp)
      obtain ⟨bs, q, h, hq1, hq2, hl, hbs⟩ := some_ok0 hb n hn m (i + 1) k (acc ++ [u % 256]) (p + 1 + 1) (by omega) (by omega) (by simp; omega) (hacc u) (by omega) (by omega)
      rw [if_pos hv0, hu, Option.bind_some, if_pos (by omega), e]
      exact ⟨bs, q, h, by omega, by omega, hl, hbs⟩
    · obtain ⟨u, hu, _⟩ := pick_ok hb k (by omega) (p + 1) 256 (by omega) (by omega) (by omega)
      obtain ⟨bs, q, h, hq1, hq2, hl, hbs⟩ := some_ok0 hb n hn m (i + 1) k (acc ++ [u % 256]) (p + 1 + 1) (by omega) (by omega) (by simp; omega) (hacc u) (by omega) (by omega)
      rw [if_neg hv0, hu, Option.bind_some, if_pos (by omega), e]
      exact ⟨bs, q, h, by omega, by omega, hl, hbs⟩
theorem some_ok {b : List Int} (hb : SrcOk b) (n : Nat) (hn : n ≤ 100) (k : Nat) (hk : n + 2 ≤ k) (p : Int) (h0 : 0 ≤ p) (h1 : p + 2 * n ≤ 1000000) : ∃ bs q, spec_l1Some.f k b p (n : Int) = some (bs, q) ∧ p ≤ q ∧ q ≤ p + 2 * n ∧ bs.length = n ∧ ∀ x ∈ bs, byteOk x :=
  some_ok0 hb n hn n 0 k [] p (by omega) hk rfl (by simp) h0 h1
theorem sent_ok0 {b : List Int} (hb : SrcOk b) : ∀ (m k : Nat) (acc : List (List Int)) (p : Int), m ≤ 100 → m + 20 ≤ k → acc.length + m ≤ 1000 → bytesOk acc = true → 0 ≤ p → p + 9 * m ≤ 1000000 →
    ∃ l q, spec_l4Sent.l0 k acc (m : Int) b p = some (l, q) ∧ p ≤ q ∧ q ≤ p + 9 * m ∧ l.length = acc.length + m ∧ bytesOk l = true
  | m, 0, acc, p, hm, hk, ha, hb2, h0, h1 => by omega
  | 0, k + 1, acc, p, hm, hk, ha, hb2, h0, h1 => ⟨acc, p, by rw [spec_l4Sent.l0, if_neg (by omega)], by omega, by omega, by omega, hb2⟩
  | m + 1, k + 1, acc, p, hm, hk, ha, hb2, h0, h1 => by
    have e : wrap64 (((m + 1 : Nat) : Int) - 1) = (m : Int) := by rw [w64 _ (by omega)]; omega
    obtain ⟨v, hv, hvm⟩ := num_ok hb k (by omega) p ([1, 2, 0, 4] : List Int) h0 (by omega) (by simp) (by simp)
    have hvb : 0 ≤ v ∧ v ≤ 4 := by
      simp only [List.mem_cons, List.not_mem_nil, or_false] at hvm
      omega
    obtain ⟨n, rfl⟩ := Int.eq_ofNat_of_zero_le hvb.1
    obtain ⟨bs, q, hs, hq1, hq2, hl, hbs⟩ := some_ok hb n (by omega) k (by omega) (p + 1) (by omega) (by omega)
    have hacc : bytesOk (acc ++ [bs]) = true := by
      unfold bytesOk at hb2 ⊢
      rw [List.all_append, hb2]
      simp only [List.all_cons, List.all_nil, Bool.and_true, Bool.true_and, List.all_eq_true, Bool.and_eq_true, decide_eq_true_eq]
      exact hbs
    obtain ⟨l, q2, h, hq3, hq4, hl2, hbl⟩ := sent_ok0 hb m k (acc ++ [bs]) q (by omega) (by omega) (by simp; omega) hacc (by omega) (by omega)
    rw [spec_l4Sent.l0, if_pos (by omega), hv, Option.bind_some]
    simp only
    rw [hs, Option.bind_some]
    simp only
    rw [if_pos (by omega), e]
    exact ⟨l, q2, h, by omega, by omega, by rw [hl2]; simp; omega, hbl⟩
theorem sent_ok {b : List Int} (hb : SrcOk b) (k : Nat) (hk : 100 ≤ k) (p : Int) (h0 : 0 ≤ p) (h1 : p ≤ 100000) : ∃ l q, spec_l4Sent.f k b p = some (l, q) ∧ p ≤ q ∧ q ≤ p + 200 ∧ l.length ≤ 14 ∧ bytesOk l = true := by
  obtain ⟨v, hv, hvm⟩ := num_ok hb k (by omega) p ([3, 5, 0, 8, 1, 14] : List Int) h0 (by omega) (by simp) (by simp)
  have hvb : 0 ≤ v ∧ v ≤ 14 := by
    simp only [List.mem_cons, List.not_mem_nil, or_false] at hvm
    omega
  obtain ⟨n, rfl⟩ := Int.eq_ofNat_of_zero_le hvb.1
  obtain ⟨l, q, h, hq1, hq2, hl, hbl⟩ := sent_ok0 hb n k [] (p + 1) (by omega) (by omega) (by simp; omega) rfl (by omega) (by omega)
  unfold spec_l4Sent.f
  rw [hv, Option.bind_some]
  exact ⟨l, q, h, by omega, by omega, by rw [hl]; simp; omega, hbl⟩
theorem fates_ok0 {b : List Int} (hb : SrcOk b) (x : Int) (hx : x ≤ 1000) : ∀ (m k : Nat) (acc : List Int) (p : Int), m ≤ 100 → m + 2 ≤ k → acc.length + m ≤ 1000 → 0 ≤ p → p + 2 * m ≤ 1000000 →
    ∃ l q, spec_l4Fates.l0 k acc x (m : Int) b p = some (l, q) ∧ p ≤ q ∧ q ≤ p + 2 * m ∧ l.length = acc.length + m
  | m, 0, acc, p, hm, hk, ha, h0, h1 => by omega
  | 0, k + 1, acc, p, hm, hk, ha, h0, h1 => ⟨acc, p, by rw [spec_l4Fates.l0, if_neg (by omega)], by omega, by omega, by omega⟩
  | m + 1, k + 1, acc, p, hm, hk, ha, h0, h1 => by
    have e : wrap64 (((m + 1 : Nat) : Int) - 1) = (m : Int) := by rw [w64 _ (by omega)]; omega
    obtain ⟨v, hv, _, _⟩ := pick_ok hb k (by omega) p x h0 (by omega) (by omega)
    rw [spec_l4Fates.l0, if_pos (by omega), hv, Option.bind_some]
    simp only
    by_cases hv0 : v = 0
    · obtain ⟨u, hu, _⟩ := pick_ok hb k (by omega) (p + 1) 5 (by omega) (by omega) (by omega)
      obtain ⟨l, q, h, hq1, hq2, hl⟩ := fates_ok0 hb x hx m k (acc ++ [u]) (p + 1 + 1) (by omega) (by omega) (by simp; omega) (by omega) (by omega)
      rw [if_pos hv0, hu, Option.bind_some, if_pos (by omega), e]
      exact ⟨l, q, h, by omega, by omega, by rw [hl]; simp; omega⟩
    · obtain ⟨l, q, h, hq1, hq2, hl⟩ := fates_ok0 hb x hx m k (acc ++ [0]) (p + 1) (by omega) (by omega) (by simp; omega) (by omega) (by omega)
      rw [if_neg hv0, if_pos (by omega), e]
      exact ⟨l, q, h, by omega, by omega, by rw [hl]; simp; omega⟩
theorem fates_ok {b : List Int} (hb : SrcOk b) (k : Nat) (hk : 100 ≤ k) (p : Int) (h0 : 0 ≤ p) (h1 : p ≤ 100000) : ∃ l q, spec_l4Fates.f k b p = some (l, q) ∧ p ≤ q ∧ q ≤ p + 100 ∧ l.length ≤ 30 := by
  obtain ⟨v, hv, hvm⟩ := num_ok hb k (by omega) p ([2, 1, 3, 8] : List Int) h0 (by omega) (by simp) (by simp)
  obtain ⟨u, hu, hum⟩ := num_ok hb k (by omega) (p + 1) ([6, 0, 12, 3, 30] : List Int) (by omega) (by omega) (by simp) (by simp)
  have hvb : v ≤ 8 := by
    simp only [List.mem_cons, List.not_mem_nil, or_false] at hvm
    omega
  have hub : 0 ≤ u ∧ u ≤ 30 := by
    simp only [List.mem_cons, List.not_mem_nil, or_false] at hum
    omega
  obtain ⟨n, rfl⟩ := Int.eq_ofNat_of_zero_le hub.1
  obtain ⟨l, q, h, hq1, hq2, hl⟩ := fates_ok0 hb v (by omega) n k [] (p + 1 + 1) (by omega) (by omega) (by simp; omega) (by omega) (by omega)
  unfold spec_l4Fates.f
  rw [hv, Option.bind_some]
  simp only
  rw [hu, Option.bind_some]
  exact ⟨l, q, h, by omega, by omega, by rw [hl]; simp; omega⟩
/-- What is drawn for a link. -/
theorem l5Draw_ok {b : List Int} (hb : SrcOk b) (k : Nat) (hk : 100 ≤ k) (p : Int) (h0 : 0 ≤ p) (h1 : p ≤ 10000) : ∃ win list there back q, spec_l5Draw.f k b p = some (win, list, there, back, q) ∧ p ≤ q ∧ q ≤ p + 1000 ∧ list.length ≤ 15 ∧ there.length ≤ 31 ∧ back.length ≤ 31 ∧ bytesOk list = true := by
  obtain ⟨l, q1, hs, ha1, ha2, hl, hbl⟩ := sent_ok hb k hk p h0 (by omega)
  obtain ⟨wn, hw, hwm⟩ := num_ok hb k (by omega) q1 ([4, 1, 2, 8, 3] : List Int) (by omega) (by omega) (by simp) (by simp)
  obtain ⟨f, q2, hf, hf1, hf2, hfl⟩ := fates_ok hb k hk (q1 + 1) (by omega) (by omega)
  obtain ⟨g, q3, hg, hg1, hg2, hgl⟩ := fates_ok hb k hk q2 (by omega) (by omega)
  obtain ⟨v, hv, _, _⟩ := pick_ok hb k (by omega) q3 48 (by omega) (by omega) (by omega)
  unfold spec_l5Draw.f
  rw [hs, Option.bind_some]
  simp only
  rw [hw, Option.bind_some]
  simp only
  rw [hf, Option.bind_some]
  simp only
  rw [hg, Option.bind_some]
  simp only
  rw [hv, Option.bind_some]
  simp only
  by_cases c0 : v = 0
  · obtain ⟨u, hu, _⟩ := num_ok hb k (by omega) (q3 + 1) ([0, 9] : List Int) (by omega) (by omega) (by simp) (by simp)
    rw [if_pos c0, hu, Option.bind_some]
    exact ⟨_, _, _, _, _, rfl, by simp only; omega, by simp only; omega, by omega, by omega, by omega, hbl⟩
  rw [if_neg c0]
  by_cases c1 : v = 1
  · rw [if_pos c1, if_pos (by omega), if_pos (by omega)]
    refine ⟨_, _, _, _, _, rfl, by omega, by omega, by rw [List.length_append, List.length_singleton]; omega, by omega, by omega, ?_⟩
    unfold bytesOk at hbl ⊢
    rw [List.all_append, hbl]
    simp only [List.all_cons, List.all_nil, Bool.and_true, Bool.true_and, List.all_replicate]
    decide
  rw [if_neg c1]
  by_cases c2 : v = 2
  · rw [if_pos c2, if_pos (by omega)]
    exact ⟨_, _, _, _, _, rfl, by omega, by omega, by omega, by simp; omega, by omega, hbl⟩
  rw [if_neg c2]
  by_cases c3 : v = 3
  · rw [if_pos c3, if_pos (by omega)]
    exact ⟨_, _, _, _, _, rfl, by omega, by omega, by omega, by omega, by simp; omega, hbl⟩
  rw [if_neg c3]
  exact ⟨_, _, _, _, _, rfl, by omega, by omega, by omega, by omega, by omega, hbl⟩
theorem open_ok (l : List Int) (hw : ∀ x ∈ l, byteOk x) : ∃ b, spec_l21Open.f l = some (b, 0) ∧ SrcOk b := by
  unfold spec_l21Open.f
  by_cases h : (l.length : Int) > 2000
  · rw [if_pos h, if_pos (by omega)]
    exact ⟨_, rfl, by rw [List.length_take]; omega, fun x hx => hw x (List.mem_of_mem_take hx)⟩
  · rw [if_neg h]
    exact ⟨_, rfl, by omega, hw⟩
theorem wf_byte {x : Int} (h : (Lit.int .u8 x).wf = true) : byteOk x := by
  have h0 : IntKind.u8.min = 0 := by decide
  have h1 : IntKind.u8.max = 255 := by decide
  simp only [Lit.wf, Bool.and_eq_true, decide_eq_true_eq, h0, h1] at h
  exact h
end Go.Proofs.Ytookabfmbimnoaa.Lk

namespace Go.Proofs.Ytookabfmbimnoaa.Lk
open Go.RowKit Go.Proofs.YtookabfmbimnoaaW.PrintWords Go.Proofs.YtookabfmbimnoaaW.PrintLast Go.Proofs.YtookabfmbimnoaaW.PrintMore
set_option linter.unusedVariables false
set_option linter.unusedSimpArgs false

theorem specFatesK (l : List Int) (k : Nat) (hl : l.length ≤ 100000) (hk : l.length + 1 ≤ k) : spec_FatesValid.f k l = some (fatesOk l) := by
  have := specFatesG l (by omega) l.length 0 k (by omega) hk
  rw [List.drop_zero] at this
  exact this
theorem specLink0 (a0 : Int) (l1 : List (List Int)) (l2 l3 : List Int) (h2 : l2.length ≤ 100) (h3 : l3.length ≤ 100) : ∀ (m i k : Nat), i + m = l1.length → m ≤ 1000 → l1.length ≤ 100000 → m + 200 ≤ k →
    spec_l5Link.l0 k a0 l1 l2 l3 (i : Int) = some ((l1.drop i).all shortB && (winOk a0 && (decide (l1.length ≤ 60) && (fatesOk l2 && fatesOk l3))))
  | m, i, 0, hi, hm, hl, hk => by omega
  | 0, i, k + 1, hi, hm, hl, hk => by
    rw [spec_l5Link.l0, if_neg (by omega), specIn_ok, Option.bind_some, List.drop_eq_nil_of_le (by omega), specFatesK l2 k (by omega) (by omega), specFatesK l3 k (by omega) (by omega)]
    show (if winOk a0 = true then _ else _) = _
    simp only [List.all_nil, Bool.true_and]
    cases winOk a0 with
    | false => rfl
    | true =>
      rw [if_pos rfl]
      by_cases hl60 : l1.length ≤ 60
      · rw [if_pos (by omega), decide_eq_true hl60, Option.bind_some]
        cases fatesOk l2 with
        | false => rfl
        | true => rw [if_pos rfl, Option.bind_some]; rfl
      · rw [if_neg (by omega), decide_eq_false hl60]; rfl
  | m + 1, i, k + 1, hi, hm, hl, hk => by
    have e : wrap64 ((i : Int) + 1) = ((i + 1 : Nat) : Int) := by rw [w64 _ (by omega)]; simp
    have hil : i < l1.length := by omega
    have hd : l1.drop i = l1[i] :: l1.drop (i + 1) := List.drop_eq_getElem_cons hil
    rw [spec_l5Link.l0, if_pos (by omega), if_pos (by omega), rd_L2_get hil, hd, List.all_cons]
    by_cases hs : l1[i].length ≤ 597
    · rw [if_neg (by omega), e, specLink0 a0 l1 l2 l3 h2 h3 m (i + 1) k (by omega) (by omega) hl (by omega), show shortB l1[i] = true from decide_eq_true hs, Bool.true_and]
    · rw [if_pos (by omega), show shortB l1[i] = false from decide_eq_false hs]; rfl
def linkB0 (a0 : Int) (l1 : List (List Int)) (l2 l3 : List Int) : Bool := winOk a0 && (decide (l1.length ≤ 60) && (l1.all shortB && (fatesOk l2 && fatesOk l3)))
theorem linkB_split (a0 : Int) (l1 : List (List Int)) (l2 l3 : List Int) (a4 : Int) : linkB a0 l1 l2 l3 a4 = (linkB0 a0 l1 l2 l3 && rndOk a4) := by
  unfold linkB linkB0
  simp only [Bool.and_assoc]
theorem specLink (a0 : Int) (l1 : List (List Int)) (l2 l3 : List Int) (h1 : l1.length ≤ 100) (h2 : l2.length ≤ 100) (h3 : l3.length ≤ 100) (k : Nat) (hk : 400 ≤ k) : spec_l5Link.f k a0 l1 l2 l3 = some (linkB0 a0 l1 l2 l3) := by
  have h := specLink0 a0 l1 l2 l3 h2 h3 l1.length 0 k (by omega) (by omega) (by omega) (by omega)
  rw [List.drop_zero] at h
  refine h.trans (congrArg some ?_)
  unfold linkB0
  cases l1.all shortB <;> cases winOk a0 <;> cases decide (l1.length ≤ 60) <;> rfl
end Go.Proofs.Ytookabfmbimnoaa.Lk

namespace Go.Proofs.Ytookabfmbimnoaa.Lk
open Go.RowKit Go.Proofs.YtookabfmbimnoaaW.PrintWords Go.Proofs.YtookabfmbimnoaaW.PrintLast Go.Proofs.YtookabfmbimnoaaW.PrintMore
set_option linter.unusedVariables false
set_option linter.unusedSimpArgs false

theorem loopL_inv {w : Nat} (hw : w ≤ 8) (hw1 : 1 ≤ w) {list : List (List Int)} {there back : List Int} : ∀ (m : Nat) (st : LSt), LInv w list st → LInv w list (loopL w list there back m st) ∧ (loopL w list there back m st).rounds ≤ st.rounds + m ∧ st.rounds ≤ (loopL w list there back m st).rounds
  | 0, st, h => ⟨h, Nat.le_refl _, Nat.le_refl _⟩
  | m + 1, st, h => by
    rcases Nat.lt_or_ge st.kn list.length with hk | hk
    · rw [loopL_go m hk]
      have hs := stepL_inv hw hw1 (there := there) (back := back) hk h
      have ih := loopL_inv hw hw1 (there := there) (back := back) m _ hs.1
      have hr : (stepL w list there back st).rounds = st.rounds + 1 := rfl
      exact ⟨ih.1, by omega, by omega⟩
    · rw [loopL_stop (m + 1) (by omega)]
      exact ⟨h, by omega, by omega⟩
theorem runL_inv {w : Nat} (hw : w ≤ 8) (hw1 : 1 ≤ w) {list : List (List Int)} {there back : List Int} (m : Nat) : LInv w list (runL w list there back m) ∧ (runL w list there back m).rounds ≤ m := by
  have h := loopL_inv hw hw1 (there := there) (back := back) m ⟨[], 0, 0, 0, 0⟩ (linv0 w list)
  exact ⟨h.1, by simpa [runL] using h.2.1⟩
structure LClear (w : Nat) (list : List (List Int)) (st : LSt) : Prop where
  s1 : st.s1 = st.kn
  kn : st.kn ≤ list.length
  low : st.kn ≤ st.rounds * w
def runV (a0 : Int) (l1 : List (List Int)) (l2 l3 : List Int) (a4 : Int) : List (List Int) × Int × Int × Bool × Bool :=
  if linkB a0 l1 l2 l3 a4 = true then ((runR a0 l1 l2 l3 a4).got, ((runR a0 l1 l2 l3 a4).rounds : Int), (((runR a0 l1 l2 l3 a4).s1 + (runR a0 l1 l2 l3 a4).s2 : Nat) : Int), decide (l1.length ≤ (runR a0 l1 l2 l3 a4).kn), true) else ([], 0, 0, false, false)
theorem implRun (k : Nat) (a0 : Int) (l1 : List (List Int)) (l2 l3 : List Int) (a4 : Int) (hb : bytesOk l1 = true) : impl_RunLink.f k a0 l1 l2 l3 a4 = some (runV a0 l1 l2 l3 a4) := by
  unfold impl_RunLink.f runV
  rw [if_pos hb]
  split <;> rfl
theorem specIn (a b c : Int) : spec_l1In.f a b c = some (decide (b ≤ a) && decide (a ≤ c)) := by
  unfold spec_l1In.f
  by_cases h : b ≤ a
  · simp [h]
  · simp [h]
theorem specRun (k : Nat) (hk : 400 ≤ k) (a0 : Int) (l1 : List (List Int)) (l2 l3 : List Int) (a4 : Int) (hb : bytesOk l1 = true) (h1 : l1.length ≤ 100) (h2 : l2.length ≤ 100) (h3 : l3.length ≤ 100) : spec_RunLink.f k a0 l1 l2 l3 a4 = some (runV a0 l1 l2 l3 a4) := by
  unfold spec_RunLink.f runV
  rw [specLink a0 l1 l2 l3 h1 h2 h3 k hk, Option.bind_some, linkB_split]
  cases h : linkB0 a0 l1 l2 l3 with
  | false => simp
  | true =>
    simp only [Bool.true_and]
    rw [specIn]
    simp only [Option.bind_some]
    by_cases hr : rndOk a4 = true
    · have hr2 : (decide (0 ≤ a4) && decide (a4 ≤ 400)) = true := by simpa [rndOk] using hr
      have hL : bytesOk l1 = true ∧ linkB a0 l1 l2 l3 a4 = true := ⟨hb, by rw [linkB_split, h, hr]; rfl⟩
      rw [hr2, hr, if_pos rfl, if_pos rfl, if_pos True.intro]
      unfold spec_l5Run.f
      rw [if_pos hL]
      rfl
    · have hr1 : rndOk a4 = false := by simpa using hr
      have hr2 : (decide (0 ≤ a4) && decide (a4 ≤ 400)) = false := by simpa [rndOk] using hr1
      rw [hr2, hr1]
      rfl
theorem linkB_nat {a0 : Int} {l1 : List (List Int)} {l2 l3 : List Int} {a4 : Int} (h : linkB a0 l1 l2 l3 a4 = true) : 1 ≤ a0.toNat ∧ a0.toNat ≤ 8 ∧ 1 ≤ a0 ∧ a0 ≤ 8 ∧ 0 ≤ a4 ∧ a4 ≤ 400 ∧ l1.length ≤ 60 := by
  simp only [linkB, Bool.and_eq_true, winOk, rndOk, decide_eq_true_eq] at h
  omega
end Go.Proofs.Ytookabfmbimnoaa.Lk

namespace Go.Proofs.Ytookabfmbimnoaa.Pure
open Go.RowKit Go.Proofs.Ytookabfmbimnoaa.Lk Go.Proofs.YtookabfmbimnoaaW.PrintWords Go.Proofs.YtookabfmbimnoaaW.PrintLast
theorem FnLinkSafe : laws_FnLinkSafe.Pure := by
  intro l0 _ _ hwf
  obtain ⟨b, ho, hb⟩ := open_ok l0 (fun x hx => wf_byte (hwf x hx))
  obtain ⟨win, list, there, back, q, hd, hq1, hq2, hl, ht, hbk, hby⟩ := l5Draw_ok hb 700 (by omega) 0 (by omega) (by omega)
  obtain ⟨rounds, hm, _⟩ := num_ok hb 700 (by omega) q ([20, 3, 1, 60, 0, 400, 401, (-1)] : List Int) (by omega) (by omega) (by simp) (by simp)
  have h2 : spec_DrawRunLink.f 700 l0 = some (win, list, there, back, rounds) := by
    unfold spec_DrawRunLink.f
    rw [ho, Option.bind_some]
    simp only
    rw [hd, Option.bind_some]
    simp only
    rw [hm]
    rfl
  have hi := implRun 700 win list there back rounds hby
  have hs := specRun 700 (by omega) win list there back rounds hby (by omega) (by omega) (by omega)
  refine ⟨700, ?_, ?_⟩
  · unfold laws_FnLinkSafe.f
    by_cases hlen : (l0.length : Int) > 1048576
    · rw [if_pos hlen]
    rw [if_neg hlen, h2, Option.bind_some]
    simp only
    rw [hi, Option.bind_some, hs, Option.bind_some]
    have hwn : ∀ l k, laws_wnTexts.f k l l = some true := fun l k => if_pos rfl
    unfold runV
    by_cases hL : linkB win list there back rounds = true
    case neg =>
      rw [if_neg hL]
      simp only [bne_self_eq_false, Bool.false_eq_true, if_false, hwn, Option.bind_some, if_true]
      rw [laws_FnLinkSafe.j0]
      simp [hwn]
    rw [if_pos hL]
    obtain ⟨n1, n2, n3, n4, n5, _, n7⟩ := linkB_nat hL
    obtain ⟨w, rfl⟩ := Int.eq_ofNat_of_zero_le (show 0 ≤ win by omega)
    obtain ⟨m, rfl⟩ := Int.eq_ofNat_of_zero_le n5
    rw [Int.toNat_natCast] at n1 n2
    have hr : runR (w : Int) list there back (m : Int) = runL w list there back m := rfl
    rw [hr]
    have hc := runL_inv n2 n1 (list := list) (there := there) (back := back) m
    generalize runL w list there back m = R at hc
    obtain ⟨c1, c2⟩ := hc
    have g1 := c1.lo
    have g2 := c1.hi
    have g3 := c1.front
    simp only [bne_self_eq_false, Bool.false_eq_true, if_false, hwn, Option.bind_some, if_true, Bool.not_true]
    rw [laws_FnLinkSafe.j0]
    have hle : R.rounds ≤ m := c2
    rw [if_neg (by simp), if_pos (by omega), if_pos (by omega), Int.toNat_natCast, ← g3, hwn, Option.bind_some, if_pos rfl]
    by_cases hdn : list.length ≤ R.kn
    · rw [decide_eq_true hdn, if_pos rfl, if_pos (by omega), decide_eq_true (by omega)]
    · rw [decide_eq_false hdn, if_neg (by simp), decide_eq_true (by omega)]
  · intro a b c d e x y hd2 hx hy
    rw [h2] at hd2
    obtain ⟨rfl, rfl, rfl, rfl, rfl⟩ := by simpa only [Option.some.injEq, Prod.mk.injEq] using hd2
    exact (Option.some.inj (hx.symm.trans hi)).trans (Option.some.inj (hs.symm.trans hy))
end Go.Proofs.Ytookabfmbimnoaa.Pure
