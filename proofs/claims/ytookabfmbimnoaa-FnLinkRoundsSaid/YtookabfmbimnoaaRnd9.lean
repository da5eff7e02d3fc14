/- What the walks of this claim need: printed by a program of this session (wip/pack.py) out of the session's texts and of the words that the kit's print.sh lays; under no condition beyond those in each theorem. Lean checks it. -/
import Derived.Test.YtookabfmbimnoaaRnd8
namespace Go.Proofs.Ytookabfmbimnoaa.Lk
open Go.RowKit Go.Proofs.YtookabfmbimnoaaW.PrintWords Go.Proofs.YtookabfmbimnoaaW.PrintLast Go.Proofs.YtookabfmbimnoaaW.PrintMore
attribute [local go_sem] max2_int min2_int max_two min_two max_three min_three max_four min_four   -- for this text's walks alone
set_option linter.unusedVariables false
set_option linter.unusedSimpArgs false

def laws_FnLinkRounds.j0 : Nat → Int → List (List Int) → List Int → List Int → Int → Bool → Option (Bool)
  | 0, _, _, _, _, _, _ => none
  | k + 1, x3, x4, x5, x6, x7, x37 => if x37 = true then ((spec_LinkRounds.f k x3 x4 x5 x6).bind fun t585 => (if x7 = t585 then (some (x7 == (-1))) else (some false))) else ((impl_RunLink.f k x3 x4 x5 x6 x7).bind fun bt586 => (if x7 > 0 then ((impl_RunLink.f k x3 x4 x5 x6 (wrap64 (x7 - 1))).bind fun bt594 => (if bt594.2.2.2.2 = true then (if bt594.2.2.2.1 = true then (some false) else (if (bt594.1.length : Int) > (bt586.1.length : Int) then (some false) else (if 0 ≤ (bt594.1.length : Int) then (if (bt594.1.length : Int) ≤ (bt586.1.length : Int) then ((laws_wnTexts.f k bt594.1 (bt586.1.take ((bt594.1.length : Int) : Int).toNat)).bind fun t606 => (if t606 = true then (if bt586.2.2.2.2 = true then (if bt586.2.2.2.1 = true then (if bt586.2.1 = x7 then ((laws_wnTexts.f k bt586.1 x4).bind fun t607 => (some t607)) else (some false)) else (some false)) else (some false)) else (some false))) else (none)) else (none)))) else (some false))) else (if bt586.2.2.2.2 = true then (if bt586.2.2.2.1 = true then (if bt586.2.1 = x7 then ((laws_wnTexts.f k bt586.1 x4).bind fun t608 => (some t608)) else (some false)) else (some false)) else (some false))))
def laws_FnLinkRounds.f (k : Nat) (l0 : List Int) : Option (Bool) := if (l0.length : Int) > 1048576 then (some true) else ((spec_DrawLinkRounds.f k l0).bind fun bt573 => ((impl_LinkRounds.f k bt573.1 bt573.2.1 bt573.2.2.1 bt573.2.2.2).bind fun t583 => ((spec_LinkRounds.f k bt573.1 bt573.2.1 bt573.2.2.1 bt573.2.2.2).bind fun t584 => (if t583 = t584 then (laws_FnLinkRounds.j0 k bt573.1 bt573.2.1 bt573.2.2.1 bt573.2.2.2 t583 (decide (t583 < 0))) else (laws_FnLinkRounds.j0 k bt573.1 bt573.2.1 bt573.2.2.1 bt573.2.2.2 t583 true)))))
def laws_FnLinkRounds.T10 : Bool × List (List Nat × List Nat) := (true, [([], []), ([0], [0]), ([1], [1]), ([2], [2]), ([3, 2], [2, 3]), ([2, 4], [2, 4]), ([5, 2], [5]), ([6], [6]), ([7, 6], [6, 7]), ([8, 6], [6, 8]), ([6], [6]), ([10, 6], [6, 10]), ([11, 6], [6, 11]), ([9, 12, 6], [6, 9, 12]), ([6, 13], [6, 13]), ([14, 6], [14]), ([15], [15]), ([16, 15], [15, 16]), ([15], [15]), ([18, 15], [15, 18]), ([15], [15]), ([20, 15], [15, 20]), ([21, 15], [15, 21]), ([19, 22, 15], [15, 19, 22]), ([17, 23, 15, 15], [15, 17, 23]), ([24, 15], [15, 24]), ([15, 25], [15, 25])])
def laws_FnLinkRounds.B10 : List Nat := [0, 1, 3, 7, 15, 31, 63, 127, 255, 511, 127, 1151, 3199, 8191, 16383, 32767, 65535, 131071, 65535, 327679, 65535, 1114111, 3211263, 8191999, 16777215, 33554431, 67108863]
theorem laws_FnLinkRounds.tab10 : rtab .any (opsOf Try.f6 10) = laws_FnLinkRounds.T10 := by kernel_rfl
theorem laws_FnLinkRounds.bits10 : waitsOk laws_FnLinkRounds.T10.2 laws_FnLinkRounds.B10 = true := by kernel_rfl
set_option maxHeartbeats 8000000 in
set_option maxRecDepth 100000 in
theorem laws_FnLinkRounds.calls (k : Nat) (A0 : Option Addr) (c0 : Nat) (l0 : List Int) (r : Bool) (w : World) (hr0 : Kd.C (Kd.int .u8) w A0 l0.length l0) (hc0 : l0.length ≤ c0) (hr : r = true) (h : laws_FnLinkRounds.f k l0 = some r) :
    Calls Try.prog 6 #[.slice A0 l0.length c0] w fun e w' => e = .returned (.bool r) ∧ Below w.heap.size w w' := by
  have hu28 := Try.underlying28
  have HR0 := Aside0.mk hr0
  have HC0 := Aside0.mk hc0
  clear hr0 hc0
  have HB := Aside0.mk (Below.refl w.heap.size w)
  have H : (if (l0.length : Int) > 1048576 then (some true) else ((spec_DrawLinkRounds.f k l0).bind fun bt573 => ((impl_LinkRounds.f k bt573.1 bt573.2.1 bt573.2.2.1 bt573.2.2.2).bind fun t583 => ((spec_LinkRounds.f k bt573.1 bt573.2.1 bt573.2.2.1 bt573.2.2.2).bind fun t584 => (if t583 = t584 then (laws_FnLinkRounds.j0 k bt573.1 bt573.2.1 bt573.2.2.1 bt573.2.2.2 t583 (decide (t583 < 0))) else (laws_FnLinkRounds.j0 k bt573.1 bt573.2.1 bt573.2.2.1 bt573.2.2.2 t583 true)))))) = some r := h
  clear h
  by_cases c2 : (l0.length : Int) > 1048576
  · rw [if_pos c2] at H
    have c2b0 : decide (1048576 < (l0.length : Int)) = true := decide_eq_true c2
    have c2b1 : decide (1048576 < l0.length) = true := decide_eq_true (by omega)
    clear c2
    obtain rfl := Option.some.inj H
    go_enter Try.func6, Try.ntmps6
    go_wp2
    go_ret
    exact ⟨by first | rfl | (simp [errW_none, errW_some] <;> rfl) | (simp [*, errW_none, errW_some] <;> rfl), by repeat (first | (with_reducible first | exact HB.out | apply below_alloc | apply pw_below_drewN | apply below_drew1) | exact HB.out)⟩
  · rw [if_neg c2] at H
    have c2b0 : decide (1048576 < (l0.length : Int)) = false := decide_eq_false c2
    have c2b1 : decide (1048576 < l0.length) = false := decide_eq_false (by omega)
    clear c2
    replace H := Option.bind_eq_some_iff.mp H
    obtain ⟨⟨t573, t574, t575, t576⟩, A30, H⟩ := H
    replace H : ((impl_LinkRounds.f k t573 t574 t575 t576).bind fun t583 => ((spec_LinkRounds.f k t573 t574 t575 t576).bind fun t584 => (if t583 = t584 then (laws_FnLinkRounds.j0 k t573 t574 t575 t576 t583 (decide (t583 < 0))) else (laws_FnLinkRounds.j0 k t573 t574 t575 t576 t583 true)))) = some r := H
    have A3 := Aside0.mk A30
    clear A30
    replace H := Option.bind_eq_some_iff.mp H
    obtain ⟨t583, A40, H⟩ := H
    replace H : ((spec_LinkRounds.f k t573 t574 t575 t576).bind fun t584 => (if t583 = t584 then (laws_FnLinkRounds.j0 k t573 t574 t575 t576 t583 (decide (t583 < 0))) else (laws_FnLinkRounds.j0 k t573 t574 t575 t576 t583 true))) = some r := H
    have A4 := Aside0.mk A40
    clear A40
    have HC5 := Aside0.mk H
    clear H
    go_enter Try.func6, Try.ntmps6
    go_upto_region 5 with (first | ((with_reducible refine gate_callee (f := 9) rfl ?_); refine goesL_ (some 17) rfl rfl Try.func9 (by kernel_rfl) rfl #[.slice A0 l0.length c0] rfl (by (try simp only [List.map_toArray, List.map_cons, List.map_nil]); first | done | rfl | (simp only [List.length_drop, List.length_take]; rfl)) ?_; (with_reducible refine (spec_DrawLinkRounds.calls k _ _ l0 t573 t574 t575 t576 _ ?side1 ?side2 A3.out).mono ?_); (case side1 => repeat (first | exact HR0.out | (with_reducible refine Kd.C_alloc ?_ _) | (with_reducible refine Kd.C_drewN ?_ _) | (with_reducible refine Kd.C_drew ?_))); (case side2 => exact HC0.out); rintro e w6 ⟨v577, v579, v581, rfl, ho0, ho1, ho2, hb⟩; refine ⟨_, rfl, ?_⟩; have n0_ := Aside0.mk (Kd.S_lower ho0 (below_size (by repeat (first | (with_reducible first | exact HB.out | apply below_alloc | apply pw_below_drewN | apply below_drew1) | exact HB.out)))); have n1_ := Aside0.mk (Kd.R_lower ho1 (below_size (by repeat (first | (with_reducible first | exact HB.out | apply below_alloc | apply pw_below_drewN | apply below_drew1) | exact HB.out)))); have n2_ := Aside0.mk (Kd.R_lower ho2 (below_size (by repeat (first | (with_reducible first | exact HB.out | apply below_alloc | apply pw_below_drewN | apply below_drew1) | exact HB.out)))); have n3_ := Aside0.mk (below_step (by repeat (first | (with_reducible first | exact HB.out | apply below_alloc | apply pw_below_drewN | apply below_drew1) | exact HB.out)) hb); clear HB; have HO578 := n0_; have HO580 := n1_; have HO582 := n2_; have HB := n3_; clear n0_ n1_ n2_ n3_; (try clear hb); (try clear hb2); (try clear hk); (try clear hi); (try clear ho0); (try clear ho1); (try clear ho2); obtain ⟨Ao7, co7, eo7⟩ := Kd.S_slice HO578.out; subst eo7; obtain ⟨Ao8, co8, eo8⟩ := Kd.R_slice HO580.out; subst eo8; obtain ⟨Ao9, co9, eo9⟩ := Kd.R_slice HO582.out; subst eo9) | ((with_reducible refine gate_callee (f := 16) rfl ?_); refine goesL_ (some 26) rfl rfl Try.func16 (by kernel_rfl) rfl #[.int .i64 t573, .slice Ao7 t574.length co7, .slice Ao8 t575.length co8, .slice Ao9 t576.length co9] rfl (by (try simp only [List.map_toArray, List.map_cons, List.map_nil]); first | done | rfl | (simp only [List.length_drop, List.length_take]; rfl)) ?_; (with_reducible refine (impl_LinkRounds.calls k t573 _ _ t574 _ _ t575 _ _ t576 t583 _ ?side1 ?side2 ?side3 ?side4 ?side5 ?side6 A4.out).mono ?_); (case side1 => repeat (first | exact (Kd.S_reads' HO578.out).2.2 | (with_reducible refine Kd.C_alloc ?_ _) | (with_reducible refine Kd.C_drewN ?_ _) | (with_reducible refine Kd.C_drew ?_))); (case side2 => exact (Kd.S_reads' HO578.out).2.1); (case side3 => repeat (first | exact (Kd.R_reads' HO580.out).2.2 | (with_reducible refine Kd.C_alloc ?_ _) | (with_reducible refine Kd.C_drewN ?_ _) | (with_reducible refine Kd.C_drew ?_))); (case side4 => exact (Kd.R_reads' HO580.out).2.1); (case side5 => repeat (first | exact (Kd.R_reads' HO582.out).2.2 | (with_reducible refine Kd.C_alloc ?_ _) | (with_reducible refine Kd.C_drewN ?_ _) | (with_reducible refine Kd.C_drew ?_))); (case side6 => exact (Kd.R_reads' HO582.out).2.1); rintro e w10 ⟨rfl, hb⟩; refine ⟨_, rfl, ?_⟩; have n0_ := Aside0.mk (Kd.S_below (by (with_reducible repeat (first | apply Kd.S_alloc | apply Kd.S_drewN | apply Kd.S_drew)); exact HO578.out) hb); have n1_ := Aside0.mk (Kd.R_below (by (with_reducible repeat (first | apply Kd.R_alloc | apply Kd.R_drewN | apply Kd.R_drew)); exact HO580.out) hb); have n2_ := Aside0.mk (Kd.R_below (by (with_reducible repeat (first | apply Kd.R_alloc | apply Kd.R_drewN | apply Kd.R_drew)); exact HO582.out) hb); have n3_ := Aside0.mk (below_step (by repeat (first | (with_reducible first | exact HB.out | apply below_alloc | apply pw_below_drewN | apply below_drew1) | exact HB.out)) hb); clear HO578; clear HO580; clear HO582; clear HB; have HO578 := n0_; have HO580 := n1_; have HO582 := n2_; have HB := n3_; clear n0_ n1_ n2_ n3_; (try clear hb); (try clear hb2); (try clear hk); (try clear hi)))
    (try simp only [Act.put, List.setIfInBounds_toArray, List.set_cons_zero, List.set_cons_succ])
    go_cut [37] (fun v37 wc => ∃ (kq : Nat) (x37_4 : Bool), v37 = .bool x37_4 ∧ Aside0 (laws_FnLinkRounds.j0 kq t573 t574 t575 t576 t583 x37_4 = some r) ∧ Aside0 (kq ≤ k) ∧ Aside0 (Kd.S (Kd.slice 5 (Kd.int .u8)) 22 wc w.heap.size (fun _ => True) (.slice Ao7 t574.length co7) t574) ∧ Aside0 (Kd.R (Kd.int .i64) 3 wc w.heap.size (fun k_ => some k_ ≠ ((.slice Ao9 t576.length co9) : Value).ownBlock) (.slice Ao8 t575.length co8) t575) ∧ Aside0 (Kd.R (Kd.int .i64) 3 wc w.heap.size (fun k_ => some k_ ≠ ((.slice Ao8 t575.length co8) : Value).ownBlock) (.slice Ao9 t576.length co9) t576) ∧ Aside0 (Below w.heap.size w wc))
    case first =>
      have H := HC5.out
      clear HC5
      replace H := Option.bind_eq_some_iff.mp H
      obtain ⟨t584, A110, H⟩ := H
      replace H : (if t583 = t584 then (laws_FnLinkRounds.j0 k t573 t574 t575 t576 t583 (decide (t583 < 0))) else (laws_FnLinkRounds.j0 k t573 t574 t575 t576 t583 true)) = some r := H
      have A11 := Aside0.mk A110
      clear A110
      by_cases c12 : t583 = t584
      · rw [if_pos c12] at H
        have c12b0 : (t583 == t584) = true := beq_iff_eq.mpr c12
        have c12b1 : (t583 != t584) = false := bne_eq_false_iff_eq.mpr c12
        clear c12
        (first | rw [c12b0] | (simp only [i64_w, i32_w]; rw [c12b0]) | skip)
        have H' := Aside0.mk H
        clear H
        go_wp2_with (first | ((with_reducible refine gate_callee (f := 13) rfl ?_); refine goesL_ (some 32) rfl rfl Try.func13 (by kernel_rfl) rfl #[.int .i64 t573, .slice Ao7 t574.length co7, .slice Ao8 t575.length co8, .slice Ao9 t576.length co9] rfl (by (try simp only [List.map_toArray, List.map_cons, List.map_nil]); first | done | rfl | (simp only [List.length_drop, List.length_take]; rfl)) ?_; (with_reducible refine (spec_LinkRounds.calls k t573 _ _ t574 _ _ t575 _ _ t576 t584 _ ?side1 ?side2 ?side3 ?side4 ?side5 ?side6 A11.out).mono ?_); (case side1 => repeat (first | exact (Kd.S_reads' HO578.out).2.2 | (with_reducible refine Kd.C_alloc ?_ _) | (with_reducible refine Kd.C_drewN ?_ _) | (with_reducible refine Kd.C_drew ?_))); (case side2 => exact (Kd.S_reads' HO578.out).2.1); (case side3 => repeat (first | exact (Kd.R_reads' HO580.out).2.2 | (with_reducible refine Kd.C_alloc ?_ _) | (with_reducible refine Kd.C_drewN ?_ _) | (with_reducible refine Kd.C_drew ?_))); (case side4 => exact (Kd.R_reads' HO580.out).2.1); (case side5 => repeat (first | exact (Kd.R_reads' HO582.out).2.2 | (with_reducible refine Kd.C_alloc ?_ _) | (with_reducible refine Kd.C_drewN ?_ _) | (with_reducible refine Kd.C_drew ?_))); (case side6 => exact (Kd.R_reads' HO582.out).2.1); rintro e w13 ⟨rfl, hb⟩; refine ⟨_, rfl, ?_⟩; have n0_ := Aside0.mk (Kd.S_below (by (with_reducible repeat (first | apply Kd.S_alloc | apply Kd.S_drewN | apply Kd.S_drew)); exact HO578.out) hb); have n1_ := Aside0.mk (Kd.R_below (by (with_reducible repeat (first | apply Kd.R_alloc | apply Kd.R_drewN | apply Kd.R_drew)); exact HO580.out) hb); have n2_ := Aside0.mk (Kd.R_below (by (with_reducible repeat (first | apply Kd.R_alloc | apply Kd.R_drewN | apply Kd.R_drew)); exact HO582.out) hb); have n3_ := Aside0.mk (below_step (by repeat (first | (with_reducible first | exact HB.out | apply below_alloc | apply pw_below_drewN | apply below_drew1) | exact HB.out)) hb); clear HO578; clear HO580; clear HO582; clear HB; have HO578 := n0_; have HO580 := n1_; have HO582 := n2_; have HB := n3_; clear n0_ n1_ n2_ n3_; (try clear hb); (try clear hb2); (try clear hk); (try clear hi)))
        go_meet
        case rel => exact ⟨_, (decide (t583 < 0)), (by first | rfl | (simp; done) | (simp [*]; done)), H', ⟨by first | omega | exact Nat.le_refl _⟩, ⟨by (with_reducible repeat (first | apply Kd.S_alloc | apply Kd.S_drewN | apply Kd.S_drew)); exact HO578.out⟩, ⟨by (with_reducible repeat (first | apply Kd.R_alloc | apply Kd.R_drewN | apply Kd.R_drew)); exact HO580.out⟩, ⟨by (with_reducible repeat (first | apply Kd.R_alloc | apply Kd.R_drewN | apply Kd.R_drew)); exact HO582.out⟩, ⟨by repeat (first | (with_reducible first | exact HB.out | apply below_alloc | apply pw_below_drewN | apply below_drew1) | exact HB.out)⟩⟩
      · rw [if_neg c12] at H
        have c12b0 : (t583 == t584) = false := beq_eq_false_iff_ne.mpr c12
        have c12b1 : (t583 != t584) = true := bne_iff_ne.mpr c12
        (first | rw [c12b0] | (simp only [i64_w, i32_w]; rw [c12b0]) | skip)
        have H' := Aside0.mk H
        clear H
        go_wp2_with (first | ((with_reducible refine gate_callee (f := 13) rfl ?_); refine goesL_ (some 32) rfl rfl Try.func13 (by kernel_rfl) rfl #[.int .i64 t573, .slice Ao7 t574.length co7, .slice Ao8 t575.length co8, .slice Ao9 t576.length co9] rfl (by (try simp only [List.map_toArray, List.map_cons, List.map_nil]); first | done | rfl | (simp only [List.length_drop, List.length_take]; rfl)) ?_; (with_reducible refine (spec_LinkRounds.calls k t573 _ _ t574 _ _ t575 _ _ t576 t584 _ ?side1 ?side2 ?side3 ?side4 ?side5 ?side6 A11.out).mono ?_); (case side1 => repeat (first | exact (Kd.S_reads' HO578.out).2.2 | (with_reducible refine Kd.C_alloc ?_ _) | (with_reducible refine Kd.C_drewN ?_ _) | (with_reducible refine Kd.C_drew ?_))); (case side2 => exact (Kd.S_reads' HO578.out).2.1); (case side3 => repeat (first | exact (Kd.R_reads' HO580.out).2.2 | (with_reducible refine Kd.C_alloc ?_ _) | (with_reducible refine Kd.C_drewN ?_ _) | (with_reducible refine Kd.C_drew ?_))); (case side4 => exact (Kd.R_reads' HO580.out).2.1); (case side5 => repeat (first | exact (Kd.R_reads' HO582.out).2.2 | (with_reducible refine Kd.C_alloc ?_ _) | (with_reducible refine Kd.C_drewN ?_ _) | (with_reducible refine Kd.C_drew ?_))); (case side6 => exact (Kd.R_reads' HO582.out).2.1); rintro e w14 ⟨rfl, hb⟩; refine ⟨_, rfl, ?_⟩; have n0_ := Aside0.mk (Kd.S_below (by (with_reducible repeat (first | apply Kd.S_alloc | apply Kd.S_drewN | apply Kd.S_drew)); exact HO578.out) hb); have n1_ := Aside0.mk (Kd.R_below (by (with_reducible repeat (first | apply Kd.R_alloc | apply Kd.R_drewN | apply Kd.R_drew)); exact HO580.out) hb); have n2_ := Aside0.mk (Kd.R_below (by (with_reducible repeat (first | apply Kd.R_alloc | apply Kd.R_drewN | apply Kd.R_drew)); exact HO582.out) hb); have n3_ := Aside0.mk (below_step (by repeat (first | (with_reducible first | exact HB.out | apply below_alloc | apply pw_below_drewN | apply below_drew1) | exact HB.out)) hb); clear HO578; clear HO580; clear HO582; clear HB; have HO578 := n0_; have HO580 := n1_; have HO582 := n2_; have HB := n3_; clear n0_ n1_ n2_ n3_; (try clear hb); (try clear hb2); (try clear hk); (try clear hi)))
        go_meet
        case rel => exact ⟨_, (true), (by first | rfl | (simp; done) | (simp [*]; done)), H', ⟨by first | omega | exact Nat.le_refl _⟩, ⟨by (with_reducible repeat (first | apply Kd.S_alloc | apply Kd.S_drewN | apply Kd.S_drew)); exact HO578.out⟩, ⟨by (with_reducible repeat (first | apply Kd.R_alloc | apply Kd.R_drewN | apply Kd.R_drew)); exact HO580.out⟩, ⟨by (with_reducible repeat (first | apply Kd.R_alloc | apply Kd.R_drewN | apply Kd.R_drew)); exact HO582.out⟩, ⟨by repeat (first | (with_reducible first | exact HB.out | apply below_alloc | apply pw_below_drewN | apply below_drew1) | exact HB.out)⟩⟩
    case rest =>
      clear HC5
      try clear c1
      try clear c2
      try clear c2b0
      try clear c2b1
      try clear p2
      try clear c6
      try clear c9
      try clear c12
      try clear c12b0
      try clear c12b1
      try clear c13
      obtain ⟨kq, x37_4, rfl, HA, HJ4, HO_4, HO_5, HO_6, HB⟩ := hcut
      cases kq with
      | zero => exact absurd HA.out (by simp [laws_FnLinkRounds.j0])
      | succ kj4 =>
        have H := HA.out
        clear HA
        simp only [laws_FnLinkRounds.j0] at H
        by_cases c15 : x37_4 = true
        · subst c15
          have H1 : ((spec_LinkRounds.f kj4 t573 t574 t575 t576).bind fun t585 => (if t583 = t585 then (some (t583 == (-1))) else (some false))) = some r := by rw [if_pos rfl] at H; exact H
          clear H
          have H := H1
          clear H1
          replace H := Option.bind_eq_some_iff.mp H
          obtain ⟨t585, A160, H⟩ := H
          replace H : (if t583 = t585 then (some (t583 == (-1))) else (some false)) = some r := H
          have A16 := Aside0.mk A160
          clear A160
          by_cases c17 : t583 = t585
          · rw [if_pos c17] at H
            have c17b0 : (t583 == t585) = true := beq_iff_eq.mpr c17
            have c17b1 : (t583 != t585) = false := bne_eq_false_iff_eq.mpr c17
            clear c17
            obtain rfl := Option.some.inj H
            go_wp2_with (first | ((with_reducible refine gate_callee (f := 13) rfl ?_); refine goesL_ (some 43) rfl rfl Try.func13 (by kernel_rfl) rfl #[.int .i64 t573, .slice Ao7 t574.length co7, .slice Ao8 t575.length co8, .slice Ao9 t576.length co9] rfl (by (try simp only [List.map_toArray, List.map_cons, List.map_nil]); first | done | rfl | (simp only [List.length_drop, List.length_take]; rfl)) ?_; (with_reducible refine (spec_LinkRounds.calls kj4 t573 _ _ t574 _ _ t575 _ _ t576 t585 _ ?side1 ?side2 ?side3 ?side4 ?side5 ?side6 A16.out).mono ?_); (case side1 => repeat (first | exact (Kd.S_reads' HO_4.out).2.2 | (with_reducible refine Kd.C_alloc ?_ _) | (with_reducible refine Kd.C_drewN ?_ _) | (with_reducible refine Kd.C_drew ?_))); (case side2 => exact (Kd.S_reads' HO_4.out).2.1); (case side3 => repeat (first | exact (Kd.R_reads' HO_5.out).2.2 | (with_reducible refine Kd.C_alloc ?_ _) | (with_reducible refine Kd.C_drewN ?_ _) | (with_reducible refine Kd.C_drew ?_))); (case side4 => exact (Kd.R_reads' HO_5.out).2.1); (case side5 => repeat (first | exact (Kd.R_reads' HO_6.out).2.2 | (with_reducible refine Kd.C_alloc ?_ _) | (with_reducible refine Kd.C_drewN ?_ _) | (with_reducible refine Kd.C_drew ?_))); (case side6 => exact (Kd.R_reads' HO_6.out).2.1); rintro e w18 ⟨rfl, hb⟩; refine ⟨_, rfl, ?_⟩; have n0_ := Aside0.mk (Kd.S_below (by (with_reducible repeat (first | apply Kd.S_alloc | apply Kd.S_drewN | apply Kd.S_drew)); exact HO_4.out) hb); have n1_ := Aside0.mk (Kd.R_below (by (with_reducible repeat (first | apply Kd.R_alloc | apply Kd.R_drewN | apply Kd.R_drew)); exact HO_5.out) hb); have n2_ := Aside0.mk (Kd.R_below (by (with_reducible repeat (first | apply Kd.R_alloc | apply Kd.R_drewN | apply Kd.R_drew)); exact HO_6.out) hb); have n3_ := Aside0.mk (below_step (by repeat (first | (with_reducible first | exact HB.out | apply below_alloc | apply pw_below_drewN | apply below_drew1) | exact HB.out)) hb); clear HO_4; clear HO_5; clear HO_6; clear HB; have HO_4 := n0_; have HO_5 := n1_; have HO_6 := n2_; have HB := n3_; clear n0_ n1_ n2_ n3_; (try clear hb); (try clear hb2); (try clear hk); (try clear hi)))
            go_ret
            exact ⟨by first | rfl | (simp [errW_none, errW_some] <;> rfl) | (simp [*, errW_none, errW_some] <;> rfl), by repeat (first | (with_reducible first | exact HB.out | apply below_alloc | apply pw_below_drewN | apply below_drew1) | exact HB.out)⟩
          · rw [if_neg c17] at H
            have c17b0 : (t583 == t585) = false := beq_eq_false_iff_ne.mpr c17
            have c17b1 : (t583 != t585) = true := bne_iff_ne.mpr c17
            obtain rfl := Option.some.inj H
            exact absurd hr (by simp)
        · replace c15 := Bool.eq_false_iff.mpr c15
          subst c15
          have H1 : ((impl_RunLink.f kj4 t573 t574 t575 t576 t583).bind fun bt586 => (if t583 > 0 then ((impl_RunLink.f kj4 t573 t574 t575 t576 (wrap64 (t583 - 1))).bind fun bt594 => (if bt594.2.2.2.2 = true then (if bt594.2.2.2.1 = true then (some false) else (if (bt594.1.length : Int) > (bt586.1.length : Int) then (some false) else (if 0 ≤ (bt594.1.length : Int) then (if (bt594.1.length : Int) ≤ (bt586.1.length : Int) then ((laws_wnTexts.f kj4 bt594.1 (bt586.1.take ((bt594.1.length : Int) : Int).toNat)).bind fun t606 => (if t606 = true then (if bt586.2.2.2.2 = true then (if bt586.2.2.2.1 = true then (if bt586.2.1 = t583 then ((laws_wnTexts.f kj4 bt586.1 t574).bind fun t607 => (some t607)) else (some false)) else (some false)) else (some false)) else (some false))) else (none)) else (none)))) else (some false))) else (if bt586.2.2.2.2 = true then (if bt586.2.2.2.1 = true then (if bt586.2.1 = t583 then ((laws_wnTexts.f kj4 bt586.1 t574).bind fun t608 => (some t608)) else (some false)) else (some false)) else (some false)))) = some r := by rw [if_neg (show ¬ (false = true) by decide)] at H; exact H
          clear H
          have H := H1
          clear H1
          replace H := Option.bind_eq_some_iff.mp H
          obtain ⟨⟨t586, t589, t590, t591, t592⟩, A200, H⟩ := H
          replace H : (if t583 > 0 then ((impl_RunLink.f kj4 t573 t574 t575 t576 (wrap64 (t583 - 1))).bind fun bt594 => (if bt594.2.2.2.2 = true then (if bt594.2.2.2.1 = true then (some false) else (if (bt594.1.length : Int) > (t586.length : Int) then (some false) else (if 0 ≤ (bt594.1.length : Int) then (if (bt594.1.length : Int) ≤ (t586.length : Int) then ((laws_wnTexts.f kj4 bt594.1 (t586.take ((bt594.1.length : Int) : Int).toNat)).bind fun t606 => (if t606 = true then (if t592 = true then (if t591 = true then (if t589 = t583 then ((laws_wnTexts.f kj4 t586 t574).bind fun t607 => (some t607)) else (some false)) else (some false)) else (some false)) else (some false))) else (none)) else (none)))) else (some false))) else (if t592 = true then (if t591 = true then (if t589 = t583 then ((laws_wnTexts.f kj4 t586 t574).bind fun t608 => (some t608)) else (some false)) else (some false)) else (some false))) = some r := H
          have A20 := Aside0.mk A200
          clear A200
          by_cases c21 : t583 > 0
          · rw [if_pos c21] at H
            have c21b0 : decide (0 < t583) = true := decide_eq_true c21
            clear c21
            replace H := Option.bind_eq_some_iff.mp H
            obtain ⟨⟨t594, t597, t598, t599, t600⟩, A220, H⟩ := H
            replace H : (if t600 = true then (if t599 = true then (some false) else (if (t594.length : Int) > (t586.length : Int) then (some false) else (if 0 ≤ (t594.length : Int) then (if (t594.length : Int) ≤ (t586.length : Int) then ((laws_wnTexts.f kj4 t594 (t586.take ((t594.length : Int) : Int).toNat)).bind fun t606 => (if t606 = true then (if t592 = true then (if t591 = true then (if t589 = t583 then ((laws_wnTexts.f kj4 t586 t574).bind fun t607 => (some t607)) else (some false)) else (some false)) else (some false)) else (some false))) else (none)) else (none)))) else (some false)) = some r := H
            have A22 := Aside0.mk A220
            clear A220
            by_cases c23 : t600 = true
            · subst c23
              have H1 : (if t599 = true then (some false) else (if (t594.length : Int) > (t586.length : Int) then (some false) else (if 0 ≤ (t594.length : Int) then (if (t594.length : Int) ≤ (t586.length : Int) then ((laws_wnTexts.f kj4 t594 (t586.take ((t594.length : Int) : Int).toNat)).bind fun t606 => (if t606 = true then (if t592 = true then (if t591 = true then (if t589 = t583 then ((laws_wnTexts.f kj4 t586 t574).bind fun t607 => (some t607)) else (some false)) else (some false)) else (some false)) else (some false))) else (none)) else (none)))) = some r := by rw [if_pos rfl] at H; exact H
              clear H
              have H := H1
              clear H1
              by_cases c24 : t599 = true
              · subst c24
                have H1 : (some false) = some r := by rw [if_pos rfl] at H; exact H
                clear H
                have H := H1
                clear H1
                obtain rfl := Option.some.inj H
                exact absurd hr (by simp)
              · replace c24 := Bool.eq_false_iff.mpr c24
                subst c24
                have H1 : (if (t594.length : Int) > (t586.length : Int) then (some false) else (if 0 ≤ (t594.length : Int) then (if (t594.length : Int) ≤ (t586.length : Int) then ((laws_wnTexts.f kj4 t594 (t586.take ((t594.length : Int) : Int).toNat)).bind fun t606 => (if t606 = true then (if t592 = true then (if t591 = true then (if t589 = t583 then ((laws_wnTexts.f kj4 t586 t574).bind fun t607 => (some t607)) else (some false)) else (some false)) else (some false)) else (some false))) else (none)) else (none))) = some r := by rw [if_neg (show ¬ (false = true) by decide)] at H; exact H
                clear H
                have H := H1
                clear H1
                by_cases c36 : (t594.length : Int) > (t586.length : Int)
                · rw [if_pos c36] at H
                  have c36b0 : decide ((t586.length : Int) < (t594.length : Int)) = true := decide_eq_true c36
                  have c36b1 : decide (t586.length < t594.length) = true := decide_eq_true (Int.ofNat_lt.mp c36)
                  clear c36
                  obtain rfl := Option.some.inj H
                  exact absurd hr (by simp)
                · rw [if_neg c36] at H
                  have c36b0 : decide ((t586.length : Int) < (t594.length : Int)) = false := decide_eq_false c36
                  have c36b1 : decide (t586.length < t594.length) = false := decide_eq_false (fun h => c36 (Int.ofNat_lt.mpr h))
                  clear c36
                  by_cases c48 : 0 ≤ (t594.length : Int)
                  · rw [if_pos c48] at H
                    have c48b0 := eq_true c48
                    have c48b1 : decide (0 ≤ (t594.length : Int)) = true := decide_eq_true c48
                    clear c48
                    by_cases c49 : (t594.length : Int) ≤ (t586.length : Int)
                    · rw [if_pos c49] at H
                      have c49b0 := eq_true c49
                      have c49b1 : decide ((t594.length : Int) ≤ (t586.length : Int)) = true := decide_eq_true c49
                      clear c49
                      obtain ⟨y602, hy602⟩ : ∃ y_ : List (List Int), y_ = (t586.take ((t594.length : Int) : Int).toNat) := ⟨_, rfl⟩
                      replace H : ((laws_wnTexts.f kj4 t594 y602).bind fun t606 => (if t606 = true then (if t592 = true then (if t591 = true then (if t589 = t583 then ((laws_wnTexts.f kj4 t586 t574).bind fun t607 => (some t607)) else (some false)) else (some false)) else (some false)) else (some false))) = some r := by first | (rw [hy602]; with_reducible exact H) | (have H2_ := (Option.bind_some _ _).symm.trans H; rw [hy602]; with_reducible exact H2_) | (have H2_ := (Option.bind_some _ _).symm.trans H; with_reducible exact H2_) | with_reducible exact H | (rw [hy602]; exact H) | exact H
                      have Ny602 := Aside0.mk hy602
                      clear hy602
                      replace H := Option.bind_eq_some_iff.mp H
                      obtain ⟨t606, A500, H⟩ := H
                      replace H : (if t606 = true then (if t592 = true then (if t591 = true then (if t589 = t583 then ((laws_wnTexts.f kj4 t586 t574).bind fun t607 => (some t607)) else (some false)) else (some false)) else (some false)) else (some false)) = some r := H
                      have A50 := Aside0.mk A500
                      clear A500
                      by_cases c51 : t606 = true
                      · subst c51
                        have H1 : (if t592 = true then (if t591 = true then (if t589 = t583 then ((laws_wnTexts.f kj4 t586 t574).bind fun t607 => (some t607)) else (some false)) else (some false)) else (some false)) = some r := by rw [if_pos rfl] at H; exact H
                        clear H
                        have H := H1
                        clear H1
                        by_cases c52 : t592 = true
                        · subst c52
                          have H1 : (if t591 = true then (if t589 = t583 then ((laws_wnTexts.f kj4 t586 t574).bind fun t607 => (some t607)) else (some false)) else (some false)) = some r := by rw [if_pos rfl] at H; exact H
                          clear H
                          have H := H1
                          clear H1
                          by_cases c53 : t591 = true
                          · subst c53
                            have H1 : (if t589 = t583 then ((laws_wnTexts.f kj4 t586 t574).bind fun t607 => (some t607)) else (some false)) = some r := by rw [if_pos rfl] at H; exact H
                            clear H
                            have H := H1
                            clear H1
                            by_cases c54 : t589 = t583
                            · rw [if_pos c54] at H
                              have c54b0 : (t589 == t583) = true := beq_iff_eq.mpr c54
                              have c54b1 : (t589 != t583) = false := bne_eq_false_iff_eq.mpr c54
                              clear c54
                              replace H := Option.bind_eq_some_iff.mp H
                              obtain ⟨t607, A550, H⟩ := H
                              replace H : (some t607) = some r := H
                              have A55 := Aside0.mk A550
                              clear A550
                              obtain rfl := Option.some.inj H
                              try go_wp2_with (first | ((with_reducible refine gate_callee (f := 10) rfl ?_); refine goesL_ (some 55) rfl rfl Try.func10 (by kernel_rfl) rfl #[.int .i64 t573, .slice Ao7 t574.length co7, .slice Ao8 t575.length co8, .slice Ao9 t576.length co9, .int .i64 t583] rfl (by (try simp only [List.map_toArray, List.map_cons, List.map_nil]); first | done | rfl | (simp only [List.length_drop, List.length_take]; rfl)) ?_; (with_reducible refine (impl_RunLink.calls kj4 t573 _ _ t574 _ _ t575 _ _ t576 t583 t586 t589 t590 true true _ ?side1 ?side2 ?side3 ?side4 ?side5 ?side6 A20.out).mono ?_); (case side1 => repeat (first | exact (Kd.S_reads' HO_4.out).2.2 | (with_reducible refine Kd.C_alloc ?_ _) | (with_reducible refine Kd.C_drewN ?_ _) | (with_reducible refine Kd.C_drew ?_))); (case side2 => exact (Kd.S_reads' HO_4.out).2.1); (case side3 => repeat (first | exact (Kd.R_reads' HO_5.out).2.2 | (with_reducible refine Kd.C_alloc ?_ _) | (with_reducible refine Kd.C_drewN ?_ _) | (with_reducible refine Kd.C_drew ?_))); (case side4 => exact (Kd.R_reads' HO_5.out).2.1); (case side5 => repeat (first | exact (Kd.R_reads' HO_6.out).2.2 | (with_reducible refine Kd.C_alloc ?_ _) | (with_reducible refine Kd.C_drewN ?_ _) | (with_reducible refine Kd.C_drew ?_))); (case side6 => exact (Kd.R_reads' HO_6.out).2.1); rintro e w56 ⟨v587, rfl, ho0, hb⟩; refine ⟨_, rfl, ?_⟩; have n0_ := Aside0.mk (Kd.S_elder' (by (with_reducible repeat (first | apply Kd.S_alloc | apply Kd.S_drewN | apply Kd.S_drew)); exact HO_4.out) (Kd.S_base ho0) hb); have n1_ := Aside0.mk (Kd.R_below (by (with_reducible repeat (first | apply Kd.R_alloc | apply Kd.R_drewN | apply Kd.R_drew)); exact HO_5.out) hb); have n2_ := Aside0.mk (Kd.R_below (by (with_reducible repeat (first | apply Kd.R_alloc | apply Kd.R_drewN | apply Kd.R_drew)); exact HO_6.out) hb); have n3_ := Aside0.mk (Kd.S_lower (Kd.S_new' ho0 (Kd.S_lt (by (with_reducible repeat (first | apply Kd.S_alloc | apply Kd.S_drewN | apply Kd.S_drew)); exact HO_4.out))) (below_size (by repeat (first | (with_reducible first | exact HB.out | apply below_alloc | apply pw_below_drewN | apply below_drew1) | exact HB.out)))); have n4_ := Aside0.mk (below_step (by repeat (first | (with_reducible first | exact HB.out | apply below_alloc | apply pw_below_drewN | apply below_drew1) | exact HB.out)) hb); clear HO_4; clear HO_5; clear HO_6; clear HB; have HO_4 := n0_; have HO_5 := n1_; have HO_6 := n2_; have HO588 := n3_; have HB := n4_; clear n0_ n1_ n2_ n3_ n4_; (try clear hb); (try clear hb2); (try clear hk); (try clear hi); (try clear ho0)) | ((with_reducible refine gate_dst (N := 8) rfl ?_); (try (refine gate_guard (by rfl) ?_; dsimp only)); refine box_event ?hg (N := 8) ?hd (cs := #[.slice none 0 0, .int .i64 0, .int .i64 0, .bool false]) (t := 28) ?hr ?_; (case hd => rfl); (case hg => rfl); (case hr => first | (go_simp; done) | (go_simp; rfl)); intro gb593 hg w57 hbox hb; have n0_ := Aside0.mk (Kd.S_below (by (with_reducible repeat (first | apply Kd.S_alloc | apply Kd.S_drewN | apply Kd.S_drew)); exact HO_4.out) hb); have n1_ := Aside0.mk (Kd.R_below (by (with_reducible repeat (first | apply Kd.R_alloc | apply Kd.R_drewN | apply Kd.R_drew)); exact HO_5.out) hb); have n2_ := Aside0.mk (Kd.R_below (by (with_reducible repeat (first | apply Kd.R_alloc | apply Kd.R_drewN | apply Kd.R_drew)); exact HO_6.out) hb); have n3_ := Aside0.mk (Kd.S_below (by (with_reducible repeat (first | apply Kd.S_alloc | apply Kd.S_drewN | apply Kd.S_drew)); exact HO588.out) hb); have n4_ := Aside0.mk (below_step (by repeat (first | (with_reducible first | exact HB.out | apply below_alloc | apply pw_below_drewN | apply below_drew1) | exact HB.out)) hb); have n5_ := Aside0.mk (hbox); have n6_ := Aside0.mk ((by rw [hg]; exact (below_size (by repeat (first | (with_reducible first | exact HB.out | apply below_alloc | apply pw_below_drewN | apply below_drew1) | exact HB.out))) : w.heap.size ≤ gb593)); have n7_ := Aside0.mk ((by rw [hg]; exact (below_size (by repeat (first | (with_reducible first | exact HB.out | apply below_alloc | apply pw_below_drewN | apply below_drew1) | exact HB.out))) : w.heap.size ≤ gb593)); clear HO_4; clear HO_5; clear HO_6; clear HO588; clear HB; have HO_4 := n0_; have HO_5 := n1_; have HO_6 := n2_; have HO588 := n3_; have HB := n4_; have BK593 := n5_; have GW593 := n6_; have GE593 := n7_; clear n0_ n1_ n2_ n3_ n4_ n5_ n6_ n7_; clear hb hbox hg; obtain ⟨Ao58, co58, eo58⟩ := Kd.S_slice HO588.out; subst eo58; have hcz59_0 : w57.cell? ⟨gb593, 0, none⟩ = some (.slice none 0 0) := (blk_cell BK593.out 0).trans rfl; have hcz59_1 : w57.cell? ⟨gb593, 1, none⟩ = some (.int .i64 0) := (blk_cell BK593.out 1).trans rfl; have hcz59_2 : w57.cell? ⟨gb593, 2, none⟩ = some (.int .i64 0) := (blk_cell BK593.out 2).trans rfl; have hcz59_3 : w57.cell? ⟨gb593, 3, none⟩ = some (.bool false) := (blk_cell BK593.out 3).trans rfl; have hfz59_0 := blk_frozen BK593.out 0; have hfz59_1 := blk_frozen BK593.out 1; have hfz59_2 := blk_frozen BK593.out 2; have hfz59_3 := blk_frozen BK593.out 3) | ((with_reducible refine gate_callee (f := 10) rfl ?_); refine goesL_ (some 67) rfl rfl Try.func10 (by kernel_rfl) rfl #[.int .i64 t573, .slice Ao7 t574.length co7, .slice Ao8 t575.length co8, .slice Ao9 t576.length co9, .int .i64 (wrap64 (t583 - 1))] rfl (by (try simp only [List.map_toArray, List.map_cons, List.map_nil]); first | done | rfl | (simp only [List.length_drop, List.length_take]; rfl)) ?_; (with_reducible refine (impl_RunLink.calls kj4 t573 _ _ t574 _ _ t575 _ _ t576 (wrap64 (t583 - 1)) t594 t597 t598 false true _ ?side1 ?side2 ?side3 ?side4 ?side5 ?side6 A22.out).mono ?_); (case side1 => refine (Kd.S_reads' (e := 22) (base := w.heap.size) (ok := fun k_ => (True ∧ some k_ ≠ (.slice Ao58 t586.length co58 : Value).ownBlock)) (n := t574.length) (c := co7) ?_).2.2; exact (by (with_reducible repeat (first | apply Kd.S_alloc | apply Kd.S_drewN | apply Kd.S_drew)); exact (Kd.S_mono (Kd.S_far (p := ⟨gb593, 3, none⟩) (Kd.S_far (p := ⟨gb593, 2, none⟩) (Kd.S_far (p := ⟨gb593, 1, none⟩) (Kd.S_far (p := ⟨gb593, 0, none⟩) (Kd.S_types HO_4.out BK593.out (by decide)) (fun _ hk => hk.2) (.slice Ao58 t586.length co58)) (fun _ hk => hk.2) (.int .i64 t589)) (fun _ hk => hk.2) (.int .i64 t590)) (fun _ hk => hk.2) (.bool true)) (fun _ h_ => h_.1)))); (case side2 => exact (Kd.S_reads' HO_4.out).2.1); (case side3 => refine (Kd.R_reads' (e := 3) (base := w.heap.size) (ok := fun k_ => some k_ ≠ (.slice Ao9 t576.length co9 : Value).ownBlock) (n := t575.length) (c := co8) ?_).2.2; exact (by (with_reducible repeat (first | apply Kd.R_alloc | apply Kd.R_drewN | apply Kd.R_drew)); exact (Kd.R_mono (Kd.R_far (p := ⟨gb593, 3, none⟩) (Kd.R_far (p := ⟨gb593, 2, none⟩) (Kd.R_far (p := ⟨gb593, 1, none⟩) (Kd.R_far (p := ⟨gb593, 0, none⟩) (Kd.R_types HO_5.out BK593.out (by decide)) (fun _ hk => hk.2) (.slice Ao58 t586.length co58)) (fun _ hk => hk.2) (.int .i64 t589)) (fun _ hk => hk.2) (.int .i64 t590)) (fun _ hk => hk.2) (.bool true)) (fun _ h_ => h_.1)))); (case side4 => exact (Kd.R_reads' HO_5.out).2.1); (case side5 => refine (Kd.R_reads' (e := 3) (base := w.heap.size) (ok := fun k_ => some k_ ≠ (.slice Ao8 t575.length co8 : Value).ownBlock) (n := t576.length) (c := co9) ?_).2.2; exact (by (with_reducible repeat (first | apply Kd.R_alloc | apply Kd.R_drewN | apply Kd.R_drew)); exact (Kd.R_mono (Kd.R_far (p := ⟨gb593, 3, none⟩) (Kd.R_far (p := ⟨gb593, 2, none⟩) (Kd.R_far (p := ⟨gb593, 1, none⟩) (Kd.R_far (p := ⟨gb593, 0, none⟩) (Kd.R_types HO_6.out BK593.out (by decide)) (fun _ hk => hk.2) (.slice Ao58 t586.length co58)) (fun _ hk => hk.2) (.int .i64 t589)) (fun _ hk => hk.2) (.int .i64 t590)) (fun _ hk => hk.2) (.bool true)) (fun _ h_ => h_.1)))); (case side6 => exact (Kd.R_reads' HO_6.out).2.1); rintro e w60 ⟨v595, rfl, ho0, hb⟩; refine ⟨_, rfl, ?_⟩; have n0_ := Aside0.mk (Kd.S_elder' (by (with_reducible repeat (first | apply Kd.S_alloc | apply Kd.S_drewN | apply Kd.S_drew)); exact (Kd.S_mono (Kd.S_far (p := ⟨gb593, 3, none⟩) (Kd.S_far (p := ⟨gb593, 2, none⟩) (Kd.S_far (p := ⟨gb593, 1, none⟩) (Kd.S_far (p := ⟨gb593, 0, none⟩) (Kd.S_types HO_4.out BK593.out (by decide)) (fun _ hk => hk.2) (.slice Ao58 t586.length co58)) (fun _ hk => hk.2) (.int .i64 t589)) (fun _ hk => hk.2) (.int .i64 t590)) (fun _ hk => hk.2) (.bool true)) (fun _ h_ => h_.1))) (Kd.S_base ho0) hb); have n1_ := Aside0.mk (Kd.R_below (by (with_reducible repeat (first | apply Kd.R_alloc | apply Kd.R_drewN | apply Kd.R_drew)); exact (Kd.R_mono (Kd.R_far (p := ⟨gb593, 3, none⟩) (Kd.R_far (p := ⟨gb593, 2, none⟩) (Kd.R_far (p := ⟨gb593, 1, none⟩) (Kd.R_far (p := ⟨gb593, 0, none⟩) (Kd.R_types HO_5.out BK593.out (by decide)) (fun _ hk => hk.2) (.slice Ao58 t586.length co58)) (fun _ hk => hk.2) (.int .i64 t589)) (fun _ hk => hk.2) (.int .i64 t590)) (fun _ hk => hk.2) (.bool true)) (fun _ h_ => h_.1))) hb); have n2_ := Aside0.mk (Kd.R_below (by (with_reducible repeat (first | apply Kd.R_alloc | apply Kd.R_drewN | apply Kd.R_drew)); exact (Kd.R_mono (Kd.R_far (p := ⟨gb593, 3, none⟩) (Kd.R_far (p := ⟨gb593, 2, none⟩) (Kd.R_far (p := ⟨gb593, 1, none⟩) (Kd.R_far (p := ⟨gb593, 0, none⟩) (Kd.R_types HO_6.out BK593.out (by decide)) (fun _ hk => hk.2) (.slice Ao58 t586.length co58)) (fun _ hk => hk.2) (.int .i64 t589)) (fun _ hk => hk.2) (.int .i64 t590)) (fun _ hk => hk.2) (.bool true)) (fun _ h_ => h_.1))) hb); have n3_ := Aside0.mk (Kd.S_elder' (by (with_reducible repeat (first | apply Kd.S_alloc | apply Kd.S_drewN | apply Kd.S_drew)); exact (Kd.S_mono (Kd.S_far (p := ⟨gb593, 3, none⟩) (Kd.S_far (p := ⟨gb593, 2, none⟩) (Kd.S_far (p := ⟨gb593, 1, none⟩) (Kd.S_far (p := ⟨gb593, 0, none⟩) (Kd.S_types HO588.out BK593.out (by decide)) (fun _ hk => hk.2) (.slice Ao58 t586.length co58)) (fun _ hk => hk.2) (.int .i64 t589)) (fun _ hk => hk.2) (.int .i64 t590)) (fun _ hk => hk.2) (.bool true)) (fun _ h_ => h_.1))) (Kd.S_base ho0) hb); have n4_ := Aside0.mk (Kd.S_lower (Kd.S_new' (Kd.S_new' ho0 (Kd.S_lt (by (with_reducible repeat (first | apply Kd.S_alloc | apply Kd.S_drewN | apply Kd.S_drew)); exact (Kd.S_mono (Kd.S_far (p := ⟨gb593, 3, none⟩) (Kd.S_far (p := ⟨gb593, 2, none⟩) (Kd.S_far (p := ⟨gb593, 1, none⟩) (Kd.S_far (p := ⟨gb593, 0, none⟩) (Kd.S_types HO_4.out BK593.out (by decide)) (fun _ hk => hk.2) (.slice Ao58 t586.length co58)) (fun _ hk => hk.2) (.int .i64 t589)) (fun _ hk => hk.2) (.int .i64 t590)) (fun _ hk => hk.2) (.bool true)) (fun _ h_ => h_.1))))) (Kd.S_lt (by (with_reducible repeat (first | apply Kd.S_alloc | apply Kd.S_drewN | apply Kd.S_drew)); exact (Kd.S_mono (Kd.S_far (p := ⟨gb593, 3, none⟩) (Kd.S_far (p := ⟨gb593, 2, none⟩) (Kd.S_far (p := ⟨gb593, 1, none⟩) (Kd.S_far (p := ⟨gb593, 0, none⟩) (Kd.S_types HO588.out BK593.out (by decide)) (fun _ hk => hk.2) (.slice Ao58 t586.length co58)) (fun _ hk => hk.2) (.int .i64 t589)) (fun _ hk => hk.2) (.int .i64 t590)) (fun _ hk => hk.2) (.bool true)) (fun _ h_ => h_.1))))) (below_size (by repeat (first | (with_reducible first | exact HB.out | apply below_alloc | apply pw_below_drewN | apply below_drew1 | refine below_set ?_ GE593.out) | exact HB.out)))); have n5_ := Aside0.mk (blk_below (g := gb593) (o := .cells #[.slice Ao58 t586.length co58, .int .i64 t589, .int .i64 t590, .bool true] 28 (0, 0)) (by (with_reducible repeat (first | refine blk_drewN ?_ _ | refine blk_drew ?_ | refine blk_alloc ?_ _)); refine blk_put (cs := #[.slice Ao58 t586.length co58, .int .i64 t589, .int .i64 t590, .bool false]) ?_ 3 _ rfl; (with_reducible repeat (first | refine blk_drewN ?_ _ | refine blk_drew ?_ | refine blk_alloc ?_ _)); refine blk_put (cs := #[.slice Ao58 t586.length co58, .int .i64 t589, .int .i64 0, .bool false]) ?_ 2 _ rfl; (with_reducible repeat (first | refine blk_drewN ?_ _ | refine blk_drew ?_ | refine blk_alloc ?_ _)); refine blk_put (cs := #[.slice Ao58 t586.length co58, .int .i64 0, .int .i64 0, .bool false]) ?_ 1 _ rfl; (with_reducible repeat (first | refine blk_drewN ?_ _ | refine blk_drew ?_ | refine blk_alloc ?_ _)); refine blk_put (cs := #[.slice none 0 0, .int .i64 0, .int .i64 0, .bool false]) ?_ 0 _ rfl; (with_reducible repeat (first | refine blk_drewN ?_ _ | refine blk_drew ?_ | refine blk_alloc ?_ _)); exact BK593.out) hb); have n6_ := Aside0.mk (below_step (by repeat (first | (with_reducible first | exact HB.out | apply below_alloc | apply pw_below_drewN | apply below_drew1 | refine below_set ?_ GE593.out) | exact HB.out)) hb); clear HO_4; clear HO_5; clear HO_6; clear HO588; clear BK593; clear HB; have HO_4 := n0_; have HO_5 := n1_; have HO_6 := n2_; have HO588 := n3_; have HO596 := n4_; have BK593 := n5_; have HB := n6_; clear n0_ n1_ n2_ n3_ n4_ n5_ n6_; (try clear hb); (try clear hb2); (try clear hk); (try clear hi); (try clear ho0)) | ((with_reducible refine gate_dst (N := 10) rfl ?_); (try (refine gate_guard (by rfl) ?_; dsimp only)); refine box_event ?hg (N := 10) ?hd (cs := #[.slice none 0 0, .int .i64 0, .int .i64 0, .bool false]) (t := 28) ?hr ?_; (case hd => rfl); (case hg => rfl); (case hr => first | (go_simp; done) | (go_simp; rfl)); intro gb601 hg w61 hbox hb; have n0_ := Aside0.mk (Kd.S_below (by (with_reducible repeat (first | apply Kd.S_alloc | apply Kd.S_drewN | apply Kd.S_drew)); exact HO_4.out) hb); have n1_ := Aside0.mk (Kd.R_below (by (with_reducible repeat (first | apply Kd.R_alloc | apply Kd.R_drewN | apply Kd.R_drew)); exact HO_5.out) hb); have n2_ := Aside0.mk (Kd.R_below (by (with_reducible repeat (first | apply Kd.R_alloc | apply Kd.R_drewN | apply Kd.R_drew)); exact HO_6.out) hb); have n3_ := Aside0.mk (Kd.S_below (by (with_reducible repeat (first | apply Kd.S_alloc | apply Kd.S_drewN | apply Kd.S_drew)); exact HO588.out) hb); have n4_ := Aside0.mk (Kd.S_below (by (with_reducible repeat (first | apply Kd.S_alloc | apply Kd.S_drewN | apply Kd.S_drew)); exact HO596.out) hb); have n5_ := Aside0.mk (blk_below (g := gb593) (o := .cells #[.slice Ao58 t586.length co58, .int .i64 t589, .int .i64 t590, .bool true] 28 (0, 0)) (by (with_reducible repeat (first | refine blk_drewN ?_ _ | refine blk_drew ?_ | refine blk_alloc ?_ _)); exact BK593.out) hb); have n6_ := Aside0.mk (below_step (by repeat (first | (with_reducible first | exact HB.out | apply below_alloc | apply pw_below_drewN | apply below_drew1 | refine below_set ?_ GE593.out) | exact HB.out)) hb); have n7_ := Aside0.mk (hbox); have n8_ := Aside0.mk ((by rw [hg]; exact (below_size (by repeat (first | (with_reducible first | exact HB.out | apply below_alloc | apply pw_below_drewN | apply below_drew1 | refine below_set ?_ GE593.out) | exact HB.out))) : w.heap.size ≤ gb601)); have n9_ := Aside0.mk ((by rw [hg]; exact (below_size (by repeat (first | (with_reducible first | exact HB.out | apply below_alloc | apply pw_below_drewN | apply below_drew1 | refine below_set ?_ GE593.out) | exact HB.out))) : w.heap.size ≤ gb601)); have n10_ := Aside0.mk ((by rw [hg]; exact Nat.ne_of_lt (blk_lt (g := gb593) (o := .cells #[.slice Ao58 t586.length co58, .int .i64 t589, .int .i64 t590, .bool true] 28 (0, 0)) (by (with_reducible repeat (first | refine blk_drewN ?_ _ | refine blk_drew ?_ | refine blk_alloc ?_ _)); exact BK593.out)) : gb593 ≠ gb601)); have n11_ := Aside0.mk ((by rw [hg]; exact Nat.ne_of_gt (blk_lt (g := gb593) (o := .cells #[.slice Ao58 t586.length co58, .int .i64 t589, .int .i64 t590, .bool true] 28 (0, 0)) (by (with_reducible repeat (first | refine blk_drewN ?_ _ | refine blk_drew ?_ | refine blk_alloc ?_ _)); exact BK593.out)) : gb601 ≠ gb593)); clear HO_4; clear HO_5; clear HO_6; clear HO588; clear HO596; clear BK593; clear HB; have HO_4 := n0_; have HO_5 := n1_; have HO_6 := n2_; have HO588 := n3_; have HO596 := n4_; have BK593 := n5_; have HB := n6_; have BK601 := n7_; have GW601 := n8_; have GE601 := n9_; have NB593_601 := n10_; have NB601_593 := n11_; clear n0_ n1_ n2_ n3_ n4_ n5_ n6_ n7_ n8_ n9_ n10_ n11_; clear hb hbox hg; obtain ⟨Ao62, co62, eo62⟩ := Kd.S_slice HO596.out; subst eo62; have hnb63 := NB601_593.out; have hnc63 := NB593_601.out; have hcz64_0 : w61.cell? ⟨gb601, 0, none⟩ = some (.slice none 0 0) := (blk_cell BK601.out 0).trans rfl; have hcz64_1 : w61.cell? ⟨gb601, 1, none⟩ = some (.int .i64 0) := (blk_cell BK601.out 1).trans rfl; have hcz64_2 : w61.cell? ⟨gb601, 2, none⟩ = some (.int .i64 0) := (blk_cell BK601.out 2).trans rfl; have hcz64_3 : w61.cell? ⟨gb601, 3, none⟩ = some (.bool false) := (blk_cell BK601.out 3).trans rfl; have hfz64_0 := blk_frozen BK601.out 0; have hfz64_1 := blk_frozen BK601.out 1; have hfz64_2 := blk_frozen BK601.out 2; have hfz64_3 := blk_frozen BK601.out 3))
                              have n0_ : Aside0 (Kd.S (Kd.slice 5 (Kd.int .u8)) 22 ((((w61.setCell ⟨gb601, 0, none⟩ (.slice Ao62 t594.length co62)).setCell ⟨gb601, 1, none⟩ (.int .i64 t597)).setCell ⟨gb601, 2, none⟩ (.int .i64 t598)).setCell ⟨gb601, 3, none⟩ (.bool false)) w.heap.size (fun k_ => some k_ ≠ (.slice Ao58 t586.length co58 : Value).ownBlock ∧ some k_ ≠ (.slice Ao62 t594.length co62 : Value).ownBlock) (.slice Ao7 t574.length co7) t574) := ⟨by (with_reducible repeat (first | apply Kd.S_alloc | apply Kd.S_drewN | apply Kd.S_drew)); exact Kd.S_mono (Kd.S_far (p := ⟨gb601, 3, none⟩) (Kd.S_far (p := ⟨gb601, 2, none⟩) (Kd.S_far (p := ⟨gb601, 1, none⟩) (Kd.S_far (p := ⟨gb601, 0, none⟩) (Kd.S_types HO_4.out BK601.out (by decide)) (fun _ hk => hk.2) (.slice Ao62 t594.length co62)) (fun _ hk => hk.2) (.int .i64 t597)) (fun _ hk => hk.2) (.int .i64 t598)) (fun _ hk => hk.2) (.bool false)) (fun _ hk => ⟨hk.1.1.2, hk.1.2⟩)⟩
                              have n1_ : Aside0 (Kd.R (Kd.int .i64) 3 ((((w61.setCell ⟨gb601, 0, none⟩ (.slice Ao62 t594.length co62)).setCell ⟨gb601, 1, none⟩ (.int .i64 t597)).setCell ⟨gb601, 2, none⟩ (.int .i64 t598)).setCell ⟨gb601, 3, none⟩ (.bool false)) w.heap.size (fun k_ => some k_ ≠ (.slice Ao9 t576.length co9 : Value).ownBlock) (.slice Ao8 t575.length co8) t575) := ⟨by (with_reducible repeat (first | apply Kd.R_alloc | apply Kd.R_drewN | apply Kd.R_drew)); exact Kd.R_mono (Kd.R_far (p := ⟨gb601, 3, none⟩) (Kd.R_far (p := ⟨gb601, 2, none⟩) (Kd.R_far (p := ⟨gb601, 1, none⟩) (Kd.R_far (p := ⟨gb601, 0, none⟩) (Kd.R_types HO_5.out BK601.out (by decide)) (fun _ hk => hk.2) (.slice Ao62 t594.length co62)) (fun _ hk => hk.2) (.int .i64 t597)) (fun _ hk => hk.2) (.int .i64 t598)) (fun _ hk => hk.2) (.bool false)) (fun _ hk => hk.1)⟩
                              have n2_ : Aside0 (Kd.R (Kd.int .i64) 3 ((((w61.setCell ⟨gb601, 0, none⟩ (.slice Ao62 t594.length co62)).setCell ⟨gb601, 1, none⟩ (.int .i64 t597)).setCell ⟨gb601, 2, none⟩ (.int .i64 t598)).setCell ⟨gb601, 3, none⟩ (.bool false)) w.heap.size (fun k_ => some k_ ≠ (.slice Ao8 t575.length co8 : Value).ownBlock) (.slice Ao9 t576.length co9) t576) := ⟨by (with_reducible repeat (first | apply Kd.R_alloc | apply Kd.R_drewN | apply Kd.R_drew)); exact Kd.R_mono (Kd.R_far (p := ⟨gb601, 3, none⟩) (Kd.R_far (p := ⟨gb601, 2, none⟩) (Kd.R_far (p := ⟨gb601, 1, none⟩) (Kd.R_far (p := ⟨gb601, 0, none⟩) (Kd.R_types HO_6.out BK601.out (by decide)) (fun _ hk => hk.2) (.slice Ao62 t594.length co62)) (fun _ hk => hk.2) (.int .i64 t597)) (fun _ hk => hk.2) (.int .i64 t598)) (fun _ hk => hk.2) (.bool false)) (fun _ hk => hk.1)⟩
                              have n3_ : Aside0 (Kd.S (Kd.slice 5 (Kd.int .u8)) 22 ((((w61.setCell ⟨gb601, 0, none⟩ (.slice Ao62 t594.length co62)).setCell ⟨gb601, 1, none⟩ (.int .i64 t597)).setCell ⟨gb601, 2, none⟩ (.int .i64 t598)).setCell ⟨gb601, 3, none⟩ (.bool false)) w.heap.size (fun k_ => some k_ ≠ (.slice Ao7 t574.length co7 : Value).ownBlock ∧ some k_ ≠ (.slice Ao62 t594.length co62 : Value).ownBlock) (.slice Ao58 t586.length co58) t586) := ⟨by (with_reducible repeat (first | apply Kd.S_alloc | apply Kd.S_drewN | apply Kd.S_drew)); exact Kd.S_mono (Kd.S_far (p := ⟨gb601, 3, none⟩) (Kd.S_far (p := ⟨gb601, 2, none⟩) (Kd.S_far (p := ⟨gb601, 1, none⟩) (Kd.S_far (p := ⟨gb601, 0, none⟩) (Kd.S_types HO588.out BK601.out (by decide)) (fun _ hk => hk.2) (.slice Ao62 t594.length co62)) (fun _ hk => hk.2) (.int .i64 t597)) (fun _ hk => hk.2) (.int .i64 t598)) (fun _ hk => hk.2) (.bool false)) (fun _ hk => ⟨hk.1.1.2, hk.1.2⟩)⟩
                              have n4_ : Aside0 (Kd.S (Kd.slice 5 (Kd.int .u8)) 22 ((((w61.setCell ⟨gb601, 0, none⟩ (.slice Ao62 t594.length co62)).setCell ⟨gb601, 1, none⟩ (.int .i64 t597)).setCell ⟨gb601, 2, none⟩ (.int .i64 t598)).setCell ⟨gb601, 3, none⟩ (.bool false)) w.heap.size (fun k_ => some k_ ≠ (.slice Ao7 t574.length co7 : Value).ownBlock ∧ some k_ ≠ (.slice Ao58 t586.length co58 : Value).ownBlock) (.slice Ao62 t594.length co62) t594) := ⟨by (with_reducible repeat (first | apply Kd.S_alloc | apply Kd.S_drewN | apply Kd.S_drew)); exact Kd.S_mono (Kd.S_far (p := ⟨gb601, 3, none⟩) (Kd.S_far (p := ⟨gb601, 2, none⟩) (Kd.S_far (p := ⟨gb601, 1, none⟩) (Kd.S_far (p := ⟨gb601, 0, none⟩) (Kd.S_types HO596.out BK601.out (by decide)) (fun _ hk => hk.2) (.slice Ao62 t594.length co62)) (fun _ hk => hk.2) (.int .i64 t597)) (fun _ hk => hk.2) (.int .i64 t598)) (fun _ hk => hk.2) (.bool false)) (fun _ hk => ⟨hk.1.1.2, hk.1.2⟩)⟩
                              have n5_ : Aside0 (((((w61.setCell ⟨gb601, 0, none⟩ (.slice Ao62 t594.length co62)).setCell ⟨gb601, 1, none⟩ (.int .i64 t597)).setCell ⟨gb601, 2, none⟩ (.int .i64 t598)).setCell ⟨gb601, 3, none⟩ (.bool false)).heap[gb593]? = some (.cells #[.slice Ao58 t586.length co58, .int .i64 t589, .int .i64 t590, .bool true] 28 (0, 0))) := ⟨by (with_reducible repeat (first | refine blk_drewN ?_ _ | refine blk_drew ?_ | refine blk_alloc ?_ _)); refine blk_far ?_ NB593_601.out _; (with_reducible repeat (first | refine blk_drewN ?_ _ | refine blk_drew ?_ | refine blk_alloc ?_ _)); refine blk_far ?_ NB593_601.out _; (with_reducible repeat (first | refine blk_drewN ?_ _ | refine blk_drew ?_ | refine blk_alloc ?_ _)); refine blk_far ?_ NB593_601.out _; (with_reducible repeat (first | refine blk_drewN ?_ _ | refine blk_drew ?_ | refine blk_alloc ?_ _)); refine blk_far ?_ NB593_601.out _; (with_reducible repeat (first | refine blk_drewN ?_ _ | refine blk_drew ?_ | refine blk_alloc ?_ _)); exact BK593.out⟩
                              have n6_ : Aside0 (((((w61.setCell ⟨gb601, 0, none⟩ (.slice Ao62 t594.length co62)).setCell ⟨gb601, 1, none⟩ (.int .i64 t597)).setCell ⟨gb601, 2, none⟩ (.int .i64 t598)).setCell ⟨gb601, 3, none⟩ (.bool false)).heap[gb601]? = some (.cells #[.slice Ao62 t594.length co62, .int .i64 t597, .int .i64 t598, .bool false] 28 (0, 0))) := ⟨by (with_reducible repeat (first | refine blk_drewN ?_ _ | refine blk_drew ?_ | refine blk_alloc ?_ _)); refine blk_put (cs := #[.slice Ao62 t594.length co62, .int .i64 t597, .int .i64 t598, .bool false]) ?_ 3 _ rfl; (with_reducible repeat (first | refine blk_drewN ?_ _ | refine blk_drew ?_ | refine blk_alloc ?_ _)); refine blk_put (cs := #[.slice Ao62 t594.length co62, .int .i64 t597, .int .i64 0, .bool false]) ?_ 2 _ rfl; (with_reducible repeat (first | refine blk_drewN ?_ _ | refine blk_drew ?_ | refine blk_alloc ?_ _)); refine blk_put (cs := #[.slice Ao62 t594.length co62, .int .i64 0, .int .i64 0, .bool false]) ?_ 1 _ rfl; (with_reducible repeat (first | refine blk_drewN ?_ _ | refine blk_drew ?_ | refine blk_alloc ?_ _)); refine blk_put (cs := #[.slice none 0 0, .int .i64 0, .int .i64 0, .bool false]) ?_ 0 _ rfl; (with_reducible repeat (first | refine blk_drewN ?_ _ | refine blk_drew ?_ | refine blk_alloc ?_ _)); exact BK601.out⟩
                              have n7_ : Aside0 (Below w.heap.size w ((((w61.setCell ⟨gb601, 0, none⟩ (.slice Ao62 t594.length co62)).setCell ⟨gb601, 1, none⟩ (.int .i64 t597)).setCell ⟨gb601, 2, none⟩ (.int .i64 t598)).setCell ⟨gb601, 3, none⟩ (.bool false))) := ⟨by repeat (first | (with_reducible first | exact HB.out | apply below_alloc | apply pw_below_drewN | apply below_drew1 | refine below_set ?_ GE593.out | refine below_set ?_ GE601.out) | exact HB.out)⟩
                              (try clear HO_4)
                              (try clear HO_5)
                              (try clear HO_6)
                              (try clear HO588)
                              (try clear HO596)
                              (try clear BK593)
                              (try clear BK601)
                              (try clear HB)
                              generalize ((((w61.setCell ⟨gb601, 0, none⟩ (.slice Ao62 t594.length co62)).setCell ⟨gb601, 1, none⟩ (.int .i64 t597)).setCell ⟨gb601, 2, none⟩ (.int .i64 t598)).setCell ⟨gb601, 3, none⟩ (.bool false)) = w65 at n0_ n1_ n2_ n3_ n4_ n5_ n6_ n7_ ⊢
                              have HO_4 := n0_
                              have HO_5 := n1_
                              have HO_6 := n2_
                              have HO588 := n3_
                              have HO596 := n4_
                              have BK593 := n5_
                              have BK601 := n6_
                              have HB := n7_
                              clear n0_ n1_ n2_ n3_ n4_ n5_ n6_ n7_
                              have n0_ := Aside0.mk (Kd.S_drew HO_4.out)
                              have n1_ := Aside0.mk (Kd.R_drew HO_5.out)
                              have n2_ := Aside0.mk (Kd.R_drew HO_6.out)
                              have n3_ := Aside0.mk (Kd.S_drew HO588.out)
                              have n4_ := Aside0.mk (Kd.S_drew HO596.out)
                              have n5_ := Aside0.mk (blk_drew BK593.out)
                              have n6_ := Aside0.mk (blk_drew BK601.out)
                              have n7_ := Aside0.mk (below_drew1 HB.out)
                              clear HO_4
                              clear HO_5
                              clear HO_6
                              clear HO588
                              clear HO596
                              clear BK593
                              clear BK601
                              clear HB
                              have HO_4 := n0_
                              have HO_5 := n1_
                              have HO_6 := n2_
                              have HO588 := n3_
                              have HO596 := n4_
                              have BK593 := n5_
                              have BK601 := n6_
                              have HB := n7_
                              clear n0_ n1_ n2_ n3_ n4_ n5_ n6_ n7_
                              have q67 : ((t594.length : Int) : Int) ≤ ((t586.length : Int) : Int) := of_decide_eq_true (by first | (with_reducible assumption) | assumption)
                              obtain ⟨i067, hi067, _, hsz67, _⟩ := info_parts info22
                              have hroom67 : t586.length ≤ co58 := (Kd.S_reads' HO588.out).2.1
                              have hC67 : Kd.C (Kd.slice 5 (Kd.int .u8)) _ Ao58 t586.length t586 := (Kd.S_reads' HO588.out).2.2
                              have hcut67 := cut_to (P := Try.prog) 23 22 .i64 Try.underlying23 hi067 Ao58 t586.length co58 (t594.length : Int) (of_decide_eq_true (by first | (with_reducible assumption) | assumption)) q67 hroom67
                              have hr67 := Kd.C_take (m := ((t594.length : Int) : Int).toNat) hC67 (by omega)
                              have hy67 : y602.length = ((t594.length : Int) : Int).toNat := (by rw [Ny602.out, List.length_take]; omega)
                              rw [← Ny602.out] at hr67
                              rw [← hy67] at hcut67
                              have HR605 := Aside0.mk hr67
                              have HC605 := Aside0.mk (show y602.length ≤ co58 from by omega)
                              clear hr67 hC67 hroom67 hi067 hsz67
                              have KY67 := Aside0.mk hy67
                              clear hy67
                              have KL67 := Aside0.mk (show ((t594.length : Int) : Int).toNat ≤ t586.length from by omega)
                              replace q67 := eq_true q67
                              refine start_ (n := 27) (S := fun w' => w'.cell? ⟨gb601, 0, none⟩ = some (.slice Ao62 t594.length co62) ∧ w'.cell? ⟨gb601, 1, none⟩ = some (.int .i64 t597) ∧ w'.cell? ⟨gb601, 2, none⟩ = some (.int .i64 t598) ∧ w'.cell? ⟨gb601, 3, none⟩ = some (.bool false) ∧ w'.cell? ⟨gb593, 0, none⟩ = some (.slice Ao58 t586.length co58) ∧ w'.cell? ⟨gb593, 1, none⟩ = some (.int .i64 t589) ∧ w'.cell? ⟨gb593, 2, none⟩ = some (.int .i64 t590) ∧ w'.cell? ⟨gb593, 3, none⟩ = some (.bool true)) (ds := []) #[false, false, false, false, false, false, false, false, false, false, false, false, false, false, false, false, false, false, false, false, false, false, false, false, false, false, false] (by kernel_rfl) rfl rfl ⟨(blk_cell BK601.out 0).trans rfl, (blk_cell BK601.out 1).trans rfl, (blk_cell BK601.out 2).trans rfl, (blk_cell BK601.out 3).trans rfl, (blk_cell BK593.out 0).trans rfl, (blk_cell BK593.out 1).trans rfl, (blk_cell BK593.out 2).trans rfl, (blk_cell BK593.out 3).trans rfl⟩ (fun hHeld => ?_); refine with_tabW laws_FnLinkRounds.tab10 laws_FnLinkRounds.bits10 (fun HT_ HW_ => ?_)
                              generalize w65.drew = w66 at HO_4 HO_5 HO_6 HO588 HO596 BK593 BK601 HB HR605 hHeld ⊢
                              refine pure_ (i := 0) (N := some 70) (v := ?_) (a' := ?_) #[true, false, false, false, false, false, false, false, false, false, false, false, false, false, false, false, false, false, false, false, false, false, false, false, false, false, false] rfl rfl (any_of HT_.out (by kernel_rfl)) (fun _ _ _ h => h) (Or.inl ⟨by rfl, ?_⟩) ?_ ?_
                              rotate_left
                              · intro w'
                                go_simp
                                with_reducible rfl
                              rotate_left
                              · simp only [Act.put, List.setIfInBounds_toArray, List.set_cons_zero, List.set_cons_succ, i64_w, i32_w]
                                rfl
                              refine pure_ (i := 1) (N := some 71) (v := ?_) (a' := ?_) #[true, true, false, false, false, false, false, false, false, false, false, false, false, false, false, false, false, false, false, false, false, false, false, false, false, false, false] rfl rfl (any_of HT_.out (by kernel_rfl)) (fun _ _ _ h => h) (Or.inl ⟨by rfl, ?_⟩) ?_ ?_
                              rotate_left
                              · intro w'
                                go_simp
                                with_reducible rfl
                              rotate_left
                              · simp only [Act.put, List.setIfInBounds_toArray, List.set_cons_zero, List.set_cons_succ, i64_w, i32_w]
                                rfl
                              refine pure_ (i := 2) (N := some 72) (v := ?_) (a' := ?_) #[true, true, true, false, false, false, false, false, false, false, false, false, false, false, false, false, false, false, false, false, false, false, false, false, false, false, false] rfl rfl (any_of HT_.out (by kernel_rfl)) (fun _ _ _ h => h) (Or.inl ⟨by rfl, ?_⟩) ?_ ?_
                              rotate_left
                              · intro w'
                                go_simp
                                with_reducible rfl
                              rotate_left
                              · simp only [Act.put, List.setIfInBounds_toArray, List.set_cons_zero, List.set_cons_succ, i64_w, i32_w]
                                rfl
                              refine pure_ (i := 3) (N := some 73) (v := ?_) (a' := ?_) #[true, true, true, true, false, false, false, false, false, false, false, false, false, false, false, false, false, false, false, false, false, false, false, false, false, false, false] rfl rfl (any_of HT_.out (by kernel_rfl)) (fun _ _ _ h => h) (Or.inl ⟨by rfl, ?_⟩) ?_ ?_
                              rotate_left
                              · intro w'
                                go_simp
                                with_reducible rfl
                              rotate_left
                              · simp only [Act.put, List.setIfInBounds_toArray, List.set_cons_zero, List.set_cons_succ, i64_w, i32_w]
                                rfl
                              refine take_ (i := 4) (N := some 74) (v := ?_) (a' := ?_) #[true, true, true, true, true, false, false, false, false, false, false, false, false, false, false, false, false, false, false, false, false, false, false, false, false, false, false] rfl rfl (take_ofW HT_.out HW_.out (by kernel_rfl)) (fun _ _ _ h => h) (Or.inl ⟨by rfl, ?_⟩) hHeld ?_ ?_
                              rotate_left
                              · rintro w' ⟨s0, s1, s2, s3, s4, s5, s6, s7⟩
                                go_simp
                                with_reducible rfl
                              rotate_left
                              · simp only [Act.put, List.setIfInBounds_toArray, List.set_cons_zero, List.set_cons_succ, i64_w, i32_w]
                                rfl
                              refine pure_ (i := 5) (N := some 75) (v := ?_) (a' := ?_) #[true, true, true, true, true, true, false, false, false, false, false, false, false, false, false, false, false, false, false, false, false, false, false, false, false, false, false] rfl rfl (any_of HT_.out (by kernel_rfl)) (fun _ _ _ h => h) (Or.inl ⟨by rfl, ?_⟩) ?_ ?_
                              rotate_left
                              · intro w'
                                go_simp
                                with_reducible rfl
                              rotate_left
                              · simp only [Act.put, List.setIfInBounds_toArray, List.set_cons_zero, List.set_cons_succ, i64_w, i32_w]
                                rfl
                              refine pure_ (i := 6) (N := some 76) (v := ?_) (a' := ?_) #[true, true, true, true, true, true, true, false, false, false, false, false, false, false, false, false, false, false, false, false, false, false, false, false, false, false, false] rfl rfl (any_of HT_.out (by kernel_rfl)) (fun _ _ _ h => h) (Or.inl ⟨by rfl, ?_⟩) ?_ ?_
                              rotate_left
                              · intro w'
                                go_simp
                                with_reducible rfl
                              rotate_left
                              · simp only [Act.put, List.setIfInBounds_toArray, List.set_cons_zero, List.set_cons_succ, i64_w, i32_w]
                                rfl
                              refine pure_ (i := 7) (N := some 77) (v := ?_) (a' := ?_) #[true, true, true, true, true, true, true, true, false, false, false, false, false, false, false, false, false, false, false, false, false, false, false, false, false, false, false] rfl rfl (any_of HT_.out (by kernel_rfl)) (fun _ _ _ h => h) (Or.inl ⟨by rfl, ?_⟩) ?_ ?_
                              rotate_left
                              · intro w'
                                go_simp
                                with_reducible rfl
                              rotate_left
                              · simp only [Act.put, List.setIfInBounds_toArray, List.set_cons_zero, List.set_cons_succ, i64_w, i32_w]
                                rfl
                              refine pure_ (i := 10) (N := some 80) (v := ?_) (a' := ?_) #[true, true, true, true, true, true, true, true, false, false, true, false, false, false, false, false, false, false, false, false, false, false, false, false, false, false, false] rfl rfl (any_of HT_.out (by kernel_rfl)) (fun _ _ _ h => h) (Or.inl ⟨by rfl, ?_⟩) ?_ ?_
                              rotate_left
                              · intro w'
                                go_simp
                                with_reducible rfl
                              rotate_left
                              · simp only [Act.put, List.setIfInBounds_toArray, List.set_cons_zero, List.set_cons_succ, i64_w, i32_w]
                                rfl
                              refine take_ (i := 8) (N := some 78) (v := ?_) (a' := ?_) #[true, true, true, true, true, true, true, true, true, false, true, false, false, false, false, false, false, false, false, false, false, false, false, false, false, false, false] rfl rfl (take_ofW HT_.out HW_.out (by kernel_rfl)) (fun _ _ _ h => h) (Or.inl ⟨by rfl, ?_⟩) hHeld ?_ ?_
                              rotate_left
                              · rintro w' ⟨s0, s1, s2, s3, s4, s5, s6, s7⟩
                                go_simp
                                with_reducible rfl
                              rotate_left
                              · simp only [Act.put, List.setIfInBounds_toArray, List.set_cons_zero, List.set_cons_succ, i64_w, i32_w]
                                rfl
                              refine pure_ (i := 9) (N := some 79) (v := ?_) (a' := ?_) #[true, true, true, true, true, true, true, true, true, true, true, false, false, false, false, false, false, false, false, false, false, false, false, false, false, false, false] rfl rfl (any_of HT_.out (by kernel_rfl)) (fun _ _ _ h => h) (Or.inl ⟨by rfl, ?_⟩) ?_ ?_
                              rotate_left
                              · intro w'
                                go_simp
                                with_reducible rfl
                              rotate_left
                              · simp only [Act.put, List.setIfInBounds_toArray, List.set_cons_zero, List.set_cons_succ, i64_w, i32_w]
                                rfl
                              refine take_ (i := 11) (N := some 81) (v := ?_) (a' := ?_) #[true, true, true, true, true, true, true, true, true, true, true, true, false, false, false, false, false, false, false, false, false, false, false, false, false, false, false] rfl rfl (take_ofW HT_.out HW_.out (by kernel_rfl)) (fun _ _ _ h => h) (Or.inl ⟨by rfl, ?_⟩) hHeld ?_ ?_
                              rotate_left
                              · rintro w' ⟨s0, s1, s2, s3, s4, s5, s6, s7⟩
                                go_simp
                                with_reducible rfl
                              rotate_left
                              · simp only [Act.put, List.setIfInBounds_toArray, List.set_cons_zero, List.set_cons_succ, i64_w, i32_w]
                                rfl
                              refine pure_ (i := 12) (N := some 82) (v := ?_) (a' := ?_) #[true, true, true, true, true, true, true, true, true, true, true, true, true, false, false, false, false, false, false, false, false, false, false, false, false, false, false] rfl rfl (any_of HT_.out (by kernel_rfl)) (fun _ _ _ h => h) (Or.inl ⟨by rfl, ?_⟩) ?_ ?_
                              rotate_left
                              · intro w'
                                go_simp
                                with_reducible rfl
                              rotate_left
                              · simp only [Act.put, List.setIfInBounds_toArray, List.set_cons_zero, List.set_cons_succ, i64_w, i32_w]
                                rfl
                              refine pure_ (i := 13) (N := some 83) (v := ?_) (a' := ?_) #[true, true, true, true, true, true, true, true, true, true, true, true, true, true, false, false, false, false, false, false, false, false, false, false, false, false, false] rfl rfl (any_of HT_.out (by kernel_rfl)) (fun _ _ _ h => h) (Or.inl ⟨by rfl, ?_⟩) ?_ ?_
                              rotate_left
                              · intro w'
                                go_simp
                                with_reducible rfl
                              rotate_left
                              · simp only [Act.put, List.setIfInBounds_toArray, List.set_cons_zero, List.set_cons_succ, i64_w, i32_w]
                                rfl
                              refine pure_ (i := 14) (N := some 84) (v := ?_) (a' := ?_) #[true, true, true, true, true, true, true, true, true, true, true, true, true, true, true, false, false, false, false, false, false, false, false, false, false, false, false] rfl rfl (any_of HT_.out (by kernel_rfl)) (fun _ _ _ h => h) (Or.inl ⟨by rfl, ?_⟩) ?_ ?_
                              rotate_left
                              · intro w'
                                go_simp
                                with_reducible rfl
                              rotate_left
                              · simp only [Act.put, List.setIfInBounds_toArray, List.set_cons_zero, List.set_cons_succ, i64_w, i32_w]
                                rfl
                              refine pure_ (i := 15) (N := some 85) (v := ?_) (a' := ?_) #[true, true, true, true, true, true, true, true, true, true, true, true, true, true, true, true, false, false, false, false, false, false, false, false, false, false, false] rfl rfl (any_of HT_.out (by kernel_rfl)) (fun _ _ _ h => h) (Or.inl ⟨by rfl, ?_⟩) ?_ ?_
                              rotate_left
                              · intro w'
                                go_simp
                                with_reducible rfl
                              rotate_left
                              · simp only [Act.put, List.setIfInBounds_toArray, List.set_cons_zero, List.set_cons_succ, i64_w, i32_w]
                                rfl
                              refine pure_ (i := 16) (N := some 86) (v := ?_) (a' := ?_) #[true, true, true, true, true, true, true, true, true, true, true, true, true, true, true, true, true, false, false, false, false, false, false, false, false, false, false] rfl rfl (any_of HT_.out (by kernel_rfl)) (fun _ _ _ h => h) (Or.inl ⟨by rfl, ?_⟩) ?_ ?_
                              rotate_left
                              · intro w'
                                go_simp
                                with_reducible rfl
                              rotate_left
                              · simp only [Act.put, List.setIfInBounds_toArray, List.set_cons_zero, List.set_cons_succ, i64_w, i32_w]
                                rfl
                              refine pure_ (i := 18) (N := some 88) (v := ?_) (a' := ?_) #[true, true, true, true, true, true, true, true, true, true, true, true, true, true, true, true, true, false, true, false, false, false, false, false, false, false, false] rfl rfl (any_of HT_.out (by kernel_rfl)) (fun _ _ _ h => h) (Or.inl ⟨by rfl, ?_⟩) ?_ ?_
                              rotate_left
                              · intro w'
                                go_simp
                                with_reducible rfl
                              rotate_left
                              · simp only [Act.put, List.setIfInBounds_toArray, List.set_cons_zero, List.set_cons_succ, i64_w, i32_w]
                                rfl
                              refine pure_ (i := 20) (N := some 90) (v := ?_) (a' := ?_) #[true, true, true, true, true, true, true, true, true, true, true, true, true, true, true, true, true, false, true, false, true, false, false, false, false, false, false] rfl rfl (any_of HT_.out (by kernel_rfl)) (fun _ _ _ h => h) (Or.inl ⟨by rfl, ?_⟩) ?_ ?_
                              rotate_left
                              · intro w'
                                go_simp
                                with_reducible rfl
                              rotate_left
                              · simp only [Act.put, List.setIfInBounds_toArray, List.set_cons_zero, List.set_cons_succ, i64_w, i32_w]
                                rfl
                              refine take_ (i := 17) (N := some 87) (v := ?_) (a' := ?_) #[true, true, true, true, true, true, true, true, true, true, true, true, true, true, true, true, true, true, true, false, true, false, false, false, false, false, false] rfl rfl (take_ofW HT_.out HW_.out (by kernel_rfl)) (fun _ _ _ h => h) (Or.inl ⟨by rfl, ?_⟩) hHeld ?_ ?_
                              rotate_left
                              · rintro w' ⟨s0, s1, s2, s3, s4, s5, s6, s7⟩
                                go_simp
                                with_reducible rfl
                              rotate_left
                              · simp only [Act.put, List.setIfInBounds_toArray, List.set_cons_zero, List.set_cons_succ, i64_w, i32_w]
                                rfl
                              refine take_ (i := 19) (N := some 89) (v := ?_) (a' := ?_) #[true, true, true, true, true, true, true, true, true, true, true, true, true, true, true, true, true, true, true, true, true, false, false, false, false, false, false] rfl rfl (take_ofW HT_.out HW_.out (by kernel_rfl)) (fun _ _ _ h => h) (Or.inl ⟨by rfl, ?_⟩) hHeld ?_ ?_
                              rotate_left
                              · rintro w' ⟨s0, s1, s2, s3, s4, s5, s6, s7⟩
                                go_simp
                                with_reducible rfl
                              rotate_left
                              · simp only [Act.put, List.setIfInBounds_toArray, List.set_cons_zero, List.set_cons_succ, i64_w, i32_w]
                                rfl
                              refine take_ (i := 21) (N := some 91) (v := ?_) (a' := ?_) #[true, true, true, true, true, true, true, true, true, true, true, true, true, true, true, true, true, true, true, true, true, true, false, false, false, false, false] rfl rfl (take_ofW HT_.out HW_.out (by kernel_rfl)) (fun _ _ _ h => h) (Or.inl ⟨by rfl, ?_⟩) hHeld ?_ ?_
                              rotate_left
                              · rintro w' ⟨s0, s1, s2, s3, s4, s5, s6, s7⟩
                                go_simp
                                with_reducible rfl
                              rotate_left
                              · simp only [Act.put, List.setIfInBounds_toArray, List.set_cons_zero, List.set_cons_succ, i64_w, i32_w]
                                rfl
                              refine pure_ (i := 22) (N := some 92) (v := ?_) (a' := ?_) #[true, true, true, true, true, true, true, true, true, true, true, true, true, true, true, true, true, true, true, true, true, true, true, false, false, false, false] rfl rfl (any_of HT_.out (by kernel_rfl)) (fun _ _ _ h => h) (Or.inl ⟨by rfl, ?_⟩) ?_ ?_
                              rotate_left
                              · intro w'
                                go_simp
                                with_reducible rfl
                              rotate_left
                              · simp only [Act.put, List.setIfInBounds_toArray, List.set_cons_zero, List.set_cons_succ, i64_w, i32_w]
                                rfl
                              refine pure_ (i := 23) (N := some 93) (v := ?_) (a' := ?_) #[true, true, true, true, true, true, true, true, true, true, true, true, true, true, true, true, true, true, true, true, true, true, true, true, false, false, false] rfl rfl (any_of HT_.out (by kernel_rfl)) (fun _ _ _ h => h) (Or.inl ⟨by rfl, ?_⟩) ?_ ?_
                              rotate_left
                              · intro w'
                                go_simp
                                with_reducible rfl
                              rotate_left
                              · simp only [Act.put, List.setIfInBounds_toArray, List.set_cons_zero, List.set_cons_succ, i64_w, i32_w]
                                rfl
                              refine one_ (i := 24) (N := some 94) #[true, true, true, true, true, true, true, true, true, true, true, true, true, true, true, true, true, true, true, true, true, true, true, true, true, false, false] rfl rfl (one_of HT_.out (by kernel_rfl)) (by decide) (fun K hK => ?_)
                              refine goes_ Try.func20 (by kernel_rfl) rfl #[.slice Ao62 t594.length co62, .slice Ao58 y602.length co58] (by rfl) rfl rfl (by (try simp only [List.map_toArray, List.map_cons, List.map_nil]); first | done | rfl | (simp only [List.length_drop, List.length_take]; rfl)) ?_
                              with_reducible refine (laws_wnTexts.calls kj4 _ _ t594 _ _ y602 true _ ?side1 ?side2 ?side3 ?side4 A50.out).mono ?_
                              (case side1 => repeat (first | exact (Kd.S_reads' HO596.out).2.2 | (with_reducible refine Kd.C_alloc ?_ _) | (with_reducible refine Kd.C_drewN ?_ _) | (with_reducible refine Kd.C_drew ?_)))
                              (case side2 => exact (Kd.S_reads' HO596.out).2.1)
                              (case side3 => repeat (first | exact (by repeat (first | (with_reducible exact HR605.out) | (with_reducible refine Kd.C_alloc ?_ _) | (with_reducible refine Kd.C_drewN ?_ _) | (with_reducible refine Kd.C_drew ?_) | exact HR605.out)) | (with_reducible refine Kd.C_alloc ?_ _) | (with_reducible refine Kd.C_drewN ?_ _) | (with_reducible refine Kd.C_drew ?_)))
                              (case side4 => exact HC605.out)
                              rintro e w68 ⟨rfl, hb⟩
                              refine ⟨_, rfl, ?_⟩
                              have n0_ := Aside0.mk (Kd.S_below (by (with_reducible repeat (first | apply Kd.S_alloc | apply Kd.S_drewN | apply Kd.S_drew)); exact HO_4.out) hb)
                              have n1_ := Aside0.mk (Kd.R_below (by (with_reducible repeat (first | apply Kd.R_alloc | apply Kd.R_drewN | apply Kd.R_drew)); exact HO_5.out) hb)
                              have n2_ := Aside0.mk (Kd.R_below (by (with_reducible repeat (first | apply Kd.R_alloc | apply Kd.R_drewN | apply Kd.R_drew)); exact HO_6.out) hb)
                              have n3_ := Aside0.mk (Kd.S_below (by (with_reducible repeat (first | apply Kd.S_alloc | apply Kd.S_drewN | apply Kd.S_drew)); exact HO588.out) hb)
                              have n4_ := Aside0.mk (Kd.S_below (by (with_reducible repeat (first | apply Kd.S_alloc | apply Kd.S_drewN | apply Kd.S_drew)); exact HO596.out) hb)
                              have n5_ := Aside0.mk (blk_below (g := gb593) (o := .cells #[.slice Ao58 t586.length co58, .int .i64 t589, .int .i64 t590, .bool true] 28 (0, 0)) (by (with_reducible repeat (first | refine blk_drewN ?_ _ | refine blk_drew ?_ | refine blk_alloc ?_ _)); exact BK593.out) hb)
                              have n6_ := Aside0.mk (blk_below (g := gb601) (o := .cells #[.slice Ao62 t594.length co62, .int .i64 t597, .int .i64 t598, .bool false] 28 (0, 0)) (by (with_reducible repeat (first | refine blk_drewN ?_ _ | refine blk_drew ?_ | refine blk_alloc ?_ _)); exact BK601.out) hb)
                              have n7_ := Aside0.mk (Kd.C_below (by repeat (first | (with_reducible exact HR605.out) | (with_reducible refine Kd.C_alloc ?_ _) | (with_reducible refine Kd.C_drewN ?_ _) | (with_reducible refine Kd.C_drew ?_) | exact HR605.out)) hb)
                              have n8_ := Aside0.mk (below_step (by repeat (first | (with_reducible first | exact HB.out | apply below_alloc | apply pw_below_drewN | apply below_drew1 | refine below_set ?_ GE593.out | refine below_set ?_ GE601.out) | exact HB.out)) hb)
                              clear HO_4
                              clear HO_5
                              clear HO_6
                              clear HO588
                              clear HO596
                              clear BK593
                              clear BK601
                              clear HR605
                              clear HB
                              have HO_4 := n0_
                              have HO_5 := n1_
                              have HO_6 := n2_
                              have HO588 := n3_
                              have HO596 := n4_
                              have BK593 := n5_
                              have BK601 := n6_
                              have HR605 := n7_
                              have HB := n8_
                              clear n0_ n1_ n2_ n3_ n4_ n5_ n6_ n7_ n8_
                              (try clear hb)
                              (try clear hb2)
                              (try clear hk)
                              (try clear hi)
                              refine hK.out _ _ ⟨(blk_cell BK601.out 0).trans rfl, (blk_cell BK601.out 1).trans rfl, (blk_cell BK601.out 2).trans rfl, (blk_cell BK601.out 3).trans rfl, (blk_cell BK593.out 0).trans rfl, (blk_cell BK593.out 1).trans rfl, (blk_cell BK593.out 2).trans rfl, (blk_cell BK593.out 3).trans rfl⟩ (fun hHeld => ?_)
                              clear hK K
                              refine norm_ (a' := ?_) ?_ ?_
                              rotate_left
                              · show Act.put _ (some 94) _ = _
                                simp only [Act.put, List.setIfInBounds_toArray, List.set_cons_zero, List.set_cons_succ, i64_w, i32_w]
                                rfl
                              refine pure_ (i := 25) (N := some 95) (v := ?_) (a' := ?_) #[true, true, true, true, true, true, true, true, true, true, true, true, true, true, true, true, true, true, true, true, true, true, true, true, true, true, false] rfl rfl (any_of HT_.out (by kernel_rfl)) (fun _ _ _ h => h) (Or.inl ⟨by rfl, ?_⟩) ?_ ?_
                              rotate_left
                              · intro w'
                                go_simp
                                with_reducible rfl
                              rotate_left
                              · simp only [Act.put, List.setIfInBounds_toArray, List.set_cons_zero, List.set_cons_succ, i64_w, i32_w]
                                rfl
                              refine pure_ (i := 26) (N := some 96) (v := ?_) (a' := ?_) #[true, true, true, true, true, true, true, true, true, true, true, true, true, true, true, true, true, true, true, true, true, true, true, true, true, true, true] rfl rfl (any_of HT_.out (by kernel_rfl)) (fun _ _ _ h => h) (Or.inl ⟨by rfl, ?_⟩) ?_ ?_
                              rotate_left
                              · intro w'
                                go_simp
                                with_reducible rfl
                              rotate_left
                              · simp only [Act.put, List.setIfInBounds_toArray, List.set_cons_zero, List.set_cons_succ, i64_w, i32_w]
                                rfl
                              refine done_ (done_of HT_.out (by kernel_rfl)) ?_
                              have hcz69_0 : w68.cell? ⟨gb593, 0, none⟩ = some (.slice Ao58 t586.length co58) := (blk_cell BK593.out 0).trans rfl
                              have hcz69_1 : w68.cell? ⟨gb593, 1, none⟩ = some (.int .i64 t589) := (blk_cell BK593.out 1).trans rfl
                              have hcz69_2 : w68.cell? ⟨gb593, 2, none⟩ = some (.int .i64 t590) := (blk_cell BK593.out 2).trans rfl
                              have hcz69_3 : w68.cell? ⟨gb593, 3, none⟩ = some (.bool true) := (blk_cell BK593.out 3).trans rfl
                              have hfz69_0 := blk_frozen BK593.out 0
                              have hfz69_1 := blk_frozen BK593.out 1
                              have hfz69_2 := blk_frozen BK593.out 2
                              have hfz69_3 := blk_frozen BK593.out 3
                              try go_wp2_with (first | (go_at_call 20; (with_reducible refine (laws_wnTexts.calls kj4 _ _ t586 _ _ t574 t607 _ ?side1 ?side2 ?side3 ?side4 A55.out).mono ?_); (case side1 => repeat (first | exact (Kd.S_reads' HO588.out).2.2 | (with_reducible refine Kd.C_alloc ?_ _) | (with_reducible refine Kd.C_drewN ?_ _) | (with_reducible refine Kd.C_drew ?_))); (case side2 => exact (Kd.S_reads' HO588.out).2.1); (case side3 => repeat (first | exact (Kd.S_reads' HO_4.out).2.2 | (with_reducible refine Kd.C_alloc ?_ _) | (with_reducible refine Kd.C_drewN ?_ _) | (with_reducible refine Kd.C_drew ?_))); (case side4 => exact (Kd.S_reads' HO_4.out).2.1); rintro e w70 ⟨rfl, hb⟩; have n0_ := Aside0.mk (Kd.S_below (by (with_reducible repeat (first | apply Kd.S_alloc | apply Kd.S_drewN | apply Kd.S_drew)); exact HO_4.out) hb); have n1_ := Aside0.mk (Kd.R_below (by (with_reducible repeat (first | apply Kd.R_alloc | apply Kd.R_drewN | apply Kd.R_drew)); exact HO_5.out) hb); have n2_ := Aside0.mk (Kd.R_below (by (with_reducible repeat (first | apply Kd.R_alloc | apply Kd.R_drewN | apply Kd.R_drew)); exact HO_6.out) hb); have n3_ := Aside0.mk (Kd.S_below (by (with_reducible repeat (first | apply Kd.S_alloc | apply Kd.S_drewN | apply Kd.S_drew)); exact HO588.out) hb); have n4_ := Aside0.mk (Kd.S_below (by (with_reducible repeat (first | apply Kd.S_alloc | apply Kd.S_drewN | apply Kd.S_drew)); exact HO596.out) hb); have n5_ := Aside0.mk (blk_below (g := gb593) (o := .cells #[.slice Ao58 t586.length co58, .int .i64 t589, .int .i64 t590, .bool true] 28 (0, 0)) (by (with_reducible repeat (first | refine blk_drewN ?_ _ | refine blk_drew ?_ | refine blk_alloc ?_ _)); exact BK593.out) hb); have n6_ := Aside0.mk (blk_below (g := gb601) (o := .cells #[.slice Ao62 t594.length co62, .int .i64 t597, .int .i64 t598, .bool false] 28 (0, 0)) (by (with_reducible repeat (first | refine blk_drewN ?_ _ | refine blk_drew ?_ | refine blk_alloc ?_ _)); exact BK601.out) hb); have n7_ := Aside0.mk (Kd.C_below (by repeat (first | (with_reducible exact HR605.out) | (with_reducible refine Kd.C_alloc ?_ _) | (with_reducible refine Kd.C_drewN ?_ _) | (with_reducible refine Kd.C_drew ?_) | exact HR605.out)) hb); have n8_ := Aside0.mk (below_step (by repeat (first | (with_reducible first | exact HB.out | apply below_alloc | apply pw_below_drewN | apply below_drew1 | refine below_set ?_ GE593.out | refine below_set ?_ GE601.out) | exact HB.out)) hb); clear HO_4; clear HO_5; clear HO_6; clear HO588; clear HO596; clear BK593; clear BK601; clear HR605; clear HB; have HO_4 := n0_; have HO_5 := n1_; have HO_6 := n2_; have HO588 := n3_; have HO596 := n4_; have BK593 := n5_; have BK601 := n6_; have HR605 := n7_; have HB := n8_; clear n0_ n1_ n2_ n3_ n4_ n5_ n6_ n7_ n8_; (try clear hb); (try clear hb2); (try clear hk); (try clear hi)))
                              go_ret
                              exact ⟨by first | rfl | (simp [errW_none, errW_some] <;> rfl) | (simp [*, errW_none, errW_some] <;> rfl), by repeat (first | (with_reducible first | exact HB.out | apply below_alloc | apply pw_below_drewN | apply below_drew1 | refine below_set ?_ GE593.out | refine below_set ?_ GE601.out) | exact HB.out)⟩
                            · rw [if_neg c54] at H
                              have c54b0 : (t589 == t583) = false := beq_eq_false_iff_ne.mpr c54
                              have c54b1 : (t589 != t583) = true := bne_iff_ne.mpr c54
                              obtain rfl := Option.some.inj H
                              exact absurd hr (by simp)
                          · replace c53 := Bool.eq_false_iff.mpr c53
                            subst c53
                            have H1 : (some false) = some r := by rw [if_neg (show ¬ (false = true) by decide)] at H; exact H
                            clear H
                            have H := H1
                            clear H1
                            obtain rfl := Option.some.inj H
                            exact absurd hr (by simp)
                        · replace c52 := Bool.eq_false_iff.mpr c52
                          subst c52
                          have H1 : (some false) = some r := by rw [if_neg (show ¬ (false = true) by decide)] at H; exact H
                          clear H
                          have H := H1
                          clear H1
                          obtain rfl := Option.some.inj H
                          exact absurd hr (by simp)
                      · replace c51 := Bool.eq_false_iff.mpr c51
                        subst c51
                        have H1 : (some false) = some r := by rw [if_neg (show ¬ (false = true) by decide)] at H; exact H
                        clear H
                        have H := H1
                        clear H1
                        obtain rfl := Option.some.inj H
                        exact absurd hr (by simp)
                    · rw [if_neg c49] at H
                      exact absurd H (by simp)
                  · rw [if_neg c48] at H
                    exact absurd H (by simp)
            · replace c23 := Bool.eq_false_iff.mpr c23
              subst c23
              have H1 : (some false) = some r := by rw [if_neg (show ¬ (false = true) by decide)] at H; exact H
              clear H
              have H := H1
              clear H1
              obtain rfl := Option.some.inj H
              exact absurd hr (by simp)
          · rw [if_neg c21] at H
            have c21b0 : decide (0 < t583) = false := decide_eq_false c21
            clear c21
            by_cases c136 : t592 = true
            · subst c136
              have H1 : (if t591 = true then (if t589 = t583 then ((laws_wnTexts.f kj4 t586 t574).bind fun t608 => (some t608)) else (some false)) else (some false)) = some r := by rw [if_pos rfl] at H; exact H
              clear H
              have H := H1
              clear H1
              by_cases c137 : t591 = true
              · subst c137
                have H1 : (if t589 = t583 then ((laws_wnTexts.f kj4 t586 t574).bind fun t608 => (some t608)) else (some false)) = some r := by rw [if_pos rfl] at H; exact H
                clear H
                have H := H1
                clear H1
                by_cases c138 : t589 = t583
                · rw [if_pos c138] at H
                  have c138b0 : (t589 == t583) = true := beq_iff_eq.mpr c138
                  have c138b1 : (t589 != t583) = false := bne_eq_false_iff_eq.mpr c138
                  clear c138
                  replace H := Option.bind_eq_some_iff.mp H
                  obtain ⟨t608, A1390, H⟩ := H
                  replace H : (some t608) = some r := H
                  have A139 := Aside0.mk A1390
                  clear A1390
                  obtain rfl := Option.some.inj H
                  go_wp2_with (first | ((with_reducible refine gate_callee (f := 10) rfl ?_); refine goesL_ (some 55) rfl rfl Try.func10 (by kernel_rfl) rfl #[.int .i64 t573, .slice Ao7 t574.length co7, .slice Ao8 t575.length co8, .slice Ao9 t576.length co9, .int .i64 t583] rfl (by (try simp only [List.map_toArray, List.map_cons, List.map_nil]); first | done | rfl | (simp only [List.length_drop, List.length_take]; rfl)) ?_; (with_reducible refine (impl_RunLink.calls kj4 t573 _ _ t574 _ _ t575 _ _ t576 t583 t586 t589 t590 true true _ ?side1 ?side2 ?side3 ?side4 ?side5 ?side6 A20.out).mono ?_); (case side1 => repeat (first | exact (Kd.S_reads' HO_4.out).2.2 | (with_reducible refine Kd.C_alloc ?_ _) | (with_reducible refine Kd.C_drewN ?_ _) | (with_reducible refine Kd.C_drew ?_))); (case side2 => exact (Kd.S_reads' HO_4.out).2.1); (case side3 => repeat (first | exact (Kd.R_reads' HO_5.out).2.2 | (with_reducible refine Kd.C_alloc ?_ _) | (with_reducible refine Kd.C_drewN ?_ _) | (with_reducible refine Kd.C_drew ?_))); (case side4 => exact (Kd.R_reads' HO_5.out).2.1); (case side5 => repeat (first | exact (Kd.R_reads' HO_6.out).2.2 | (with_reducible refine Kd.C_alloc ?_ _) | (with_reducible refine Kd.C_drewN ?_ _) | (with_reducible refine Kd.C_drew ?_))); (case side6 => exact (Kd.R_reads' HO_6.out).2.1); rintro e w140 ⟨v587, rfl, ho0, hb⟩; refine ⟨_, rfl, ?_⟩; have n0_ := Aside0.mk (Kd.S_elder' (by (with_reducible repeat (first | apply Kd.S_alloc | apply Kd.S_drewN | apply Kd.S_drew)); exact HO_4.out) (Kd.S_base ho0) hb); have n1_ := Aside0.mk (Kd.R_below (by (with_reducible repeat (first | apply Kd.R_alloc | apply Kd.R_drewN | apply Kd.R_drew)); exact HO_5.out) hb); have n2_ := Aside0.mk (Kd.R_below (by (with_reducible repeat (first | apply Kd.R_alloc | apply Kd.R_drewN | apply Kd.R_drew)); exact HO_6.out) hb); have n3_ := Aside0.mk (Kd.S_lower (Kd.S_new' ho0 (Kd.S_lt (by (with_reducible repeat (first | apply Kd.S_alloc | apply Kd.S_drewN | apply Kd.S_drew)); exact HO_4.out))) (below_size (by repeat (first | (with_reducible first | exact HB.out | apply below_alloc | apply pw_below_drewN | apply below_drew1) | exact HB.out)))); have n4_ := Aside0.mk (below_step (by repeat (first | (with_reducible first | exact HB.out | apply below_alloc | apply pw_below_drewN | apply below_drew1) | exact HB.out)) hb); clear HO_4; clear HO_5; clear HO_6; clear HB; have HO_4 := n0_; have HO_5 := n1_; have HO_6 := n2_; have HO588 := n3_; have HB := n4_; clear n0_ n1_ n2_ n3_ n4_; (try clear hb); (try clear hb2); (try clear hk); (try clear hi); (try clear ho0)) | ((with_reducible refine gate_dst (N := 8) rfl ?_); (try (refine gate_guard (by rfl) ?_; dsimp only)); refine box_event ?hg (N := 8) ?hd (cs := #[.slice none 0 0, .int .i64 0, .int .i64 0, .bool false]) (t := 28) ?hr ?_; (case hd => rfl); (case hg => rfl); (case hr => first | (go_simp; done) | (go_simp; rfl)); intro gb593 hg w141 hbox hb; have n0_ := Aside0.mk (Kd.S_below (by (with_reducible repeat (first | apply Kd.S_alloc | apply Kd.S_drewN | apply Kd.S_drew)); exact HO_4.out) hb); have n1_ := Aside0.mk (Kd.R_below (by (with_reducible repeat (first | apply Kd.R_alloc | apply Kd.R_drewN | apply Kd.R_drew)); exact HO_5.out) hb); have n2_ := Aside0.mk (Kd.R_below (by (with_reducible repeat (first | apply Kd.R_alloc | apply Kd.R_drewN | apply Kd.R_drew)); exact HO_6.out) hb); have n3_ := Aside0.mk (Kd.S_below (by (with_reducible repeat (first | apply Kd.S_alloc | apply Kd.S_drewN | apply Kd.S_drew)); exact HO588.out) hb); have n4_ := Aside0.mk (below_step (by repeat (first | (with_reducible first | exact HB.out | apply below_alloc | apply pw_below_drewN | apply below_drew1) | exact HB.out)) hb); have n5_ := Aside0.mk (hbox); have n6_ := Aside0.mk ((by rw [hg]; exact (below_size (by repeat (first | (with_reducible first | exact HB.out | apply below_alloc | apply pw_below_drewN | apply below_drew1) | exact HB.out))) : w.heap.size ≤ gb593)); have n7_ := Aside0.mk ((by rw [hg]; exact (below_size (by repeat (first | (with_reducible first | exact HB.out | apply below_alloc | apply pw_below_drewN | apply below_drew1) | exact HB.out))) : w.heap.size ≤ gb593)); clear HO_4; clear HO_5; clear HO_6; clear HO588; clear HB; have HO_4 := n0_; have HO_5 := n1_; have HO_6 := n2_; have HO588 := n3_; have HB := n4_; have BK593 := n5_; have GW593 := n6_; have GE593 := n7_; clear n0_ n1_ n2_ n3_ n4_ n5_ n6_ n7_; clear hb hbox hg; obtain ⟨Ao142, co142, eo142⟩ := Kd.S_slice HO588.out; subst eo142; have hcz143_0 : w141.cell? ⟨gb593, 0, none⟩ = some (.slice none 0 0) := (blk_cell BK593.out 0).trans rfl; have hcz143_1 : w141.cell? ⟨gb593, 1, none⟩ = some (.int .i64 0) := (blk_cell BK593.out 1).trans rfl; have hcz143_2 : w141.cell? ⟨gb593, 2, none⟩ = some (.int .i64 0) := (blk_cell BK593.out 2).trans rfl; have hcz143_3 : w141.cell? ⟨gb593, 3, none⟩ = some (.bool false) := (blk_cell BK593.out 3).trans rfl; have hfz143_0 := blk_frozen BK593.out 0; have hfz143_1 := blk_frozen BK593.out 1; have hfz143_2 := blk_frozen BK593.out 2; have hfz143_3 := blk_frozen BK593.out 3) | (go_at_call 20; (with_reducible refine (laws_wnTexts.calls kj4 _ _ t586 _ _ t574 t608 _ ?side1 ?side2 ?side3 ?side4 A139.out).mono ?_); (case side1 => refine (Kd.S_reads' (e := 22) (base := w.heap.size) (ok := fun k_ => (True ∧ some k_ ≠ (.slice Ao7 t574.length co7 : Value).ownBlock)) (n := t586.length) (c := co142) ?_).2.2; exact (by (with_reducible repeat (first | apply Kd.S_alloc | apply Kd.S_drewN | apply Kd.S_drew)); exact (Kd.S_mono (Kd.S_far (p := ⟨gb593, 3, none⟩) (Kd.S_far (p := ⟨gb593, 2, none⟩) (Kd.S_far (p := ⟨gb593, 1, none⟩) (Kd.S_far (p := ⟨gb593, 0, none⟩) (Kd.S_types HO588.out BK593.out (by decide)) (fun _ hk => hk.2) (.slice Ao142 t586.length co142)) (fun _ hk => hk.2) (.int .i64 t589)) (fun _ hk => hk.2) (.int .i64 t590)) (fun _ hk => hk.2) (.bool true)) (fun _ h_ => h_.1)))); (case side2 => exact (Kd.S_reads' HO588.out).2.1); (case side3 => refine (Kd.S_reads' (e := 22) (base := w.heap.size) (ok := fun k_ => (True ∧ some k_ ≠ (.slice Ao142 t586.length co142 : Value).ownBlock)) (n := t574.length) (c := co7) ?_).2.2; exact (by (with_reducible repeat (first | apply Kd.S_alloc | apply Kd.S_drewN | apply Kd.S_drew)); exact (Kd.S_mono (Kd.S_far (p := ⟨gb593, 3, none⟩) (Kd.S_far (p := ⟨gb593, 2, none⟩) (Kd.S_far (p := ⟨gb593, 1, none⟩) (Kd.S_far (p := ⟨gb593, 0, none⟩) (Kd.S_types HO_4.out BK593.out (by decide)) (fun _ hk => hk.2) (.slice Ao142 t586.length co142)) (fun _ hk => hk.2) (.int .i64 t589)) (fun _ hk => hk.2) (.int .i64 t590)) (fun _ hk => hk.2) (.bool true)) (fun _ h_ => h_.1)))); (case side4 => exact (Kd.S_reads' HO_4.out).2.1); rintro e w144 ⟨rfl, hb⟩; have n0_ := Aside0.mk (Kd.S_below (by (with_reducible repeat (first | apply Kd.S_alloc | apply Kd.S_drewN | apply Kd.S_drew)); exact (Kd.S_mono (Kd.S_far (p := ⟨gb593, 3, none⟩) (Kd.S_far (p := ⟨gb593, 2, none⟩) (Kd.S_far (p := ⟨gb593, 1, none⟩) (Kd.S_far (p := ⟨gb593, 0, none⟩) (Kd.S_types HO_4.out BK593.out (by decide)) (fun _ hk => hk.2) (.slice Ao142 t586.length co142)) (fun _ hk => hk.2) (.int .i64 t589)) (fun _ hk => hk.2) (.int .i64 t590)) (fun _ hk => hk.2) (.bool true)) (fun _ h_ => h_.1))) hb); have n1_ := Aside0.mk (Kd.R_below (by (with_reducible repeat (first | apply Kd.R_alloc | apply Kd.R_drewN | apply Kd.R_drew)); exact (Kd.R_mono (Kd.R_far (p := ⟨gb593, 3, none⟩) (Kd.R_far (p := ⟨gb593, 2, none⟩) (Kd.R_far (p := ⟨gb593, 1, none⟩) (Kd.R_far (p := ⟨gb593, 0, none⟩) (Kd.R_types HO_5.out BK593.out (by decide)) (fun _ hk => hk.2) (.slice Ao142 t586.length co142)) (fun _ hk => hk.2) (.int .i64 t589)) (fun _ hk => hk.2) (.int .i64 t590)) (fun _ hk => hk.2) (.bool true)) (fun _ h_ => h_.1))) hb); have n2_ := Aside0.mk (Kd.R_below (by (with_reducible repeat (first | apply Kd.R_alloc | apply Kd.R_drewN | apply Kd.R_drew)); exact (Kd.R_mono (Kd.R_far (p := ⟨gb593, 3, none⟩) (Kd.R_far (p := ⟨gb593, 2, none⟩) (Kd.R_far (p := ⟨gb593, 1, none⟩) (Kd.R_far (p := ⟨gb593, 0, none⟩) (Kd.R_types HO_6.out BK593.out (by decide)) (fun _ hk => hk.2) (.slice Ao142 t586.length co142)) (fun _ hk => hk.2) (.int .i64 t589)) (fun _ hk => hk.2) (.int .i64 t590)) (fun _ hk => hk.2) (.bool true)) (fun _ h_ => h_.1))) hb); have n3_ := Aside0.mk (Kd.S_below (by (with_reducible repeat (first | apply Kd.S_alloc | apply Kd.S_drewN | apply Kd.S_drew)); exact (Kd.S_mono (Kd.S_far (p := ⟨gb593, 3, none⟩) (Kd.S_far (p := ⟨gb593, 2, none⟩) (Kd.S_far (p := ⟨gb593, 1, none⟩) (Kd.S_far (p := ⟨gb593, 0, none⟩) (Kd.S_types HO588.out BK593.out (by decide)) (fun _ hk => hk.2) (.slice Ao142 t586.length co142)) (fun _ hk => hk.2) (.int .i64 t589)) (fun _ hk => hk.2) (.int .i64 t590)) (fun _ hk => hk.2) (.bool true)) (fun _ h_ => h_.1))) hb); have n4_ := Aside0.mk (blk_below (g := gb593) (o := .cells #[.slice Ao142 t586.length co142, .int .i64 t589, .int .i64 t590, .bool true] 28 (0, 0)) (by (with_reducible repeat (first | refine blk_drewN ?_ _ | refine blk_drew ?_ | refine blk_alloc ?_ _)); refine blk_put (cs := #[.slice Ao142 t586.length co142, .int .i64 t589, .int .i64 t590, .bool false]) ?_ 3 _ rfl; (with_reducible repeat (first | refine blk_drewN ?_ _ | refine blk_drew ?_ | refine blk_alloc ?_ _)); refine blk_put (cs := #[.slice Ao142 t586.length co142, .int .i64 t589, .int .i64 0, .bool false]) ?_ 2 _ rfl; (with_reducible repeat (first | refine blk_drewN ?_ _ | refine blk_drew ?_ | refine blk_alloc ?_ _)); refine blk_put (cs := #[.slice Ao142 t586.length co142, .int .i64 0, .int .i64 0, .bool false]) ?_ 1 _ rfl; (with_reducible repeat (first | refine blk_drewN ?_ _ | refine blk_drew ?_ | refine blk_alloc ?_ _)); refine blk_put (cs := #[.slice none 0 0, .int .i64 0, .int .i64 0, .bool false]) ?_ 0 _ rfl; (with_reducible repeat (first | refine blk_drewN ?_ _ | refine blk_drew ?_ | refine blk_alloc ?_ _)); exact BK593.out) hb); have n5_ := Aside0.mk (below_step (by repeat (first | (with_reducible first | exact HB.out | apply below_alloc | apply pw_below_drewN | apply below_drew1 | refine below_set ?_ GE593.out) | exact HB.out)) hb); clear HO_4; clear HO_5; clear HO_6; clear HO588; clear BK593; clear HB; have HO_4 := n0_; have HO_5 := n1_; have HO_6 := n2_; have HO588 := n3_; have BK593 := n4_; have HB := n5_; clear n0_ n1_ n2_ n3_ n4_ n5_; (try clear hb); (try clear hb2); (try clear hk); (try clear hi)))
                  go_ret
                  exact ⟨by first | rfl | (simp [errW_none, errW_some] <;> rfl) | (simp [*, errW_none, errW_some] <;> rfl), by repeat (first | (with_reducible first | exact HB.out | apply below_alloc | apply pw_below_drewN | apply below_drew1 | refine below_set ?_ GE593.out) | exact HB.out)⟩
                · rw [if_neg c138] at H
                  have c138b0 : (t589 == t583) = false := beq_eq_false_iff_ne.mpr c138
                  have c138b1 : (t589 != t583) = true := bne_iff_ne.mpr c138
                  obtain rfl := Option.some.inj H
                  exact absurd hr (by simp)
              · replace c137 := Bool.eq_false_iff.mpr c137
                subst c137
                have H1 : (some false) = some r := by rw [if_neg (show ¬ (false = true) by decide)] at H; exact H
                clear H
                have H := H1
                clear H1
                obtain rfl := Option.some.inj H
                exact absurd hr (by simp)
            · replace c136 := Bool.eq_false_iff.mpr c136
              subst c136
              have H1 : (some false) = some r := by rw [if_neg (show ¬ (false = true) by decide)] at H; exact H
              clear H
              have H := H1
              clear H1
              obtain rfl := Option.some.inj H
              exact absurd hr (by simp)

def laws_FnLinkRounds.Pure : Prop := ∀ (l0 : List Int), l0.length ≤ maxLen → l0.length * 1 ≤ 140737488351232 → (∀ x ∈ l0, (Lit.int .u8 x).wf = true) → ∃ k, laws_FnLinkRounds.f k l0 = some true
theorem laws_FnLinkRounds.walk (P : laws_FnLinkRounds.Pure) (a0 : Option Addr) (len0 cap0 : Nat) (z0 : List Int) (w : World) (w0 : (a0 = none ∧ len0 = 0 ∧ cap0 = 0 ∧ z0 = []) ∨ ∃ x, a0 = some x ∧ len0 ≤ cap0 ∧ cap0 ≤ maxLen ∧ z0.length = cap0 ∧ (∀ i, i < z0.length → w.cell? (x.add i) = some (.int .u8 (z0.getD i 0))) ∧ ∀ n ∈ z0, (Lit.int .u8 n).wf = true) (y0 : len0 * 1 ≤ 140737488351232) :
    Calls Try.prog 6 #[.slice a0 len0 cap0] w fun e w' => e = .returned (.bool true) ∧ Below w.heap.size w w' := by
  obtain ⟨l0, rfl, hr0, hm0, hw0, hc0⟩ := ReadsInt.ofRowC w0
  obtain ⟨k, h⟩ := P l0 hm0 y0 hw0
  refine (laws_FnLinkRounds.calls k _ _ l0 true w (Kd.C_of_reads (d := (0 : Int)) (h1 := fun _ => rfl) hr0) hc0 rfl h).mono ?_
  rintro e w' ⟨rfl, hd⟩
  exact ⟨rfl, hd⟩
end Go.Proofs.Ytookabfmbimnoaa.Lk

namespace Go.Proofs.Ytookabfmbimnoaa.Lk
open Go.RowKit Go.Proofs.YtookabfmbimnoaaW.PrintWords Go.Proofs.YtookabfmbimnoaaW.PrintLast Go.Proofs.YtookabfmbimnoaaW.PrintMore
set_option linter.unusedVariables false
set_option linter.unusedSimpArgs false

/-- Ahead of a round (and behind it): what came is the front of the list, and reaches from what the sender knows to a window further at most. -/
structure LInv (w : Nat) (list : List (List Int)) (st : LSt) : Prop where
  lo : st.kn ≤ st.got.length
  hi : st.got.length ≤ min list.length (st.kn + w)
  front : st.got = list.take st.got.length
  r1 : st.rounds ≤ st.s1
  r2 : st.s2 = st.rounds
/-- In the midst of a round's arrivals. -/
theorem recv1_front {w : Nat} (hw : w ≤ 8) {list : List (List Int)} {kn : Nat} {fs : List Int} {got : List (List Int)} {j : Int} (h0 : 0 ≤ j) (h1 : j < (sentN w list.length kn : Nat)) (hlo : kn ≤ got.length) (hhi : got.length ≤ min list.length (kn + w)) (hf : got = list.take got.length) :
    got.length ≤ (recv1 list kn fs got j).length ∧ (recv1 list kn fs got j).length ≤ min list.length (kn + w) ∧ recv1 list kn fs got j = list.take (recv1 list kn fs got j).length ∧ (fateN fs j.toNat ≠ 4 → got.length = kn + j.toNat → (recv1 list kn fs got j).length = got.length + 1) := by
  obtain ⟨i, rfl⟩ := Int.eq_ofNat_of_zero_le h0
  unfold sentN at h1
  unfold recv1
  simp only [Int.toNat_natCast]
  by_cases h4 : fateN fs i = 4
  · rw [if_pos h4]
    exact ⟨Nat.le_refl _, hhi, hf, fun h => absurd h4 h⟩
  · rw [if_neg h4]
    by_cases hq : (kn + i) % 16 = got.length % 16
    · rw [if_pos hq]
      have hi : kn + i = got.length := by omega
      have hlt : got.length < list.length := by omega
      refine ⟨by simp, by simp; omega, ?_, fun _ _ => by simp⟩
      rw [List.length_append, List.length_singleton, List.take_succ_eq_append_getElem hlt, ← hf, hi, List.getD_eq_getElem?_getD, List.getElem?_eq_getElem hlt]
      rfl
    · rw [if_neg hq]
      exact ⟨Nat.le_refl _, hhi, hf, fun _ he => absurd (by rw [he]) hq⟩
theorem recvs_front {w : Nat} (hw : w ≤ 8) {list : List (List Int)} {kn : Nat} {fs : List Int} : ∀ (l : List Int) (got : List (List Int)), (∀ j ∈ l, 0 ≤ j ∧ j < (sentN w list.length kn : Nat)) → kn ≤ got.length → got.length ≤ min list.length (kn + w) → got = list.take got.length →
    got.length ≤ (l.foldl (recv1 list kn fs) got).length ∧ (l.foldl (recv1 list kn fs) got).length ≤ min list.length (kn + w) ∧ l.foldl (recv1 list kn fs) got = list.take (l.foldl (recv1 list kn fs) got).length
  | [], got, hj, hlo, hhi, hf => ⟨Nat.le_refl _, hhi, hf⟩
  | j :: l, got, hj, hlo, hhi, hf => by
    obtain ⟨a, b, c, _⟩ := recv1_front hw (fs := fs) (hj j (by simp)).1 (hj j (by simp)).2 hlo hhi hf
    have ih := recvs_front hw (fs := fs) l (recv1 list kn fs got j) (fun j h => hj j (by simp [h])) (by omega) b c
    rw [List.foldl_cons]
    exact ⟨by omega, ih.2⟩
theorem ackFind_hits {w : Nat} (hw : w ≤ 8) {kn g : Nat} (h0 : kn ≤ g) (h1 : g ≤ kn + w) : ackFind kn w (g % 16) = g := by
  have := ackFind_hit (kn := kn) (w := w) (q := g % 16) (d := g - kn) (by omega) (by rw [show kn + (g - kn) = g by omega]) (fun e he => by omega)
  omega
theorem acks_known {w : Nat} (hw : w ≤ 8) {g : Nat} {gs : List Int} : ∀ (l : List Int) (kn : Nat), kn ≤ g → g ≤ kn + w → l.foldl (ack1 w (g % 16) gs) kn = kn ∨ l.foldl (ack1 w (g % 16) gs) kn = g
  | [], kn, h0, h1 => .inl rfl
  | j :: l, kn, h0, h1 => by
    rw [List.foldl_cons]
    by_cases h4 : fateN gs j.toNat = 4
    · rw [show ack1 w (g % 16) gs kn j = kn by unfold ack1; rw [if_pos h4]]
      exact acks_known hw l kn h0 h1
    · rw [show ack1 w (g % 16) gs kn j = g by unfold ack1; rw [if_neg h4]; exact ackFind_hits hw h0 h1]
      rcases acks_known hw (gs := gs) l g (Nat.le_refl _) (by omega) with h | h <;> exact .inr h
theorem stepL_inv {w : Nat} (hw : w ≤ 8) (hw1 : 1 ≤ w) {list : List (List Int)} {there back : List Int} {st : LSt} (hk : st.kn < list.length) (h : LInv w list st) : LInv w list (stepL w list there back st) ∧ st.kn ≤ (stepL w list there back st).kn := by
  have hr := recvs_front hw (fs := there.drop st.s1) (arrivals (there.drop st.s1) (sentN w list.length st.kn)) st.got (arrivals_mem _ _) h.lo h.hi h.front
  have hlo := h.lo
  have ha := acks_known hw (g := ((arrivals (there.drop st.s1) (sentN w list.length st.kn)).foldl (recv1 list st.kn (there.drop st.s1)) st.got).length) (gs := back.drop st.s2) (arrivals (back.drop st.s2) 1) st.kn (by omega) (by omega)
  have hn : 1 ≤ sentN w list.length st.kn := by unfold sentN; omega
  have hr1 := h.r1
  have hr2 := h.r2
  unfold stepL
  simp only
  generalize (arrivals (there.drop st.s1) (sentN w list.length st.kn)).foldl (recv1 list st.kn (there.drop st.s1)) st.got = got at hr ha
  generalize (arrivals (back.drop st.s2) 1).foldl (ack1 w (got.length % 16) (back.drop st.s2)) st.kn = kn at ha
  refine ⟨⟨?_, ?_, hr.2.2, ?_, ?_⟩, ?_⟩
  all_goals (first | omega | (simp only; omega))
theorem linv0 (w : Nat) (list : List (List Int)) : LInv w list ⟨[], 0, 0, 0, 0⟩ := ⟨by simp, by simp, by simp, by simp, rfl⟩
end Go.Proofs.Ytookabfmbimnoaa.Lk

namespace Go.Proofs.Ytookabfmbimnoaa.Lk
open Go.RowKit Go.Proofs.YtookabfmbimnoaaW.PrintWords Go.Proofs.YtookabfmbimnoaaW.PrintLast Go.Proofs.YtookabfmbimnoaaW.PrintMore
set_option linter.unusedVariables false
set_option linter.unusedSimpArgs false

theorem i64_xor_pos (a b : Int) (h0 : 0 ≤ a) (h1 : a < 4611686018427387904) (h2 : 0 ≤ b) (h3 : b < 4611686018427387904) : 0 ≤ Go.bits .xor .i64 a b := by
  have key : (BitVec.ofInt 64 a ^^^ BitVec.ofInt 64 b).toNat < 2 ^ 62 := by
    rw [BitVec.toNat_xor, BitVec.toNat_ofInt, BitVec.toNat_ofInt]
    exact Nat.xor_lt_two_pow (by omega) (by omega)
  show 0 ≤ IntKind.i64.wrap ((BitVec.ofInt 64 a ^^^ BitVec.ofInt 64 b).toNat : Nat)
  rw [IntKind.wrap_i64]
  omega
structure SrcOk (b : List Int) : Prop where
  len : b.length ≤ 2000
  byt : ∀ x ∈ b, byteOk x
theorem rd_byte {b : List Int} (h : SrcOk b) (i : Int) : 0 ≤ rd b i ∧ rd b i ≤ 255 := by
  show 0 ≤ b.getD i.toNat 0 ∧ b.getD i.toNat 0 ≤ 255
  by_cases hi : i.toNat < b.length
  · rw [List.getD_eq_getElem?_getD, List.getElem?_eq_getElem hi]
    exact h.byt _ (List.getElem_mem hi)
  · rw [List.getD_eq_getElem?_getD, List.getElem?_eq_none (by omega)]
    simp
theorem tmod_ok (x n : Int) (h0 : 0 ≤ x) (h1 : 1 ≤ n) : 0 ≤ Int.tmod x n ∧ Int.tmod x n < n := by
  rw [Int.tmod_eq_emod_of_nonneg h0]
  exact ⟨Int.emod_nonneg _ (by omega), Int.emod_lt_of_pos _ (by omega)⟩
theorem pick_ok {b : List Int} (hb : SrcOk b) (k : Nat) (hk : 1 ≤ k) (p n : Int) (h0 : 0 ≤ p) (h1 : p ≤ 1000000) (hn : n ≤ 1000000) : ∃ v, spec_l21Rd_pick.f k b p n = some (v, p + 1) ∧ 0 ≤ v ∧ (1 ≤ n → v < n) := by
  obtain ⟨k, rfl⟩ : ∃ j, k = j + 1 := ⟨k - 1, by omega⟩
  have e1 : wrap64 (p + 1) = p + 1 := w64 _ (by omega)
  unfold spec_l21Rd_pick.f
  rw [e1]
  by_cases hn1 : n < 1
  · rw [if_pos hn1, spec_l21Rd_pick.j0, if_pos rfl]
    exact ⟨0, rfl, Int.le_refl _, fun h => absurd h (by omega)⟩
  rw [if_neg hn1, spec_l21Rd_pick.j0]
  by_cases hl : (b.length : Int) = 0
  · rw [hl, if_pos (by rfl)]
    exact ⟨0, rfl, Int.le_refl _, fun h => by omega⟩
  have hlb := hb.len
  have hl1 : 1 ≤ (b.length : Int) := by omega
  rw [if_neg (by simpa using hl)]
  have e2 : wrap64 (p + 1 - 1) = p := by rw [w64 _ (by omega)]; omega
  simp only [e2]
  by_cases hp : p < (b.length : Int)
  · have hr := rd_byte hb p
    rw [if_pos hp, if_pos h0, if_neg (by omega), w64 (rd b p) (by omega)]
    have ht := tmod_ok (rd b p) n hr.1 (by omega)
    exact ⟨_, rfl, ht.1, fun _ => ht.2⟩
  · rw [if_neg hp, if_neg hl]
    have t1 := tmod_ok p (b.length : Int) h0 hl1
    have e3 : wrap64 (p * 7) = p * 7 := w64 _ (by omega)
    have e4 : wrap64 (p * 7 + 3) = p * 7 + 3 := w64 _ (by omega)
    have t2 := tmod_ok (p * 7 + 3) (b.length : Int) (by omega) hl1
    rw [e3, e4, if_pos t1.1, if_pos t1.2, if_pos t2.1, if_pos t2.2, if_neg (by omega)]
    have r1 := rd_byte hb (Int.tmod p (b.length : Int))
    have r2 := rd_byte hb (Int.tmod (p * 7 + 3) (b.length : Int))
    have hq : Int.tdiv p (b.length : Int) = p / (b.length : Int) := Int.tdiv_eq_ediv_of_nonneg h0
    have q0 : 0 ≤ p / (b.length : Int) := Int.ediv_nonneg h0 (by omega)
    have q1 : p / (b.length : Int) ≤ p := Int.ediv_le_self _ h0
    rw [hq]
    generalize rd b (Int.tmod p (b.length : Int)) = u at r1
    generalize rd b (Int.tmod (p * 7 + 3) (b.length : Int)) = v at r2
    generalize p / (b.length : Int) = q at q0 q1
    rw [w64 u (by omega), w64 v (by omega), w64 (u * 131) (by omega), w64 (v * 1117) (by omega), w64 (u * 131 + v * 1117) (by omega), w64 (p * 29) (by omega), w64 (u * 131 + v * 1117 + p * 29) (by omega), w64 q (by omega), w64 (q * 53) (by omega), w64 (u * 131 + v * 1117 + p * 29 + q * 53) (by omega)]
    have hx0 : 0 ≤ u * 131 + v * 1117 + p * 29 + q * 53 := by omega
    have hx1 : u * 131 + v * 1117 + p * 29 + q * 53 ≤ 1000000000 := by omega
    generalize u * 131 + v * 1117 + p * 29 + q * 53 = x at hx0 hx1
    have hdv : Int.tdiv x 64 = x / 64 := Int.tdiv_eq_ediv_of_nonneg hx0
    rw [hdv, w64 (x / 64) (by omega)]
    have hxx := i64_xor_pos x (x / 64) hx0 (by omega) (by omega) (by omega)
    have ht := tmod_ok _ n hxx (by omega)
    exact ⟨_, rfl, ht.1, fun _ => ht.2⟩
theorem num_ok {b : List Int} (hb : SrcOk b) (k : Nat) (hk : 1 ≤ k) (p : Int) (l : List Int) (h0 : 0 ≤ p) (h1 : p ≤ 1000000) (hl : 1 ≤ l.length) (hl2 : l.length ≤ 1000) : ∃ v, spec_l21Rd_num.f k b p l = some (v, p + 1) ∧ v ∈ l := by
  obtain ⟨v, hv, hv0, hv1⟩ := pick_ok hb k hk p (l.length : Int) h0 h1 (by omega)
  have hvl := hv1 (by omega)
  unfold spec_l21Rd_num.f
  rw [hv, Option.bind_some, if_pos hv0, if_pos hvl]
  refine ⟨_, rfl, ?_⟩
  have hi : v.toNat < l.length := by omega
  show l.getD v.toNat 0 ∈ l
  rw [List.getD_eq_getElem?_getD, List.getElem?_eq_getElem hi]
  exact List.getElem_mem hi
theorem some_ok0 {b : List Int} (hb : SrcOk b) (n : Nat) (hn : n ≤ 100) : ∀ (m i k : Nat) (acc : List Int) (p : Int), i + m = n → m + 2 ≤ k → acc.length = i → (∀ x ∈ acc, byteOk x) → 0 ≤ p → p + 2 * m ≤ 1000000 →
    ∃ bs q, spec_l1Some.l0 k (n : Int) acc (i : Int) b p = some (bs, q) ∧ p ≤ q ∧ q ≤ p + 2 * m ∧ bs.length = n ∧ ∀ x ∈ bs, byteOk x
  | m, i, 0, acc, p, hi, hk, ha, hb2, h0, h1 => by omega
  | 0, i, k + 1, acc, p, hi, hk, ha, hb2, h0, h1 => ⟨acc, p, by rw [spec_l1Some.l0, if_neg (by omega)], by omega, by omega, by omega, hb2⟩
  | m + 1, i, k + 1, acc, p, hi, hk, ha, hb2, h0, h1 => by
    have e : wrap64 ((i : Int) + 1) = ((i + 1 : Nat) : Int) := by rw [w64 _ (by omega)]; simp
    obtain ⟨v, hv, _, _⟩ := pick_ok hb k (by omega) p 4 h0 (by omega) (by omega)
    have hacc : ∀ y, ∀ x ∈ acc ++ [y % 256], byteOk x := by
      intro y x hx
      rcases List.mem_append.1 hx with hx | hx
      · exact hb2 x hx
      · rw [List.mem_singleton] at hx
        subst hx
        exact ⟨by omega, by omega⟩
    rw [spec_l1Some.l0, if_pos (by omega), hv, Option.bind_some]
    simp only
    by_cases hv0 : v = 0
    · obtain ⟨u, hu, _⟩ := num_ok hb k (by omega) (p + 1) ([0, 1, 125, 126, 127, 128, 255, 94, 93] : List Int) (by omega) (by omega) (by simp) (by simp)
      obtain ⟨bs, q, h, hq1, hq2, hl, hbs⟩ := some_ok0 hb n hn m (i + 1) k (acc ++ [u % 256]) (p + 1 + 1) (by omega) (by omega) (by simp; omega) (hacc u) (by omega) (by omega)
      rw [if_pos hv0, hu, Option.bind_some, if_pos (by omega), e]
      exact ⟨bs, q, h, by omega, by omega, hl, hbs⟩
    · obtain ⟨u, hu, _⟩ := pick_ok hb k (by omega) (p + 1) 256 (by omega) (by omega) (by omega)
      obtain ⟨bs, q, h, hq1, hq2, hl, hbs⟩ := some_ok0 hb n hn m (i + 1) k (acc ++ [u % 256]) (p + 1 + 1) (by omega) (by omega) (by simp; omega) (hacc u) (by omega) (by omega)
      rw [if_neg hv0, hu, Option.bind_some, if_pos (by omega), e]
      exact ⟨bs, q, h, by omega, by omega, hl, hbs⟩
theorem some_ok {b : List Int} (hb : SrcOk b) (n : Nat) (hn : n ≤ 100) (k : Nat) (hk : n + 2 ≤ k) (p : Int) (h0 : 0 ≤ p) (h1 : p + 2 * n ≤ 1000000) : ∃ bs q, spec_l1Some.f k b p (n : Int) = some (bs, q) ∧ p ≤ q ∧ q ≤ p + 2 * n ∧ bs.length = n ∧ ∀ x ∈ bs, byteOk x :=
  some_ok0 hb n hn n 0 k [] p (by omega) hk rfl (by simp) h0 h1
theorem sent_ok0 {b : List Int} (hb : SrcOk b) : ∀ (m k : Nat) (acc : List (List Int)) (p : Int), m ≤ 100 → m + 20 ≤ k → acc.length + m ≤ 1000 → bytesOk acc = true → 0 ≤ p → p + 9 * m ≤ 1000000 →
    ∃ l q, spec_l4Sent.l0 k acc (m : Int) b p = some (l, q) ∧ p ≤ q ∧ q ≤ p + 9 * m ∧ l.length = acc.length + m ∧ bytesOk l = true
  | m, 0, acc, p, hm, hk, ha, hb2, h0, h1 => by omega
  | 0, k + 1, acc, p, hm, hk, ha, hb2, h0, h1 => ⟨acc, p, by rw [spec_l4Sent.l0, if_neg (by omega)], by omega, by omega, by omega, hb2⟩
  | m + 1, k + 1, acc, p, hm, hk, ha, hb2, h0, h1 => by
    have e : wrap64 (((m + 1 : Nat) : Int) - 1) = (m : Int) := by rw [w64 _ (by omega)]; omega
    obtain ⟨v, hv, hvm⟩ := num_ok hb k (by omega) p ([1, 2, 0, 4] : List Int) h0 (by omega) (by simp) (by simp)
    have hvb : 0 ≤ v ∧ v ≤ 4 := by
      simp only [List.mem_cons, List.not_mem_nil, or_false] at hvm
      omega
    obtain ⟨n, rfl⟩ := Int.eq_ofNat_of_zero_le hvb.1
    obtain ⟨bs, q, hs, hq1, hq2, hl, hbs⟩ := some_ok hb n (by omega) k (by omega) (p + 1) (by omega) (by omega)
    have hacc : bytesOk (acc ++ [bs]) = true := by
      unfold bytesOk at hb2 ⊢
      rw [List.all_append, hb2]
      simp only [List.all_cons, List.all_nil, Bool.and_true, Bool.true_and, List.all_eq_true, Bool.and_eq_true, decide_eq_true_eq]
      exact hbs
    obtain ⟨l, q2, h, hq3, hq4, hl2, hbl⟩ := sent_ok0 hb m k (acc ++ [bs]) q (by omega) (by omega) (by simp; omega) hacc (by omega) (by omega)
    rw [spec_l4Sent.l0, if_pos (by omega), hv, Option.bind_some]
    simp only
    rw [hs, Option.bind_some]
    simp only
    rw [if_pos (by omega), e]
    exact ⟨l, q2, h, by omega, by omega, by rw [hl2]; simp; omega, hbl⟩
theorem sent_ok {b : List Int} (hb : SrcOk b) (k : Nat) (hk : 100 ≤ k) (p : Int) (h0 : 0 ≤ p) (h1 : p ≤ 100000) : ∃ l q, spec_l4Sent.f k b p = some (l, q) ∧ p ≤ q ∧ q ≤ p + 200 ∧ l.length ≤ 14 ∧ bytesOk l = true := by
  obtain ⟨v, hv, hvm⟩ := num_ok hb k (by omega) p ([3, 5, 0, 8, 1, 14] : List Int) h0 (by omega) (by simp) (by simp)
  have hvb : 0 ≤ v ∧ v ≤ 14 := by
    simp only [List.mem_cons, List.not_mem_nil, or_false] at hvm
    omega
  obtain ⟨n, rfl⟩ := Int.eq_ofNat_of_zero_le hvb.1
  obtain ⟨l, q, h, hq1, hq2, hl, hbl⟩ := sent_ok0 hb n k [] (p + 1) (by omega) (by omega) (by simp; omega) rfl (by omega) (by omega)
  unfold spec_l4Sent.f
  rw [hv, Option.bind_some]
  exact ⟨l, q, h, by omega, by omega, by rw [hl]; simp; omega, hbl⟩
theorem fates_ok0 {b : List Int} (hb : SrcOk b) (x : Int) (hx : x ≤ 1000) : ∀ (m k : Nat) (acc : List Int) (p : Int), m ≤ 100 → m + 2 ≤ k → acc.length + m ≤ 1000 → 0 ≤ p → p + 2 * m ≤ 1000000 →
    ∃ l q, spec_l4Fates.l0 k acc x (m : Int) b p = some (l, q) ∧ p ≤ q ∧ q ≤ p + 2 * m ∧ l.length = acc.length + m
  | m, 0, acc, p, hm, hk, ha, h0, h1 => by omega
  | 0, k + 1, acc, p, hm, hk, ha, h0, h1 => ⟨acc, p, by rw [spec_l4Fates.l0, if_neg (by omega)], by omega, by omega, by omega⟩
  | m + 1, k + 1, acc, p, hm, hk, ha, h0, h1 => by
    have e : wrap64 (((m + 1 : Nat) : Int) - 1) = (m : Int) := by rw [w64 _ (by omega)]; omega
    obtain ⟨v, hv, _, _⟩ := pick_ok hb k (by omega) p x h0 (by omega) (by omega)
    rw [spec_l4Fates.l0, if_pos (by omega), hv, Option.bind_some]
    simp only
    by_cases hv0 : v = 0
    · obtain ⟨u, hu, _⟩ := pick_ok hb k (by omega) (p + 1) 5 (by omega) (by omega) (by omega)
      obtain ⟨l, q, h, hq1, hq2, hl⟩ := fates_ok0 hb x hx m k (acc ++ [u]) (p + 1 + 1) (by omega) (by omega) (by simp; omega) (by omega) (by omega)
      rw [if_pos hv0, hu, Option.bind_some, if_pos (by omega), e]
      exact ⟨l, q, h, by omega, by omega, by rw [hl]; simp; omega⟩
    · obtain ⟨l, q, h, hq1, hq2, hl⟩ := fates_ok0 hb x hx m k (acc ++ [0]) (p + 1) (by omega) (by omega) (by simp; omega) (by omega) (by omega)
      rw [if_neg hv0, if_pos (by omega), e]
      exact ⟨l, q, h, by omega, by omega, by rw [hl]; simp; omega⟩
theorem fates_ok {b : List Int} (hb : SrcOk b) (k : Nat) (hk : 100 ≤ k) (p : Int) (h0 : 0 ≤ p) (h1 : p ≤ 100000) : ∃ l q, spec_l4Fates.f k b p = some (l, q) ∧ p ≤ q ∧ q ≤ p + 100 ∧ l.length ≤ 30 := by
  obtain ⟨v, hv, hvm⟩ := num_ok hb k (by omega) p ([2, 1, 3, 8] : List Int) h0 (by omega) (by simp) (by simp)
  obtain ⟨u, hu, hum⟩ := num_ok hb k (by omega) (p + 1) ([6, 0, 12, 3, 30] : List Int) (by omega) (by omega) (by simp) (by simp)
  have hvb : v ≤ 8 := by
    simp only [List.mem_cons, List.not_mem_nil, or_false] at hvm
    omega
  have hub : 0 ≤ u ∧ u ≤ 30 := by
    simp only [List.mem_cons, List.not_mem_nil, or_false] at hum
    omega
  obtain ⟨n, rfl⟩ := Int.eq_ofNat_of_zero_le hub.1
  obtain ⟨l, q, h, hq1, hq2, hl⟩ := fates_ok0 hb v (by omega) n k [] (p + 1 + 1) (by omega) (by omega) (by simp; omega) (by omega) (by omega)
  unfold spec_l4Fates.f
  rw [hv, Option.bind_some]
  simp only
  rw [hu, Option.bind_some]
  exact ⟨l, q, h, by omega, by omega, by rw [hl]; simp; omega⟩
/-- What is drawn for a link. -/
theorem l5Draw_ok {b : List Int} (hb : SrcOk b) (k : Nat) (hk : 100 ≤ k) (p : Int) (h0 : 0 ≤ p) (h1 : p ≤ 10000) : ∃ win list there back q, spec_l5Draw.f k b p = some (win, list, there, back, q) ∧ p ≤ q ∧ q ≤ p + 1000 ∧ list.length ≤ 15 ∧ there.length ≤ 31 ∧ back.length ≤ 31 ∧ bytesOk list = true := by
  obtain ⟨l, q1, hs, ha1, ha2, hl, hbl⟩ := sent_ok hb k hk p h0 (by omega)
  obtain ⟨wn, hw, hwm⟩ := num_ok hb k (by omega) q1 ([4, 1, 2, 8, 3] : List Int) (by omega) (by omega) (by simp) (by simp)
  obtain ⟨f, q2, hf, hf1, hf2, hfl⟩ := fates_ok hb k hk (q1 + 1) (by omega) (by omega)
  obtain ⟨g, q3, hg, hg1, hg2, hgl⟩ := fates_ok hb k hk q2 (by omega) (by omega)
  obtain ⟨v, hv, _, _⟩ := pick_ok hb k (by omega) q3 48 (by omega) (by omega) (by omega)
  unfold spec_l5Draw.f
  rw [hs, Option.bind_some]
  simp only
  rw [hw, Option.bind_some]
  simp only
  rw [hf, Option.bind_some]
  simp only
  rw [hg, Option.bind_some]
  simp only
  rw [hv, Option.bind_some]
  simp only
  by_cases c0 : v = 0
  · obtain ⟨u, hu, _⟩ := num_ok hb k (by omega) (q3 + 1) ([0, 9] : List Int) (by omega) (by omega) (by simp) (by simp)
    rw [if_pos c0, hu, Option.bind_some]
    exact ⟨_, _, _, _, _, rfl, by simp only; omega, by simp only; omega, by omega, by omega, by omega, hbl⟩
  rw [if_neg c0]
  by_cases c1 : v = 1
  · rw [if_pos c1, if_pos (by omega), if_pos (by omega)]
    refine ⟨_, _, _, _, _, rfl, by omega, by omega, by rw [List.length_append, List.length_singleton]; omega, by omega, by omega, ?_⟩
    unfold bytesOk at hbl ⊢
    rw [List.all_append, hbl]
    simp only [List.all_cons, List.all_nil, Bool.and_true, Bool.true_and, List.all_replicate]
    decide
  rw [if_neg c1]
  by_cases c2 : v = 2
  · rw [if_pos c2, if_pos (by omega)]
    exact ⟨_, _, _, _, _, rfl, by omega, by omega, by omega, by simp; omega, by omega, hbl⟩
  rw [if_neg c2]
  by_cases c3 : v = 3
  · rw [if_pos c3, if_pos (by omega)]
    exact ⟨_, _, _, _, _, rfl, by omega, by omega, by omega, by omega, by simp; omega, hbl⟩
  rw [if_neg c3]
  exact ⟨_, _, _, _, _, rfl, by omega, by omega, by omega, by omega, by omega, hbl⟩
theorem open_ok (l : List Int) (hw : ∀ x ∈ l, byteOk x) : ∃ b, spec_l21Open.f l = some (b, 0) ∧ SrcOk b := by
  unfold spec_l21Open.f
  by_cases h : (l.length : Int) > 2000
  · rw [if_pos h, if_pos (by omega)]
    exact ⟨_, rfl, by rw [List.length_take]; omega, fun x hx => hw x (List.mem_of_mem_take hx)⟩
  · rw [if_neg h]
    exact ⟨_, rfl, by omega, hw⟩
theorem wf_byte {x : Int} (h : (Lit.int .u8 x).wf = true) : byteOk x := by
  have h0 : IntKind.u8.min = 0 := by decide
  have h1 : IntKind.u8.max = 255 := by decide
  simp only [Lit.wf, Bool.and_eq_true, decide_eq_true_eq, h0, h1] at h
  exact h
end Go.Proofs.Ytookabfmbimnoaa.Lk

namespace Go.Proofs.Ytookabfmbimnoaa.Lk
open Go.RowKit Go.Proofs.YtookabfmbimnoaaW.PrintWords Go.Proofs.YtookabfmbimnoaaW.PrintLast Go.Proofs.YtookabfmbimnoaaW.PrintMore
set_option linter.unusedVariables false
set_option linter.unusedSimpArgs false

theorem specFatesK (l : List Int) (k : Nat) (hl : l.length ≤ 100000) (hk : l.length + 1 ≤ k) : spec_FatesValid.f k l = some (fatesOk l) := by
  have := specFatesG l (by omega) l.length 0 k (by omega) hk
  rw [List.drop_zero] at this
  exact this
theorem specLink0 (a0 : Int) (l1 : List (List Int)) (l2 l3 : List Int) (h2 : l2.length ≤ 100) (h3 : l3.length ≤ 100) : ∀ (m i k : Nat), i + m = l1.length → m ≤ 1000 → l1.length ≤ 100000 → m + 200 ≤ k →
    spec_l5Link.l0 k a0 l1 l2 l3 (i : Int) = some ((l1.drop i).all shortB && (winOk a0 && (decide (l1.length ≤ 60) && (fatesOk l2 && fatesOk l3))))
  | m, i, 0, hi, hm, hl, hk => by omega
  | 0, i, k + 1, hi, hm, hl, hk => by
    rw [spec_l5Link.l0, if_neg (by omega), specIn_ok, Option.bind_some, List.drop_eq_nil_of_le (by omega), specFatesK l2 k (by omega) (by omega), specFatesK l3 k (by omega) (by omega)]
    show (if winOk a0 = true then _ else _) = _
    simp only [List.all_nil, Bool.true_and]
    cases winOk a0 with
    | false => rfl
    | true =>
      rw [if_pos rfl]
      by_cases hl60 : l1.length ≤ 60
      · rw [if_pos (by omega), decide_eq_true hl60, Option.bind_some]
        cases fatesOk l2 with
        | false => rfl
        | true => rw [if_pos rfl, Option.bind_some]; rfl
      · rw [if_neg (by omega), decide_eq_false hl60]; rfl
  | m + 1, i, k + 1, hi, hm, hl, hk => by
    have e : wrap64 ((i : Int) + 1) = ((i + 1 : Nat) : Int) := by rw [w64 _ (by omega)]; simp
    have hil : i < l1.length := by omega
    have hd : l1.drop i = l1[i] :: l1.drop (i + 1) := List.drop_eq_getElem_cons hil
    rw [spec_l5Link.l0, if_pos (by omega), if_pos (by omega), rd_L2_get hil, hd, List.all_cons]
    by_cases hs : l1[i].length ≤ 597
    · rw [if_neg (by omega), e, specLink0 a0 l1 l2 l3 h2 h3 m (i + 1) k (by omega) (by omega) hl (by omega), show shortB l1[i] = true from decide_eq_true hs, Bool.true_and]
    · rw [if_pos (by omega), show shortB l1[i] = false from decide_eq_false hs]; rfl
def linkB0 (a0 : Int) (l1 : List (List Int)) (l2 l3 : List Int) : Bool := winOk a0 && (decide (l1.length ≤ 60) && (l1.all shortB && (fatesOk l2 && fatesOk l3)))
theorem linkB_split (a0 : Int) (l1 : List (List Int)) (l2 l3 : List Int) (a4 : Int) : linkB a0 l1 l2 l3 a4 = (linkB0 a0 l1 l2 l3 && rndOk a4) := by
  unfold linkB linkB0
  simp only [Bool.and_assoc]
theorem specLink (a0 : Int) (l1 : List (List Int)) (l2 l3 : List Int) (h1 : l1.length ≤ 100) (h2 : l2.length ≤ 100) (h3 : l3.length ≤ 100) (k : Nat) (hk : 400 ≤ k) : spec_l5Link.f k a0 l1 l2 l3 = some (linkB0 a0 l1 l2 l3) := by
  have h := specLink0 a0 l1 l2 l3 h2 h3 l1.length 0 k (by omega) (by omega) (by omega) (by omega)
  rw [List.drop_zero] at h
  refine h.trans (congrArg some ?_)
  unfold linkB0
  cases l1.all shortB <;> cases winOk a0 <;> cases decide (l1.length ≤ 60) <;> rfl
def roundsV (a0 : Int) (l1 : List (List Int)) (l2 l3 : List Int) : Int := if linkB0 a0 l1 l2 l3 = true then (if l1.length ≤ (runR a0 l1 l2 l3 400).kn then ((runR a0 l1 l2 l3 400).rounds : Int) else -1) else -1
theorem implRounds (k : Nat) (a0 : Int) (l1 : List (List Int)) (l2 l3 : List Int) (hb : bytesOk l1 = true) : impl_LinkRounds.f k a0 l1 l2 l3 = some (roundsV a0 l1 l2 l3) := by
  unfold impl_LinkRounds.f impl_RunLink.f roundsV
  rw [if_pos hb, linkB_split, show rndOk 400 = true by decide, Bool.and_true]
  cases h : linkB0 a0 l1 l2 l3 with
  | true =>
    rw [if_pos rfl, if_pos rfl, Option.bind_some]
    simp only [if_true]
    by_cases hk : l1.length ≤ (runR a0 l1 l2 l3 400).kn
    · rw [decide_eq_true hk, if_pos rfl, if_pos hk]
    · rw [decide_eq_false hk, if_neg (by simp), if_neg hk]
  | false =>
    rw [if_neg (by simp), if_neg (by simp), Option.bind_some]
    rfl
theorem specRounds (k : Nat) (hk : 400 ≤ k) (a0 : Int) (l1 : List (List Int)) (l2 l3 : List Int) (hb : bytesOk l1 = true) (h1 : l1.length ≤ 100) (h2 : l2.length ≤ 100) (h3 : l3.length ≤ 100) : spec_LinkRounds.f k a0 l1 l2 l3 = some (roundsV a0 l1 l2 l3) := by
  unfold spec_LinkRounds.f roundsV
  rw [specLink a0 l1 l2 l3 h1 h2 h3 k hk, Option.bind_some]
  cases h : linkB0 a0 l1 l2 l3 with
  | true =>
    unfold spec_l5Run.f
    rw [if_pos rfl, if_pos rfl, if_pos ⟨hb, by rw [linkB_split, h]; decide⟩, Option.bind_some]
    simp only
    by_cases hk : l1.length ≤ (runR a0 l1 l2 l3 400).kn
    · rw [decide_eq_true hk, if_pos rfl, if_pos hk]
    · rw [decide_eq_false hk, if_neg (by simp), if_neg hk]
  | false => rw [if_neg (by simp), if_neg (by simp)]
end Go.Proofs.Ytookabfmbimnoaa.Lk

namespace Go.Proofs.Ytookabfmbimnoaa.Lk
open Go.RowKit Go.Proofs.YtookabfmbimnoaaW.PrintWords Go.Proofs.YtookabfmbimnoaaW.PrintLast Go.Proofs.YtookabfmbimnoaaW.PrintMore
set_option linter.unusedVariables false
set_option linter.unusedSimpArgs false

theorem loopL_inv {w : Nat} (hw : w ≤ 8) (hw1 : 1 ≤ w) {list : List (List Int)} {there back : List Int} : ∀ (m : Nat) (st : LSt), LInv w list st → LInv w list (loopL w list there back m st) ∧ (loopL w list there back m st).rounds ≤ st.rounds + m ∧ st.rounds ≤ (loopL w list there back m st).rounds
  | 0, st, h => ⟨h, Nat.le_refl _, Nat.le_refl _⟩
  | m + 1, st, h => by
    rcases Nat.lt_or_ge st.kn list.length with hk | hk
    · rw [loopL_go m hk]
      have hs := stepL_inv hw hw1 (there := there) (back := back) hk h
      have ih := loopL_inv hw hw1 (there := there) (back := back) m _ hs.1
      have hr : (stepL w list there back st).rounds = st.rounds + 1 := rfl
      exact ⟨ih.1, by omega, by omega⟩
    · rw [loopL_stop (m + 1) (by omega)]
      exact ⟨h, by omega, by omega⟩
theorem runL_inv {w : Nat} (hw : w ≤ 8) (hw1 : 1 ≤ w) {list : List (List Int)} {there back : List Int} (m : Nat) : LInv w list (runL w list there back m) ∧ (runL w list there back m).rounds ≤ m := by
  have h := loopL_inv hw hw1 (there := there) (back := back) m ⟨[], 0, 0, 0, 0⟩ (linv0 w list)
  exact ⟨h.1, by simpa [runL] using h.2.1⟩
/-- As many rounds as it took are enough. -/
theorem loopL_same {w : Nat} (hw : w ≤ 8) (hw1 : 1 ≤ w) {list : List (List Int)} {there back : List Int} : ∀ (m : Nat) (st : LSt), LInv w list st → loopL w list there back ((loopL w list there back m st).rounds - st.rounds) st = loopL w list there back m st
  | 0, st, h => by rw [loopL, Nat.sub_self]; rfl
  | m + 1, st, h => by
    rcases Nat.lt_or_ge st.kn list.length with hk | hk
    · rw [loopL_go m hk]
      have hs := stepL_inv hw hw1 (there := there) (back := back) hk h
      have h2 := loopL_inv hw hw1 (there := there) (back := back) m _ hs.1
      have ih := loopL_same hw hw1 (there := there) (back := back) m _ hs.1
      have hr : (stepL w list there back st).rounds = st.rounds + 1 := rfl
      have hj : (loopL w list there back m (stepL w list there back st)).rounds - st.rounds = ((loopL w list there back m (stepL w list there back st)).rounds - (stepL w list there back st).rounds) + 1 := by omega
      rw [hj, loopL_go _ hk, ih]
    · rw [loopL_stop (m + 1) (by omega), Nat.sub_self]
      rfl
/-- And fewer are not. -/
theorem loopL_fewer {w : Nat} (hw : w ≤ 8) (hw1 : 1 ≤ w) {list : List (List Int)} {there back : List Int} : ∀ (m j : Nat) (st : LSt), LInv w list st → j < (loopL w list there back m st).rounds - st.rounds → (loopL w list there back j st).kn < list.length
  | 0, j, st, h, hj => by rw [loopL, Nat.sub_self] at hj; omega
  | m + 1, j, st, h, hj => by
    rcases Nat.lt_or_ge st.kn list.length with hk | hk
    · rw [loopL_go m hk] at hj
      have hs := stepL_inv hw hw1 (there := there) (back := back) hk h
      have hr : (stepL w list there back st).rounds = st.rounds + 1 := rfl
      cases j with
      | zero => exact hk
      | succ j =>
        rw [loopL_go j hk]
        exact loopL_fewer hw hw1 (there := there) (back := back) m j _ hs.1 (by omega)
    · rw [loopL_stop (m + 1) (by omega), Nat.sub_self] at hj
      omega
theorem runL_same {w : Nat} (hw : w ≤ 8) (hw1 : 1 ≤ w) {list : List (List Int)} {there back : List Int} (m : Nat) : runL w list there back (runL w list there back m).rounds = runL w list there back m :=
  loopL_same hw hw1 m ⟨[], 0, 0, 0, 0⟩ (linv0 w list)
theorem runL_fewer {w : Nat} (hw : w ≤ 8) (hw1 : 1 ≤ w) {list : List (List Int)} {there back : List Int} (m j : Nat) (hj : j < (runL w list there back m).rounds) : (runL w list there back j).kn < list.length :=
  loopL_fewer hw hw1 m j ⟨[], 0, 0, 0, 0⟩ (linv0 w list) hj
/-- What came when all is known to have come. -/
theorem runL_all {w : Nat} {list : List (List Int)} {st : LSt} (h : LInv w list st) (hk : list.length ≤ st.kn) : st.got = list := by
  have h1 := h.lo
  have h2 := h.hi
  rw [h.front, List.take_of_length_le (by omega)]
structure LClear (w : Nat) (list : List (List Int)) (st : LSt) : Prop where
  s1 : st.s1 = st.kn
  kn : st.kn ≤ list.length
  low : st.kn ≤ st.rounds * w
def runV (a0 : Int) (l1 : List (List Int)) (l2 l3 : List Int) (a4 : Int) : List (List Int) × Int × Int × Bool × Bool :=
  if linkB a0 l1 l2 l3 a4 = true then ((runR a0 l1 l2 l3 a4).got, ((runR a0 l1 l2 l3 a4).rounds : Int), (((runR a0 l1 l2 l3 a4).s1 + (runR a0 l1 l2 l3 a4).s2 : Nat) : Int), decide (l1.length ≤ (runR a0 l1 l2 l3 a4).kn), true) else ([], 0, 0, false, false)
theorem implRun (k : Nat) (a0 : Int) (l1 : List (List Int)) (l2 l3 : List Int) (a4 : Int) (hb : bytesOk l1 = true) : impl_RunLink.f k a0 l1 l2 l3 a4 = some (runV a0 l1 l2 l3 a4) := by
  unfold impl_RunLink.f runV
  rw [if_pos hb]
  split <;> rfl
end Go.Proofs.Ytookabfmbimnoaa.Lk

namespace Go.Proofs.Ytookabfmbimnoaa.Pure
open Go.RowKit Go.Proofs.Ytookabfmbimnoaa.Lk Go.Proofs.YtookabfmbimnoaaW.PrintWords Go.Proofs.YtookabfmbimnoaaW.PrintLast
theorem FnLinkRounds : laws_FnLinkRounds.Pure := by
  intro l0 _ _ hwf
  obtain ⟨b, ho, hb⟩ := open_ok l0 (fun x hx => wf_byte (hwf x hx))
  obtain ⟨win, list, there, back, q, hd, hq1, hq2, hl, ht, hbk, hby⟩ := l5Draw_ok hb 700 (by omega) 0 (by omega) (by omega)
  have h2 : spec_DrawLinkRounds.f 700 l0 = some (win, list, there, back) := by
    unfold spec_DrawLinkRounds.f
    rw [ho, Option.bind_some]
    simp only
    rw [hd]
    rfl
  have hi := implRounds 700 win list there back hby
  have hs := specRounds 700 (by omega) win list there back hby (by omega) (by omega) (by omega)
  have hs2 := specRounds 699 (by omega) win list there back hby (by omega) (by omega) (by omega)
  refine ⟨700, ?_⟩
  unfold laws_FnLinkRounds.f
  by_cases hlen : (l0.length : Int) > 1048576
  · rw [if_pos hlen]
  rw [if_neg hlen, h2, Option.bind_some]
  simp only
  rw [hi, Option.bind_some, hs, Option.bind_some, if_pos rfl, laws_FnLinkRounds.j0]
  have hwn : ∀ l k, laws_wnTexts.f k l l = some true := fun l k => if_pos rfl
  by_cases hneg : roundsV win list there back < 0
  · rw [if_pos (decide_eq_true hneg), hs2, Option.bind_some, if_pos rfl]
    have : roundsV win list there back = -1 := by
      unfold roundsV at hneg ⊢
      split
      · rename_i h
        rw [if_pos h] at hneg
        split
        · rename_i h3
          rw [if_pos h3] at hneg
          omega
        · rfl
      · rfl
    rw [this]
    rfl
  rw [if_neg (by simpa using hneg)]
  have hpos : linkB0 win list there back = true ∧ list.length ≤ (runR win list there back 400).kn ∧ roundsV win list there back = ((runR win list there back 400).rounds : Int) := by
    unfold roundsV at hneg ⊢
    by_cases h : linkB0 win list there back = true
    · rw [if_pos h] at hneg ⊢
      by_cases h3 : list.length ≤ (runR win list there back 400).kn
      · rw [if_pos h3]
        exact ⟨h, h3, rfl⟩
      · rw [if_neg h3] at hneg
        exact absurd (by omega) hneg
    · rw [if_neg h] at hneg
      exact absurd (by omega) hneg
  clear hneg hs hs2 hi h2 hd ho
  obtain ⟨hL, hk, hv⟩ := hpos
  have hwin : 1 ≤ win ∧ win ≤ 8 := by
    simp only [linkB0, Bool.and_eq_true, winOk, decide_eq_true_eq] at hL
    omega
  obtain ⟨w, rfl⟩ := Int.eq_ofNat_of_zero_le (show 0 ≤ win by omega)
  have hr : runR (w : Int) list there back 400 = runL w list there back 400 := rfl
  rw [hr] at hk hv
  have n1 : 1 ≤ w := by omega
  have n2 : w ≤ 8 := by omega
  have hc := runL_inv n2 n1 (list := list) (there := there) (back := back) 400
  have hsame := runL_same n2 n1 (list := list) (there := there) (back := back) 400
  have hfew := runL_fewer n2 n1 (list := list) (there := there) (back := back) 400
  have hless := fun j => (runL_inv n2 n1 (list := list) (there := there) (back := back) j).1
  generalize hn : (runL w list there back 400).rounds = n at hc hv hsame hfew
  rw [hv, implRun 699 (w : Int) list there back (n : Int) hby, Option.bind_some]
  have hLn : ∀ j : Nat, j ≤ 400 → linkB (w : Int) list there back (j : Int) = true := fun j hj => by
    rw [linkB_split, hL]
    simp [rndOk]
    omega
  have hg : (runL w list there back 400).got = list := runL_all hc.1 hk
  have hVn : runV (w : Int) list there back (n : Int) = (list, (n : Int), (((runL w list there back 400).s1 + (runL w list there back 400).s2 : Nat) : Int), true, true) := by
    unfold runV
    rw [if_pos (hLn n hc.2), show runR (w : Int) list there back (n : Int) = runL w list there back n from rfl, hsame, hg, hn, decide_eq_true hk]
  rw [hVn]
  simp only [if_true]
  by_cases hn0 : n = 0
  · subst hn0
    rw [if_neg (by omega), hwn]
    rfl
  rw [if_pos (by omega), w64 _ (by omega), show (n : Int) - 1 = ((n - 1 : Nat) : Int) by omega, implRun 699 (w : Int) list there back ((n - 1 : Nat) : Int) hby, Option.bind_some]
  have hlk := hfew (n - 1) (by omega)
  have hin := hless (n - 1)
  have hVl : runV (w : Int) list there back ((n - 1 : Nat) : Int) = ((runL w list there back (n - 1)).got, ((runL w list there back (n - 1)).rounds : Int), (((runL w list there back (n - 1)).s1 + (runL w list there back (n - 1)).s2 : Nat) : Int), false, true) := by
    unfold runV
    rw [if_pos (hLn (n - 1) (by omega)), show runR (w : Int) list there back ((n - 1 : Nat) : Int) = runL w list there back (n - 1) from rfl, decide_eq_false (by omega)]
  rw [hVl]
  simp only [if_true]
  generalize runL w list there back (n - 1) = S at hlk hin
  have g2 := hin.hi
  have g3 := hin.front
  rw [if_neg (by simp), if_neg (by omega), if_pos (by omega), if_pos (by omega), Int.toNat_natCast, ← g3, hwn, Option.bind_some, if_pos rfl, hwn]
  rfl
end Go.Proofs.Ytookabfmbimnoaa.Pure
