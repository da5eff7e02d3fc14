/- What the walks of this claim need: printed by a program of this session (wip/pack.py) out of the session's texts and of the words that the kit's print.sh lays; under no condition beyond those in each theorem. Lean checks it. -/
import Derived.Test.YtookabfmbimnoaaErl8
namespace Go.Proofs.Ytookabfmbimnoaa.Lk
open Go.RowKit Go.Proofs.YtookabfmbimnoaaW.PrintWords Go.Proofs.YtookabfmbimnoaaW.PrintLast Go.Proofs.YtookabfmbimnoaaW.PrintMore
attribute [local go_sem] max2_int min2_int max_two min_two max_three min_three max_four min_four   -- for this text's walks alone
set_option linter.unusedVariables false
set_option linter.unusedSimpArgs false

theorem stored4 {W : World} {g : Nat} {a b c d : Value} (h : W.heap[g]? = some (.cells #[a, b, c, d] 28 (0, 0))) (v0 v1 v2 v3 : Value) :
    ((((W.setCell ⟨g, 0, none⟩ v0).setCell ⟨g, 1, none⟩ v1).setCell ⟨g, 2, none⟩ v2).setCell ⟨g, 3, none⟩ v3).heap[g]? = some (.cells #[v0, v1, v2, v3] 28 (0, 0)) ∧
    Kept W ((((W.setCell ⟨g, 0, none⟩ v0).setCell ⟨g, 1, none⟩ v1).setCell ⟨g, 2, none⟩ v2).setCell ⟨g, 3, none⟩ v3) (fun k => k = g) ∧
    (∀ w : World, Below w.heap.size w W → w.heap.size ≤ g → Below w.heap.size w ((((W.setCell ⟨g, 0, none⟩ v0).setCell ⟨g, 1, none⟩ v1).setCell ⟨g, 2, none⟩ v2).setCell ⟨g, 3, none⟩ v3)) ∧
    ((((W.setCell ⟨g, 0, none⟩ v0).setCell ⟨g, 1, none⟩ v1).setCell ⟨g, 2, none⟩ v2).setCell ⟨g, 3, none⟩ v3).heap.size = W.heap.size := by
  refine ⟨?_, ?_, fun w hb hg => below_set (below_set (below_set (below_set hb hg) hg) hg) hg, ?_⟩
  · exact blk_set (blk_set (blk_set (blk_set h 0 v0) 1 v1) 2 v2) 3 v3
  · exact ((((Kept.refl W (fun k => k = g)).setCell (p := ⟨g, 0, none⟩) (.inl rfl) v0).setCell (p := ⟨g, 1, none⟩) (.inl rfl) v1).setCell (p := ⟨g, 2, none⟩) (.inl rfl) v2).setCell (p := ⟨g, 3, none⟩) (.inl rfl) v3
  · simp [World.setCell]
theorem held_calls (k : Nat) (A : Option Addr) (c n : Nat) (l : List (List Int)) (x1 x2 : Int) (x3 : Bool) (a r : Int) (w : World) (hn : l.length = n) (hr : Kd.C (Kd.slice 5 (Kd.int .u8)) w A l.length l) (hc : n ≤ c) (h : laws_heldLinkRun.f k l x1 x2 x3 a = some r) :
    Calls Try.prog 28 #[.agg #[.slice A n c, .int .i64 x1, .int .i64 x2, .bool x3], .int .i64 a] w fun e w' => e = .returned (.int .i64 r) ∧ Below w.heap.size w w' := by
  subst hn
  exact laws_heldLinkRun.calls k A c l x1 x2 x3 a r w hr hc h
set_option maxHeartbeats 16000000 in
set_option maxRecDepth 100000 in
theorem exactRun_calls (k : Nat) (a0 : Int) (A1 : Option Addr) (c1 : Nat) (l1 : List (List Int)) (A2 : Option Addr) (c2 : Nat) (l2 : List Int) (A3 : Option Addr) (c3 : Nat) (l3 : List Int) (a4 : Int) (w : World)
    (hr1 : Kd.C (Kd.slice 5 (Kd.int .u8)) w A1 l1.length l1) (hc1 : l1.length ≤ c1) (hr2 : Kd.C (Kd.int .i64) w A2 l2.length l2) (hc2 : l2.length ≤ c2) (hr3 : Kd.C (Kd.int .i64) w A3 l3.length l3) (hc3 : l3.length ≤ c3)
    (h2 : l2.length ≤ 1048576) (h3 : l3.length ≤ 1048576) (z0 : Int) (hsz : laws_szByteSS.f k l1 1048576 = some z0) (hz0 : 0 ≤ z0)
    (ht1 : laws_toByteSS.f k l1 = some l1) (ht2 : laws_toIntS.f k l2 = some l2) (ht3 : laws_toIntS.f k l3 = some l3)
    (gt gt2 : List (List Int)) (rn sn : Int) (dn ok : Bool) (hsp : spec_RunLink.f k a0 l1 l2 l3 a4 = some (gt, rn, sn, dn, ok)) (him : impl_RunLink.f k a0 l1 l2 l3 a4 = some (gt, rn, sn, dn, ok))
    (heq : laws_eqLinkRun.f k gt rn sn dn gt rn sn dn = some true) (he1 : laws_eqByteSS.f k l1 l1 = some true) (he2 : laws_eqIntS.f k l2 l2 = some true) (he3 : laws_eqIntS.f k l3 l3 = some true)
    (q1 q2 q3 : Int) (y1 : List (List Int)) (y2 y3 : List Int) (hm1 : markSS k l1 1 = some (q1, y1)) (hm2 : laws_markIntS.f k l2 q1 = some (q2, y2)) (hm3 : laws_markIntS.f k l3 q2 = some (q3, y3)) (hq3 : 0 ≤ q3)
    (m : Int) (hmg : markSS k gt 1 = some (m, gt2)) (hm0 : 0 ≤ m) (hhd : laws_heldLinkRun.f k gt2 rn sn dn 1 = some m) (hl1 : l1.length ≤ 9223372036854775806) (hlg : gt.length ≤ 9223372036854775806) (hlg2 : gt2.length = gt.length) :
    Calls Try.prog 8 #[.int .i64 a0, .slice A1 l1.length c1, .slice A2 l2.length c2, .slice A3 l3.length c3, .int .i64 a4] w fun e w' => e = .returned (.bool true) ∧ Below w.heap.size w w' := by
  have hu28 := Try.underlying28
  have HR1 := Aside0.mk hr1
  have HC1 := Aside0.mk hc1
  have HR2 := Aside0.mk hr2
  have HC2 := Aside0.mk hc2
  have HR3 := Aside0.mk hr3
  have HC3 := Aside0.mk hc3
  have HSZ := Aside0.mk hsz
  have HT1 := Aside0.mk ht1
  have HT2 := Aside0.mk ht2
  have HT3 := Aside0.mk ht3
  have HSP := Aside0.mk hsp
  have HIM := Aside0.mk him
  have HEQ := Aside0.mk heq
  have HE1 := Aside0.mk he1
  have HE2 := Aside0.mk he2
  have HE3 := Aside0.mk he3
  have HM1 := Aside0.mk hm1
  have HM2 := Aside0.mk hm2
  have HM3 := Aside0.mk hm3
  have HMG := Aside0.mk hmg
  have HHD := Aside0.mk hhd
  have HL1 := Aside0.mk hl1
  have HLG := Aside0.mk hlg
  have HLG2 := Aside0.mk hlg2
  have b2 : decide ((l2.length : Int) > 1048576) = false := decide_eq_false (by omega)
  have b3 : decide ((l3.length : Int) > 1048576) = false := decide_eq_false (by omega)
  have b2n : decide (1048576 < (l2.length : Int)) = false := decide_eq_false (by omega)
  have b3n : decide (1048576 < (l3.length : Int)) = false := decide_eq_false (by omega)
  have b2m : decide (1048576 < l2.length) = false := decide_eq_false (by omega)
  have b3m : decide (1048576 < l3.length) = false := decide_eq_false (by omega)
  have bz : decide (z0 < 0) = false := decide_eq_false (by omega)
  have bq : decide (q3 < 0) = false := decide_eq_false (by omega)
  have bm : decide (m < 0) = false := decide_eq_false (by omega)
  have bok : (ok != ok) = false := bne_self_eq_false ok
  have bmm : (m != m) = false := bne_self_eq_false m
  clear hr1 hc1 hr2 hc2 hr3 hc3 hsz ht1 ht2 ht3 hsp him heq he1 he2 he3 hm1 hm2 hm3 hmg hhd hl1 hlg hlg2 h2 h3 hz0 hq3 hm0
  have HB := Aside0.mk (Below.refl w.heap.size w)
  go_enter Try.func8, Try.ntmps8
  go_upto_region 10 with (first
      | ((with_reducible refine gate_callee (f := 12) rfl ?_); refine goesL_ (some 32) rfl rfl Try.func12 (by kernel_rfl) rfl #[.slice A1 l1.length c1, .int .i64 1048576] rfl (by (try simp only [List.map_toArray, List.map_cons, List.map_nil]); first | done | rfl) ?_; (with_reducible refine (laws_szByteSS.calls k _ _ l1 1048576 z0 _ ?s0 HC1.out HSZ.out).mono ?_); (case s0 => repeat (first | (with_reducible exact (Kd.C_below HR1.out HB.out)) | (with_reducible refine Kd.C_alloc ?_ _) | (with_reducible refine Kd.C_drewN ?_ _) | (with_reducible refine Kd.C_drew ?_))); rintro e w' ⟨rfl, ⟨nd, rfl⟩⟩; refine ⟨_, rfl, ?_⟩)
      | ((with_reducible refine gate_callee (f := 14) rfl ?_); refine goesL_ (some 38) rfl rfl Try.func14 (by kernel_rfl) rfl #[.slice A1 l1.length c1] rfl (by (try simp only [List.map_toArray, List.map_cons, List.map_nil]); first | done | rfl) ?_; (with_reducible refine (laws_toByteSS.calls k _ _ l1 l1 _ ?s0 HC1.out HT1.out).mono ?_); (case s0 => repeat (first | (with_reducible exact (Kd.C_below HR1.out HB.out)) | (with_reducible refine Kd.C_alloc ?_ _) | (with_reducible refine Kd.C_drewN ?_ _) | (with_reducible refine Kd.C_drew ?_))); rintro e w18 ⟨vT, rfl, ho, hb⟩; refine ⟨_, rfl, ?_⟩; have hsz_ := hb.size; have m_ := Aside0.mk (Kd.S_lower (Kd.S_mono (ok' := fun k_ => _root_.True ∧ _root_.True) (Kd.S_bound ho) (fun k_ hk_ => ⟨trivial, trivial⟩)) (below_size (by repeat (first | (with_reducible first | exact HB.out | apply below_alloc | apply pw_below_drewN | apply below_drew1) | exact HB.out)))); have n0_ := Aside0.mk (below_step (by repeat (first | (with_reducible first | exact HB.out | apply below_alloc | apply pw_below_drewN | apply below_drew1) | exact HB.out)) hb); clear HB; have HB := n0_; clear n0_; have HT := m_; clear m_; have z_ := Aside0.mk hsz_; clear hsz_; have HHTZ := z_; clear z_ hb ho; obtain ⟨AT, cT, eT⟩ := Kd.S_slice HT.out; subst eT)
      | ((with_reducible refine gate_callee (f := 15) rfl ?_); refine goesL_ (some 40) rfl rfl Try.func15 (by kernel_rfl) rfl #[.slice A2 l2.length c2] rfl (by (try simp only [List.map_toArray, List.map_cons, List.map_nil]); first | done | rfl) ?_; (with_reducible refine (laws_toIntS.calls k _ _ l2 l2 _ ?s0 HC2.out HT2.out).mono ?_); (case s0 => repeat (first | (with_reducible exact (Kd.C_below HR2.out HB.out)) | (with_reducible refine Kd.C_alloc ?_ _) | (with_reducible refine Kd.C_drewN ?_ _) | (with_reducible refine Kd.C_drew ?_))); rintro e w19 ⟨vTB, rfl, ho, hb⟩; refine ⟨_, rfl, ?_⟩; have hsz_ := hb.size; have m_ := Aside0.mk (Kd.R_lower (Kd.R_mono (ok' := fun k_ => _root_.True ∧ _root_.True) (Kd.R_bound ho) (fun k_ hk_ => ⟨trivial, trivial⟩)) (below_size (by repeat (first | (with_reducible first | exact HB.out | apply below_alloc | apply pw_below_drewN | apply below_drew1) | exact HB.out)))); have n0_ := Aside0.mk (below_step (by repeat (first | (with_reducible first | exact HB.out | apply below_alloc | apply pw_below_drewN | apply below_drew1) | exact HB.out)) hb); have n1_ := Aside0.mk (Kd.S_below (by (with_reducible repeat (first | apply Kd.S_alloc | apply Kd.S_drewN | apply Kd.S_drew)); exact HT.out) hb); clear HB; clear HT; have HB := n0_; have HT := n1_; clear n0_ n1_; have HTB := m_; clear m_; have z_ := Aside0.mk hsz_; clear hsz_; have HHTBZ := z_; clear z_ hb ho; obtain ⟨ATB, cTB, eTB⟩ := Kd.R_slice HTB.out; subst eTB)
      | ((with_reducible refine gate_callee (f := 15) rfl ?_); refine goesL_ (some 42) rfl rfl Try.func15 (by kernel_rfl) rfl #[.slice A3 l3.length c3] rfl (by (try simp only [List.map_toArray, List.map_cons, List.map_nil]); first | done | rfl) ?_; (with_reducible refine (laws_toIntS.calls k _ _ l3 l3 _ ?s0 HC3.out HT3.out).mono ?_); (case s0 => repeat (first | (with_reducible exact (Kd.C_below HR3.out HB.out)) | (with_reducible refine Kd.C_alloc ?_ _) | (with_reducible refine Kd.C_drewN ?_ _) | (with_reducible refine Kd.C_drew ?_))); rintro e w20 ⟨vTC, rfl, ho, hb⟩; refine ⟨_, rfl, ?_⟩; have hsz_ := hb.size; have m_ := Aside0.mk (Kd.R_lower (Kd.R_mono (ok' := fun k_ => _root_.True ∧ _root_.True) (Kd.R_bound ho) (fun k_ hk_ => ⟨trivial, trivial⟩)) (below_size (by repeat (first | (with_reducible first | exact HB.out | apply below_alloc | apply pw_below_drewN | apply below_drew1) | exact HB.out)))); have n0_ := Aside0.mk (below_step (by repeat (first | (with_reducible first | exact HB.out | apply below_alloc | apply pw_below_drewN | apply below_drew1) | exact HB.out)) hb); have n1_ := Aside0.mk (Kd.S_below (by (with_reducible repeat (first | apply Kd.S_alloc | apply Kd.S_drewN | apply Kd.S_drew)); exact HT.out) hb); have n2_ := Aside0.mk (Kd.R_below (by (with_reducible repeat (first | apply Kd.R_alloc | apply Kd.R_drewN | apply Kd.R_drew)); exact HTB.out) hb); clear HB; clear HT; clear HTB; have HB := n0_; have HT := n1_; have HTB := n2_; clear n0_ n1_ n2_; have HTC := m_; clear m_; have z_ := Aside0.mk hsz_; clear hsz_; have HHTCZ := z_; clear z_ hb ho; obtain ⟨ATC, cTC, eTC⟩ := Kd.R_slice HTC.out; subst eTC)
      | ((with_reducible refine gate_callee (f := 11) rfl ?_); refine goesL_ (some 44) rfl rfl Try.func11 (by kernel_rfl) rfl #[.int .i64 a0, .slice AT l1.length cT, .slice ATB l2.length cTB, .slice ATC l3.length cTC, .int .i64 a4] rfl (by (try simp only [List.map_toArray, List.map_cons, List.map_nil]); first | done | rfl) ?_; (with_reducible refine (spec_RunLink.calls k a0 _ _ l1 _ _ l2 _ _ l3 a4 gt rn sn dn ok _ ?s0 ?s1 ?s2 ?s3 ?s4 ?s5 HSP.out).mono ?_); (case s0 => repeat (first | (with_reducible exact (Kd.S_reads' HT.out).2.2) | (with_reducible refine Kd.C_alloc ?_ _) | (with_reducible refine Kd.C_drewN ?_ _) | (with_reducible refine Kd.C_drew ?_))); (case s1 => exact (Kd.S_reads' HT.out).2.1); (case s2 => repeat (first | (with_reducible exact (Kd.R_reads' HTB.out).2.2) | (with_reducible refine Kd.C_alloc ?_ _) | (with_reducible refine Kd.C_drewN ?_ _) | (with_reducible refine Kd.C_drew ?_))); (case s3 => exact (Kd.R_reads' HTB.out).2.1); (case s4 => repeat (first | (with_reducible exact (Kd.R_reads' HTC.out).2.2) | (with_reducible refine Kd.C_alloc ?_ _) | (with_reducible refine Kd.C_drewN ?_ _) | (with_reducible refine Kd.C_drew ?_))); (case s5 => exact (Kd.R_reads' HTC.out).2.1); rintro e w22 ⟨vW, rfl, ho, hb⟩; refine ⟨_, rfl, ?_⟩; have hsz_ := hb.size; have m_ := Aside0.mk (Kd.S_lower (Kd.S_mono (ok' := fun k_ => w20.heap.size ≤ k_ ∧ k_ < w22.heap.size) (Kd.S_bound ho) (fun k_ hk_ => ⟨hk_.2.1, hk_.2.2.1⟩)) (below_size (by repeat (first | (with_reducible first | exact HB.out | apply below_alloc | apply pw_below_drewN | apply below_drew1) | exact HB.out)))); have n0_ := Aside0.mk (below_step (by repeat (first | (with_reducible first | exact HB.out | apply below_alloc | apply pw_below_drewN | apply below_drew1) | exact HB.out)) hb); clear HB; have HB := n0_; clear n0_; have HW := m_; clear m_; have z_ := Aside0.mk hsz_; clear hsz_; have HHWZ := z_; clear z_ hb ho; obtain ⟨AW, cW, eW⟩ := Kd.S_slice HW.out; subst eW)
      | ((with_reducible refine gate_dst (N := 12) rfl ?_); refine box_event ?hg (N := 12) ?hd (cs := #[.slice none 0 0, .int .i64 0, .int .i64 0, .bool false]) (t := 28) ?hr ?_; (case hd => rfl); (case hg => rfl); (case hr => first | (go_simp; done) | (go_simp; rfl)); intro gb0 hg w26 hbox hb; have hsz_ := hb.size; have q0_ := Aside0.mk hg; have q4_ := Aside0.mk (show w.heap.size ≤ gb0 by rw [hg]; exact below_size (by repeat (first | (with_reducible first | exact HB.out | apply below_alloc | apply pw_below_drewN | apply below_drew1) | exact HB.out))); have q1_ := Aside0.mk hbox; have q2_ := Aside0.mk hsz_; have n0_ := Aside0.mk (Kd.S_below (by (with_reducible repeat (first | apply Kd.S_alloc | apply Kd.S_drewN | apply Kd.S_drew)); exact HW.out) hb); have n1_ := Aside0.mk (below_step (by repeat (first | (with_reducible first | exact HB.out | apply below_alloc | apply pw_below_drewN | apply below_drew1) | exact HB.out)) hb); clear HW; clear HB; have HW := n0_; have HB := n1_; clear n0_ n1_; clear hb hbox hg hsz_; have BK0 := q1_; have BK0W := q4_; clear q4_; have BK0G := q0_; have BK0Z := q2_; clear q0_ q1_ q2_; have hzgb0_0 : w26.cell? ⟨gb0, 0, none⟩ = some (.slice none 0 0) := (blk_cell BK0.out 0).trans rfl; have hfgb0_0 := blk_frozen BK0.out 0; have hzgb0_1 : w26.cell? ⟨gb0, 1, none⟩ = some (.int .i64 0) := (blk_cell BK0.out 1).trans rfl; have hfgb0_1 := blk_frozen BK0.out 1; have hzgb0_2 : w26.cell? ⟨gb0, 2, none⟩ = some (.int .i64 0) := (blk_cell BK0.out 2).trans rfl; have hfgb0_2 := blk_frozen BK0.out 2; have hzgb0_3 : w26.cell? ⟨gb0, 3, none⟩ = some (.bool false) := (blk_cell BK0.out 3).trans rfl; have hfgb0_3 := blk_frozen BK0.out 3))
  (try simp only [Act.put, List.setIfInBounds_toArray, List.set_cons_zero, List.set_cons_succ])
  have hst := stored4 BK0.out (.slice AW gt.length cW) (.int .i64 rn) (.int .i64 sn) (.bool dn)
  have hg0 : w.heap.size ≤ gb0 := by have := BK0W.out; exact this
  clear hzgb0_0 hzgb0_1 hzgb0_2 hzgb0_3 hfgb0_0 hfgb0_1 hfgb0_2 hfgb0_3
  generalize hW5 : (((w26.setCell ⟨gb0, 0, none⟩ (.slice AW gt.length cW)).setCell ⟨gb0, 1, none⟩ (.int .i64 rn)).setCell ⟨gb0, 2, none⟩ (.int .i64 sn)).setCell ⟨gb0, 3, none⟩ (.bool dn) = W5 at hst ⊢
  clear hW5
  obtain ⟨s1, s2, s3, s4⟩ := hst
  have n0_ := Aside0.mk (Kd.S_kept (Kd.S_mono (ok' := fun k_ => k_ < gb0) HW.out (fun k_ hk_ => by have h1_ : k_ < w22.heap.size := hk_.2; have h2_ := BK0G.out; omega)) s2 (fun k_ (hk_ : k_ < gb0) (hs_ : k_ = gb0) => by omega))
  have n1_ := Aside0.mk (s3 w HB.out hg0)
  have n2_ := Aside0.mk s1
  have n3_ := Aside0.mk (show gb0 < W5.heap.size by have h1_ := blk_lt BK0.out; omega)
  have n4_ := Aside0.mk hg0
  clear HW HB BK0 BK0G BK0Z BK0W s1 s2 s3 s4 hg0
  have HW := n0_
  have HB := n1_
  have BK0 := n2_
  have HG0 := n3_
  have HG0W := n4_
  clear n0_ n1_ n2_ n3_ n4_
  go_upto_region 14 with (first
      | ((with_reducible refine gate_callee (f := 14) rfl ?_); refine goesL_ (some 48) rfl rfl Try.func14 (by kernel_rfl) rfl #[.slice A1 l1.length c1] rfl (by (try simp only [List.map_toArray, List.map_cons, List.map_nil]); first | done | rfl) ?_; (with_reducible refine (laws_toByteSS.calls k _ _ l1 l1 _ ?s0 HC1.out HT1.out).mono ?_); (case s0 => repeat (first | (with_reducible exact (Kd.C_below HR1.out HB.out)) | (with_reducible refine Kd.C_alloc ?_ _) | (with_reducible refine Kd.C_drewN ?_ _) | (with_reducible refine Kd.C_drew ?_))); rintro e w6 ⟨vX1, rfl, ho, hb⟩; refine ⟨_, rfl, ?_⟩; have hsz_ := hb.size; have m_ := Aside0.mk (Kd.S_lower (Kd.S_mono (ok' := fun k_ => W5.heap.size ≤ k_ ∧ k_ < w6.heap.size) (Kd.S_bound ho) (fun k_ hk_ => ⟨hk_.2.1, hk_.2.2.1⟩)) (below_size (by repeat (first | (with_reducible first | exact HB.out | apply below_alloc | apply pw_below_drewN | apply below_drew1) | exact HB.out)))); have n0_ := Aside0.mk (below_step (by repeat (first | (with_reducible first | exact HB.out | apply below_alloc | apply pw_below_drewN | apply below_drew1) | exact HB.out)) hb); have n1_ := Aside0.mk (Kd.S_below (by (with_reducible repeat (first | apply Kd.S_alloc | apply Kd.S_drewN | apply Kd.S_drew)); exact HW.out) hb); have n2_ := Aside0.mk (blk_below (g := gb0) (o := .cells #[.slice AW gt.length cW, .int .i64 rn, .int .i64 sn, .bool dn] 28 (0, 0)) (by (with_reducible repeat (first | refine blk_drewN ?_ _ | refine blk_drew ?_ | refine blk_alloc ?_ _)); exact BK0.out) hb); clear HB; clear HW; clear BK0; have HB := n0_; have HW := n1_; have BK0 := n2_; clear n0_ n1_ n2_; have HX1 := m_; clear m_; have z_ := Aside0.mk hsz_; clear hsz_; have HHX1Z := z_; clear z_ hb ho; obtain ⟨AX1, cX1, eX1⟩ := Kd.S_slice HX1.out; subst eX1)
      | ((with_reducible refine gate_callee (f := 15) rfl ?_); refine goesL_ (some 50) rfl rfl Try.func15 (by kernel_rfl) rfl #[.slice A2 l2.length c2] rfl (by (try simp only [List.map_toArray, List.map_cons, List.map_nil]); first | done | rfl) ?_; (with_reducible refine (laws_toIntS.calls k _ _ l2 l2 _ ?s0 HC2.out HT2.out).mono ?_); (case s0 => repeat (first | (with_reducible exact (Kd.C_below HR2.out HB.out)) | (with_reducible refine Kd.C_alloc ?_ _) | (with_reducible refine Kd.C_drewN ?_ _) | (with_reducible refine Kd.C_drew ?_))); rintro e w7 ⟨vX2, rfl, ho, hb⟩; refine ⟨_, rfl, ?_⟩; have hsz_ := hb.size; have m_ := Aside0.mk (Kd.R_lower (Kd.R_mono (ok' := fun k_ => w6.heap.size ≤ k_ ∧ k_ < w7.heap.size) (Kd.R_bound ho) (fun k_ hk_ => ⟨hk_.2.1, hk_.2.2.1⟩)) (below_size (by repeat (first | (with_reducible first | exact HB.out | apply below_alloc | apply pw_below_drewN | apply below_drew1) | exact HB.out)))); have n0_ := Aside0.mk (below_step (by repeat (first | (with_reducible first | exact HB.out | apply below_alloc | apply pw_below_drewN | apply below_drew1) | exact HB.out)) hb); have n1_ := Aside0.mk (Kd.S_below (by (with_reducible repeat (first | apply Kd.S_alloc | apply Kd.S_drewN | apply Kd.S_drew)); exact HW.out) hb); have n2_ := Aside0.mk (blk_below (g := gb0) (o := .cells #[.slice AW gt.length cW, .int .i64 rn, .int .i64 sn, .bool dn] 28 (0, 0)) (by (with_reducible repeat (first | refine blk_drewN ?_ _ | refine blk_drew ?_ | refine blk_alloc ?_ _)); exact BK0.out) hb); have n3_ := Aside0.mk (Kd.S_below (by (with_reducible repeat (first | apply Kd.S_alloc | apply Kd.S_drewN | apply Kd.S_drew)); exact HX1.out) hb); clear HB; clear HW; clear BK0; clear HX1; have HB := n0_; have HW := n1_; have BK0 := n2_; have HX1 := n3_; clear n0_ n1_ n2_ n3_; have HX2 := m_; clear m_; have z_ := Aside0.mk hsz_; clear hsz_; have HHX2Z := z_; clear z_ hb ho; obtain ⟨AX2, cX2, eX2⟩ := Kd.R_slice HX2.out; subst eX2)
      | ((with_reducible refine gate_callee (f := 15) rfl ?_); refine goesL_ (some 52) rfl rfl Try.func15 (by kernel_rfl) rfl #[.slice A3 l3.length c3] rfl (by (try simp only [List.map_toArray, List.map_cons, List.map_nil]); first | done | rfl) ?_; (with_reducible refine (laws_toIntS.calls k _ _ l3 l3 _ ?s0 HC3.out HT3.out).mono ?_); (case s0 => repeat (first | (with_reducible exact (Kd.C_below HR3.out HB.out)) | (with_reducible refine Kd.C_alloc ?_ _) | (with_reducible refine Kd.C_drewN ?_ _) | (with_reducible refine Kd.C_drew ?_))); rintro e w8 ⟨vX3, rfl, ho, hb⟩; refine ⟨_, rfl, ?_⟩; have hsz_ := hb.size; have m_ := Aside0.mk (Kd.R_lower (Kd.R_mono (ok' := fun k_ => w7.heap.size ≤ k_ ∧ k_ < w8.heap.size) (Kd.R_bound ho) (fun k_ hk_ => ⟨hk_.2.1, hk_.2.2.1⟩)) (below_size (by repeat (first | (with_reducible first | exact HB.out | apply below_alloc | apply pw_below_drewN | apply below_drew1) | exact HB.out)))); have n0_ := Aside0.mk (below_step (by repeat (first | (with_reducible first | exact HB.out | apply below_alloc | apply pw_below_drewN | apply below_drew1) | exact HB.out)) hb); have n1_ := Aside0.mk (Kd.S_below (by (with_reducible repeat (first | apply Kd.S_alloc | apply Kd.S_drewN | apply Kd.S_drew)); exact HW.out) hb); have n2_ := Aside0.mk (blk_below (g := gb0) (o := .cells #[.slice AW gt.length cW, .int .i64 rn, .int .i64 sn, .bool dn] 28 (0, 0)) (by (with_reducible repeat (first | refine blk_drewN ?_ _ | refine blk_drew ?_ | refine blk_alloc ?_ _)); exact BK0.out) hb); have n3_ := Aside0.mk (Kd.S_below (by (with_reducible repeat (first | apply Kd.S_alloc | apply Kd.S_drewN | apply Kd.S_drew)); exact HX1.out) hb); have n4_ := Aside0.mk (Kd.R_below (by (with_reducible repeat (first | apply Kd.R_alloc | apply Kd.R_drewN | apply Kd.R_drew)); exact HX2.out) hb); clear HB; clear HW; clear BK0; clear HX1; clear HX2; have HB := n0_; have HW := n1_; have BK0 := n2_; have HX1 := n3_; have HX2 := n4_; clear n0_ n1_ n2_ n3_ n4_; have HX3 := m_; clear m_; have z_ := Aside0.mk hsz_; clear hsz_; have HHX3Z := z_; clear z_ hb ho; obtain ⟨AX3, cX3, eX3⟩ := Kd.R_slice HX3.out; subst eX3)
      | ((with_reducible refine gate_callee (f := 10) rfl ?_); refine goesL_ (some 59) rfl rfl Try.func10 (by kernel_rfl) rfl #[.int .i64 a0, .slice AX1 l1.length cX1, .slice AX2 l2.length cX2, .slice AX3 l3.length cX3, .int .i64 a4] rfl (by (try simp only [List.map_toArray, List.map_cons, List.map_nil]); first | done | rfl) ?_; (with_reducible refine (impl_RunLink.calls k a0 _ _ l1 _ _ l2 _ _ l3 a4 gt rn sn dn ok _ ?s0 ?s1 ?s2 ?s3 ?s4 ?s5 HIM.out).mono ?_); (case s0 => repeat (first | (with_reducible exact (Kd.S_reads' HX1.out).2.2) | (with_reducible refine Kd.C_alloc ?_ _) | (with_reducible refine Kd.C_drewN ?_ _) | (with_reducible refine Kd.C_drew ?_))); (case s1 => exact (Kd.S_reads' HX1.out).2.1); (case s2 => repeat (first | (with_reducible exact (Kd.R_reads' HX2.out).2.2) | (with_reducible refine Kd.C_alloc ?_ _) | (with_reducible refine Kd.C_drewN ?_ _) | (with_reducible refine Kd.C_drew ?_))); (case s3 => exact (Kd.R_reads' HX2.out).2.1); (case s4 => repeat (first | (with_reducible exact (Kd.R_reads' HX3.out).2.2) | (with_reducible refine Kd.C_alloc ?_ _) | (with_reducible refine Kd.C_drewN ?_ _) | (with_reducible refine Kd.C_drew ?_))); (case s5 => exact (Kd.R_reads' HX3.out).2.1); rintro e w9 ⟨vG, rfl, ho, hb⟩; refine ⟨_, rfl, ?_⟩; have hsz_ := hb.size; have m_ := Aside0.mk (Kd.S_lower (Kd.S_mono (ok' := fun k_ => w8.heap.size ≤ k_ ∧ k_ < w9.heap.size) (Kd.S_bound ho) (fun k_ hk_ => ⟨hk_.2.1, hk_.2.2.1⟩)) (below_size (by repeat (first | (with_reducible first | exact HB.out | apply below_alloc | apply pw_below_drewN | apply below_drew1) | exact HB.out)))); have n0_ := Aside0.mk (below_step (by repeat (first | (with_reducible first | exact HB.out | apply below_alloc | apply pw_below_drewN | apply below_drew1) | exact HB.out)) hb); have n1_ := Aside0.mk (Kd.S_below (by (with_reducible repeat (first | apply Kd.S_alloc | apply Kd.S_drewN | apply Kd.S_drew)); exact HW.out) hb); have n2_ := Aside0.mk (blk_below (g := gb0) (o := .cells #[.slice AW gt.length cW, .int .i64 rn, .int .i64 sn, .bool dn] 28 (0, 0)) (by (with_reducible repeat (first | refine blk_drewN ?_ _ | refine blk_drew ?_ | refine blk_alloc ?_ _)); exact BK0.out) hb); have n3_ := Aside0.mk (Kd.S_below (by (with_reducible repeat (first | apply Kd.S_alloc | apply Kd.S_drewN | apply Kd.S_drew)); exact HX1.out) hb); have n4_ := Aside0.mk (Kd.R_below (by (with_reducible repeat (first | apply Kd.R_alloc | apply Kd.R_drewN | apply Kd.R_drew)); exact HX2.out) hb); have n5_ := Aside0.mk (Kd.R_below (by (with_reducible repeat (first | apply Kd.R_alloc | apply Kd.R_drewN | apply Kd.R_drew)); exact HX3.out) hb); clear HB; clear HW; clear BK0; clear HX1; clear HX2; clear HX3; have HB := n0_; have HW := n1_; have BK0 := n2_; have HX1 := n3_; have HX2 := n4_; have HX3 := n5_; clear n0_ n1_ n2_ n3_ n4_ n5_; have HG := m_; clear m_; have z_ := Aside0.mk hsz_; clear hsz_; have HHGZ := z_; clear z_ hb ho; obtain ⟨AG, cG, eG⟩ := Kd.S_slice HG.out; subst eG)
      | ((with_reducible refine gate_dst (N := 17) rfl ?_); refine box_event ?hg (N := 17) ?hd (cs := #[.slice none 0 0, .int .i64 0, .int .i64 0, .bool false]) (t := 28) ?hr ?_; (case hd => rfl); (case hg => rfl); (case hr => first | (go_simp; done) | (go_simp; rfl)); intro gb1 hg w36 hbox hb; have hsz_ := hb.size; have q0_ := Aside0.mk hg; have q4_ := Aside0.mk (show w.heap.size ≤ gb1 by rw [hg]; exact below_size (by repeat (first | (with_reducible first | exact HB.out | apply below_alloc | apply pw_below_drewN | apply below_drew1) | exact HB.out))); have q1_ := Aside0.mk hbox; have q2_ := Aside0.mk hsz_; have n0_ := Aside0.mk (below_step (by repeat (first | (with_reducible first | exact HB.out | apply below_alloc | apply pw_below_drewN | apply below_drew1) | exact HB.out)) hb); have n1_ := Aside0.mk (Kd.S_below (by (with_reducible repeat (first | apply Kd.S_alloc | apply Kd.S_drewN | apply Kd.S_drew)); exact HW.out) hb); have n2_ := Aside0.mk (blk_below (g := gb0) (o := .cells #[.slice AW gt.length cW, .int .i64 rn, .int .i64 sn, .bool dn] 28 (0, 0)) (by (with_reducible repeat (first | refine blk_drewN ?_ _ | refine blk_drew ?_ | refine blk_alloc ?_ _)); exact BK0.out) hb); have n3_ := Aside0.mk (Kd.S_below (by (with_reducible repeat (first | apply Kd.S_alloc | apply Kd.S_drewN | apply Kd.S_drew)); exact HX1.out) hb); have n4_ := Aside0.mk (Kd.R_below (by (with_reducible repeat (first | apply Kd.R_alloc | apply Kd.R_drewN | apply Kd.R_drew)); exact HX2.out) hb); have n5_ := Aside0.mk (Kd.R_below (by (with_reducible repeat (first | apply Kd.R_alloc | apply Kd.R_drewN | apply Kd.R_drew)); exact HX3.out) hb); have n6_ := Aside0.mk (Kd.S_below (by (with_reducible repeat (first | apply Kd.S_alloc | apply Kd.S_drewN | apply Kd.S_drew)); exact HG.out) hb); clear HB; clear HW; clear BK0; clear HX1; clear HX2; clear HX3; clear HG; have HB := n0_; have HW := n1_; have BK0 := n2_; have HX1 := n3_; have HX2 := n4_; have HX3 := n5_; have HG := n6_; clear n0_ n1_ n2_ n3_ n4_ n5_ n6_; clear hb hbox hg hsz_; have BK1 := q1_; have BK1W := q4_; clear q4_; have BK1G := q0_; have BK1Z := q2_; clear q0_ q1_ q2_; have hzgb1_0 : w36.cell? ⟨gb1, 0, none⟩ = some (.slice none 0 0) := (blk_cell BK1.out 0).trans rfl; have hfgb1_0 := blk_frozen BK1.out 0; have hzgb1_1 : w36.cell? ⟨gb1, 1, none⟩ = some (.int .i64 0) := (blk_cell BK1.out 1).trans rfl; have hfgb1_1 := blk_frozen BK1.out 1; have hzgb1_2 : w36.cell? ⟨gb1, 2, none⟩ = some (.int .i64 0) := (blk_cell BK1.out 2).trans rfl; have hfgb1_2 := blk_frozen BK1.out 2; have hzgb1_3 : w36.cell? ⟨gb1, 3, none⟩ = some (.bool false) := (blk_cell BK1.out 3).trans rfl; have hfgb1_3 := blk_frozen BK1.out 3))
  (try simp only [Act.put, List.setIfInBounds_toArray, List.set_cons_zero, List.set_cons_succ])
  have hst := stored4 BK1.out (.slice AG gt.length cG) (.int .i64 rn) (.int .i64 sn) (.bool dn)
  have hg1 : w.heap.size ≤ gb1 := by have := BK1W.out; exact this
  clear hzgb1_0 hzgb1_1 hzgb1_2 hzgb1_3 hfgb1_0 hfgb1_1 hfgb1_2 hfgb1_3
  generalize hW11 : (((w36.setCell ⟨gb1, 0, none⟩ (.slice AG gt.length cG)).setCell ⟨gb1, 1, none⟩ (.int .i64 rn)).setCell ⟨gb1, 2, none⟩ (.int .i64 sn)).setCell ⟨gb1, 3, none⟩ (.bool dn) = W11 at hst ⊢
  clear hW11
  obtain ⟨s1, s2, s3, s4⟩ := hst
  have HN := Aside0.mk (show gb0 < W5.heap.size ∧ W5.heap.size ≤ w6.heap.size ∧ w6.heap.size ≤ w7.heap.size ∧ w7.heap.size ≤ w8.heap.size ∧ w8.heap.size ≤ gb1 from ⟨HG0.out, HHX1Z.out, HHX2Z.out, HHX3Z.out, by have h1_ := BK1G.out; have h2_ := HHGZ.out; omega⟩)
  have n0_ := Aside0.mk (Kd.S_kept HW.out s2 (fun k_ (hk_ : k_ < gb0) (hs_ : k_ = gb1) => by have hn_ := HN.out; omega))
  have n1_ := Aside0.mk (s3 w HB.out hg1)
  have n2_ := Aside0.mk s1
  have n3_ := Aside0.mk (blk_kept BK0.out s2 (fun (hs_ : gb0 = gb1) => by have hn_ := HN.out; omega))
  have n4_ := Aside0.mk (Kd.S_kept HX1.out s2 (fun k_ (hk_ : W5.heap.size ≤ k_ ∧ k_ < w6.heap.size) (hs_ : k_ = gb1) => by have hn_ := HN.out; omega))
  have n5_ := Aside0.mk (Kd.R_kept HX2.out s2 (fun k_ (hk_ : w6.heap.size ≤ k_ ∧ k_ < w7.heap.size) (hs_ : k_ = gb1) => by have hn_ := HN.out; omega))
  have n6_ := Aside0.mk (Kd.R_kept HX3.out s2 (fun k_ (hk_ : w7.heap.size ≤ k_ ∧ k_ < w8.heap.size) (hs_ : k_ = gb1) => by have hn_ := HN.out; omega))
  have n7_ := Aside0.mk (Kd.S_kept (Kd.S_mono (ok' := fun k_ => w8.heap.size ≤ k_ ∧ k_ < gb1) HG.out (fun k_ hk_ => ⟨hk_.1, by have h1_ : k_ < w9.heap.size := hk_.2; have h2_ := BK1G.out; omega⟩)) s2 (fun k_ (hk_ : w8.heap.size ≤ k_ ∧ k_ < gb1) (hs_ : k_ = gb1) => by omega))
  clear HW HB BK1 BK0 HX1 HX2 HX3 HG BK1G BK1Z BK1W s1 s2 s3 s4 hg1 HG0 HHX1Z HHX2Z HHX3Z HHGZ
  have HW := n0_
  have HB := n1_
  have BK1 := n2_
  have BK0 := n3_
  have HX1 := n4_
  have HX2 := n5_
  have HX3 := n6_
  have HG := n7_
  clear n0_ n1_ n2_ n3_ n4_ n5_ n6_ n7_
  have hnb : ¬ gb0 = gb1 := by have hn_ := HN.out; omega
  have hnc : ¬ gb1 = gb0 := by have hn_ := HN.out; omega
  have hca_0 : W11.cell? ⟨gb0, 0, none⟩ = some (.slice AW gt.length cW) := (blk_cell BK0.out 0).trans rfl
  have hca_1 : W11.cell? ⟨gb0, 1, none⟩ = some (.int .i64 rn) := (blk_cell BK0.out 1).trans rfl
  have hca_2 : W11.cell? ⟨gb0, 2, none⟩ = some (.int .i64 sn) := (blk_cell BK0.out 2).trans rfl
  have hca_3 : W11.cell? ⟨gb0, 3, none⟩ = some (.bool dn) := (blk_cell BK0.out 3).trans rfl
  have hcb_0 : W11.cell? ⟨gb1, 0, none⟩ = some (.slice AG gt.length cG) := (blk_cell BK1.out 0).trans rfl
  have hcb_1 : W11.cell? ⟨gb1, 1, none⟩ = some (.int .i64 rn) := (blk_cell BK1.out 1).trans rfl
  have hcb_2 : W11.cell? ⟨gb1, 2, none⟩ = some (.int .i64 sn) := (blk_cell BK1.out 2).trans rfl
  have hcb_3 : W11.cell? ⟨gb1, 3, none⟩ = some (.bool dn) := (blk_cell BK1.out 3).trans rfl
  go_upto_region 36 with (first
      | ((with_reducible refine gate_callee (f := 24) rfl ?_); refine goesL_ (some 64) rfl rfl Try.func24 (by kernel_rfl) rfl #[.agg #[.slice AG gt.length cG, .int .i64 rn, .int .i64 sn, .bool dn], .agg #[.slice AW gt.length cW, .int .i64 rn, .int .i64 sn, .bool dn]] rfl (by (try simp only [List.map_toArray, List.map_cons, List.map_nil]); first | done | rfl) ?_; (with_reducible refine (laws_eqLinkRun.calls k _ _ gt rn sn dn _ _ gt rn sn dn true _ ?s0 ?s1 ?s2 ?s3 HEQ.out).mono ?_); (case s0 => repeat (first | (with_reducible exact (Kd.S_reads' HG.out).2.2) | (with_reducible refine Kd.C_alloc ?_ _) | (with_reducible refine Kd.C_drewN ?_ _) | (with_reducible refine Kd.C_drew ?_))); (case s1 => exact (Kd.S_reads' HG.out).2.1); (case s2 => repeat (first | (with_reducible exact (Kd.S_reads' HW.out).2.2) | (with_reducible refine Kd.C_alloc ?_ _) | (with_reducible refine Kd.C_drewN ?_ _) | (with_reducible refine Kd.C_drew ?_))); (case s3 => exact (Kd.S_reads' HW.out).2.1); rintro e w' ⟨rfl, hb⟩; refine ⟨_, rfl, ?_⟩; have n0_ := Aside0.mk (below_step (by repeat (first | (with_reducible first | exact HB.out | apply below_alloc | apply pw_below_drewN | apply below_drew1) | exact HB.out)) hb); have n1_ := Aside0.mk (Kd.S_below (by (with_reducible repeat (first | apply Kd.S_alloc | apply Kd.S_drewN | apply Kd.S_drew)); exact HW.out) hb); have n2_ := Aside0.mk (blk_below (g := gb0) (o := .cells #[.slice AW gt.length cW, .int .i64 rn, .int .i64 sn, .bool dn] 28 (0, 0)) (by (with_reducible repeat (first | refine blk_drewN ?_ _ | refine blk_drew ?_ | refine blk_alloc ?_ _)); exact BK0.out) hb); have n3_ := Aside0.mk (Kd.S_below (by (with_reducible repeat (first | apply Kd.S_alloc | apply Kd.S_drewN | apply Kd.S_drew)); exact HX1.out) hb); have n4_ := Aside0.mk (Kd.R_below (by (with_reducible repeat (first | apply Kd.R_alloc | apply Kd.R_drewN | apply Kd.R_drew)); exact HX2.out) hb); have n5_ := Aside0.mk (Kd.R_below (by (with_reducible repeat (first | apply Kd.R_alloc | apply Kd.R_drewN | apply Kd.R_drew)); exact HX3.out) hb); have n6_ := Aside0.mk (Kd.S_below (by (with_reducible repeat (first | apply Kd.S_alloc | apply Kd.S_drewN | apply Kd.S_drew)); exact HG.out) hb); have n7_ := Aside0.mk (blk_below (g := gb1) (o := .cells #[.slice AG gt.length cG, .int .i64 rn, .int .i64 sn, .bool dn] 28 (0, 0)) (by (with_reducible repeat (first | refine blk_drewN ?_ _ | refine blk_drew ?_ | refine blk_alloc ?_ _)); exact BK1.out) hb); clear HB; clear HW; clear BK0; clear HX1; clear HX2; clear HX3; clear HG; clear BK1; have HB := n0_; have HW := n1_; have BK0 := n2_; have HX1 := n3_; have HX2 := n4_; have HX3 := n5_; have HG := n6_; have BK1 := n7_; clear n0_ n1_ n2_ n3_ n4_ n5_ n6_ n7_; clear hb)
      | ((with_reducible refine gate_callee (f := 14) rfl ?_); refine goesL_ (some 73) rfl rfl Try.func14 (by kernel_rfl) rfl #[.slice A1 l1.length c1] rfl (by (try simp only [List.map_toArray, List.map_cons, List.map_nil]); first | done | rfl) ?_; (with_reducible refine (laws_toByteSS.calls k _ _ l1 l1 _ ?s0 HC1.out HT1.out).mono ?_); (case s0 => repeat (first | (with_reducible exact (Kd.C_below HR1.out HB.out)) | (with_reducible refine Kd.C_alloc ?_ _) | (with_reducible refine Kd.C_drewN ?_ _) | (with_reducible refine Kd.C_drew ?_))); rintro e w41 ⟨vY1, rfl, ho, hb⟩; refine ⟨_, rfl, ?_⟩; have n0_ := Aside0.mk (below_step (by repeat (first | (with_reducible first | exact HB.out | apply below_alloc | apply pw_below_drewN | apply below_drew1) | exact HB.out)) hb); have n1_ := Aside0.mk (Kd.S_below (by (with_reducible repeat (first | apply Kd.S_alloc | apply Kd.S_drewN | apply Kd.S_drew)); exact HW.out) hb); have n2_ := Aside0.mk (blk_below (g := gb0) (o := .cells #[.slice AW gt.length cW, .int .i64 rn, .int .i64 sn, .bool dn] 28 (0, 0)) (by (with_reducible repeat (first | refine blk_drewN ?_ _ | refine blk_drew ?_ | refine blk_alloc ?_ _)); exact BK0.out) hb); have n3_ := Aside0.mk (Kd.S_below (by (with_reducible repeat (first | apply Kd.S_alloc | apply Kd.S_drewN | apply Kd.S_drew)); exact HX1.out) hb); have n4_ := Aside0.mk (Kd.R_below (by (with_reducible repeat (first | apply Kd.R_alloc | apply Kd.R_drewN | apply Kd.R_drew)); exact HX2.out) hb); have n5_ := Aside0.mk (Kd.R_below (by (with_reducible repeat (first | apply Kd.R_alloc | apply Kd.R_drewN | apply Kd.R_drew)); exact HX3.out) hb); have n6_ := Aside0.mk (Kd.S_below (by (with_reducible repeat (first | apply Kd.S_alloc | apply Kd.S_drewN | apply Kd.S_drew)); exact HG.out) hb); have n7_ := Aside0.mk (blk_below (g := gb1) (o := .cells #[.slice AG gt.length cG, .int .i64 rn, .int .i64 sn, .bool dn] 28 (0, 0)) (by (with_reducible repeat (first | refine blk_drewN ?_ _ | refine blk_drew ?_ | refine blk_alloc ?_ _)); exact BK1.out) hb); clear HB; clear HW; clear BK0; clear HX1; clear HX2; clear HX3; clear HG; clear BK1; have HB := n0_; have HW := n1_; have BK0 := n2_; have HX1 := n3_; have HX2 := n4_; have HX3 := n5_; have HG := n6_; have BK1 := n7_; clear n0_ n1_ n2_ n3_ n4_ n5_ n6_ n7_; have HY1 := Aside0.mk ho; clear hb ho; obtain ⟨AY1, cY1, eY1⟩ := Kd.S_slice HY1.out; subst eY1)
      | ((with_reducible refine gate_callee (f := 17) rfl ?_); refine goesL_ (some 74) rfl rfl Try.func17 (by kernel_rfl) rfl #[.slice AX1 l1.length cX1, .slice AY1 l1.length cY1] rfl (by (try simp only [List.map_toArray, List.map_cons, List.map_nil]); first | done | rfl) ?_; (with_reducible refine (laws_eqByteSS.calls k _ _ l1 _ _ l1 true _ ?s0 ?s1 ?s2 ?s3 HE1.out).mono ?_); (case s0 => repeat (first | (with_reducible exact (Kd.S_reads' HX1.out).2.2) | (with_reducible refine Kd.C_alloc ?_ _) | (with_reducible refine Kd.C_drewN ?_ _) | (with_reducible refine Kd.C_drew ?_))); (case s1 => exact (Kd.S_reads' HX1.out).2.1); (case s2 => repeat (first | (with_reducible exact (Kd.S_reads' HY1.out).2.2) | (with_reducible refine Kd.C_alloc ?_ _) | (with_reducible refine Kd.C_drewN ?_ _) | (with_reducible refine Kd.C_drew ?_))); (case s3 => exact (Kd.S_reads' HY1.out).2.1); rintro e w' ⟨rfl, ⟨nd, rfl⟩⟩; refine ⟨_, rfl, ?_⟩)
      | ((with_reducible refine gate_callee (f := 15) rfl ?_); refine goesL_ (some 78) rfl rfl Try.func15 (by kernel_rfl) rfl #[.slice A2 l2.length c2] rfl (by (try simp only [List.map_toArray, List.map_cons, List.map_nil]); first | done | rfl) ?_; (with_reducible refine (laws_toIntS.calls k _ _ l2 l2 _ ?s0 HC2.out HT2.out).mono ?_); (case s0 => repeat (first | (with_reducible exact (Kd.C_below HR2.out HB.out)) | (with_reducible refine Kd.C_alloc ?_ _) | (with_reducible refine Kd.C_drewN ?_ _) | (with_reducible refine Kd.C_drew ?_))); rintro e w42 ⟨vY2, rfl, ho, hb⟩; refine ⟨_, rfl, ?_⟩; have n0_ := Aside0.mk (below_step (by repeat (first | (with_reducible first | exact HB.out | apply below_alloc | apply pw_below_drewN | apply below_drew1) | exact HB.out)) hb); have n1_ := Aside0.mk (Kd.S_below (by (with_reducible repeat (first | apply Kd.S_alloc | apply Kd.S_drewN | apply Kd.S_drew)); exact HW.out) hb); have n2_ := Aside0.mk (blk_below (g := gb0) (o := .cells #[.slice AW gt.length cW, .int .i64 rn, .int .i64 sn, .bool dn] 28 (0, 0)) (by (with_reducible repeat (first | refine blk_drewN ?_ _ | refine blk_drew ?_ | refine blk_alloc ?_ _)); exact BK0.out) hb); have n3_ := Aside0.mk (Kd.S_below (by (with_reducible repeat (first | apply Kd.S_alloc | apply Kd.S_drewN | apply Kd.S_drew)); exact HX1.out) hb); have n4_ := Aside0.mk (Kd.R_below (by (with_reducible repeat (first | apply Kd.R_alloc | apply Kd.R_drewN | apply Kd.R_drew)); exact HX2.out) hb); have n5_ := Aside0.mk (Kd.R_below (by (with_reducible repeat (first | apply Kd.R_alloc | apply Kd.R_drewN | apply Kd.R_drew)); exact HX3.out) hb); have n6_ := Aside0.mk (Kd.S_below (by (with_reducible repeat (first | apply Kd.S_alloc | apply Kd.S_drewN | apply Kd.S_drew)); exact HG.out) hb); have n7_ := Aside0.mk (blk_below (g := gb1) (o := .cells #[.slice AG gt.length cG, .int .i64 rn, .int .i64 sn, .bool dn] 28 (0, 0)) (by (with_reducible repeat (first | refine blk_drewN ?_ _ | refine blk_drew ?_ | refine blk_alloc ?_ _)); exact BK1.out) hb); clear HB; clear HW; clear BK0; clear HX1; clear HX2; clear HX3; clear HG; clear BK1; have HB := n0_; have HW := n1_; have BK0 := n2_; have HX1 := n3_; have HX2 := n4_; have HX3 := n5_; have HG := n6_; have BK1 := n7_; clear n0_ n1_ n2_ n3_ n4_ n5_ n6_ n7_; have HY2 := Aside0.mk ho; clear hb ho; obtain ⟨AY2, cY2, eY2⟩ := Kd.R_slice HY2.out; subst eY2)
      | ((with_reducible refine gate_callee (f := 18) rfl ?_); refine goesL_ (some 79) rfl rfl Try.func18 (by kernel_rfl) rfl #[.slice AX2 l2.length cX2, .slice AY2 l2.length cY2] rfl (by (try simp only [List.map_toArray, List.map_cons, List.map_nil]); first | done | rfl) ?_; (with_reducible refine (laws_eqIntS.calls k _ _ l2 _ _ l2 true _ ?s0 ?s1 ?s2 ?s3 HE2.out).mono ?_); (case s0 => repeat (first | (with_reducible exact (Kd.R_reads' HX2.out).2.2) | (with_reducible refine Kd.C_alloc ?_ _) | (with_reducible refine Kd.C_drewN ?_ _) | (with_reducible refine Kd.C_drew ?_))); (case s1 => exact (Kd.R_reads' HX2.out).2.1); (case s2 => repeat (first | (with_reducible exact (Kd.R_reads' HY2.out).2.2) | (with_reducible refine Kd.C_alloc ?_ _) | (with_reducible refine Kd.C_drewN ?_ _) | (with_reducible refine Kd.C_drew ?_))); (case s3 => exact (Kd.R_reads' HY2.out).2.1); rintro e w' ⟨rfl, ⟨nd, rfl⟩⟩; refine ⟨_, rfl, ?_⟩)
      | ((with_reducible refine gate_callee (f := 15) rfl ?_); refine goesL_ (some 83) rfl rfl Try.func15 (by kernel_rfl) rfl #[.slice A3 l3.length c3] rfl (by (try simp only [List.map_toArray, List.map_cons, List.map_nil]); first | done | rfl) ?_; (with_reducible refine (laws_toIntS.calls k _ _ l3 l3 _ ?s0 HC3.out HT3.out).mono ?_); (case s0 => repeat (first | (with_reducible exact (Kd.C_below HR3.out HB.out)) | (with_reducible refine Kd.C_alloc ?_ _) | (with_reducible refine Kd.C_drewN ?_ _) | (with_reducible refine Kd.C_drew ?_))); rintro e w43 ⟨vY3, rfl, ho, hb⟩; refine ⟨_, rfl, ?_⟩; have n0_ := Aside0.mk (below_step (by repeat (first | (with_reducible first | exact HB.out | apply below_alloc | apply pw_below_drewN | apply below_drew1) | exact HB.out)) hb); have n1_ := Aside0.mk (Kd.S_below (by (with_reducible repeat (first | apply Kd.S_alloc | apply Kd.S_drewN | apply Kd.S_drew)); exact HW.out) hb); have n2_ := Aside0.mk (blk_below (g := gb0) (o := .cells #[.slice AW gt.length cW, .int .i64 rn, .int .i64 sn, .bool dn] 28 (0, 0)) (by (with_reducible repeat (first | refine blk_drewN ?_ _ | refine blk_drew ?_ | refine blk_alloc ?_ _)); exact BK0.out) hb); have n3_ := Aside0.mk (Kd.S_below (by (with_reducible repeat (first | apply Kd.S_alloc | apply Kd.S_drewN | apply Kd.S_drew)); exact HX1.out) hb); have n4_ := Aside0.mk (Kd.R_below (by (with_reducible repeat (first | apply Kd.R_alloc | apply Kd.R_drewN | apply Kd.R_drew)); exact HX2.out) hb); have n5_ := Aside0.mk (Kd.R_below (by (with_reducible repeat (first | apply Kd.R_alloc | apply Kd.R_drewN | apply Kd.R_drew)); exact HX3.out) hb); have n6_ := Aside0.mk (Kd.S_below (by (with_reducible repeat (first | apply Kd.S_alloc | apply Kd.S_drewN | apply Kd.S_drew)); exact HG.out) hb); have n7_ := Aside0.mk (blk_below (g := gb1) (o := .cells #[.slice AG gt.length cG, .int .i64 rn, .int .i64 sn, .bool dn] 28 (0, 0)) (by (with_reducible repeat (first | refine blk_drewN ?_ _ | refine blk_drew ?_ | refine blk_alloc ?_ _)); exact BK1.out) hb); clear HB; clear HW; clear BK0; clear HX1; clear HX2; clear HX3; clear HG; clear BK1; have HB := n0_; have HW := n1_; have BK0 := n2_; have HX1 := n3_; have HX2 := n4_; have HX3 := n5_; have HG := n6_; have BK1 := n7_; clear n0_ n1_ n2_ n3_ n4_ n5_ n6_ n7_; have HY3 := Aside0.mk ho; clear hb ho; obtain ⟨AY3, cY3, eY3⟩ := Kd.R_slice HY3.out; subst eY3)
      | ((with_reducible refine gate_callee (f := 18) rfl ?_); refine goesL_ (some 84) rfl rfl Try.func18 (by kernel_rfl) rfl #[.slice AX3 l3.length cX3, .slice AY3 l3.length cY3] rfl (by (try simp only [List.map_toArray, List.map_cons, List.map_nil]); first | done | rfl) ?_; (with_reducible refine (laws_eqIntS.calls k _ _ l3 _ _ l3 true _ ?s0 ?s1 ?s2 ?s3 HE3.out).mono ?_); (case s0 => repeat (first | (with_reducible exact (Kd.R_reads' HX3.out).2.2) | (with_reducible refine Kd.C_alloc ?_ _) | (with_reducible refine Kd.C_drewN ?_ _) | (with_reducible refine Kd.C_drew ?_))); (case s1 => exact (Kd.R_reads' HX3.out).2.1); (case s2 => repeat (first | (with_reducible exact (Kd.R_reads' HY3.out).2.2) | (with_reducible refine Kd.C_alloc ?_ _) | (with_reducible refine Kd.C_drewN ?_ _) | (with_reducible refine Kd.C_drew ?_))); (case s3 => exact (Kd.R_reads' HY3.out).2.1); rintro e w' ⟨rfl, ⟨nd, rfl⟩⟩; refine ⟨_, rfl, ?_⟩)
      | ((with_reducible refine gate_callee (f := 25) rfl ?_); refine goesL_ (some 88) rfl rfl Try.func25 (by kernel_rfl) rfl #[.slice AX1 l1.length cX1, .int .i64 1] rfl (by (try simp only [List.map_toArray, List.map_cons, List.map_nil]); first | done | rfl) ?_; (with_reducible refine (markSS_calls k (fun k_ => W5.heap.size ≤ k_ ∧ k_ < w6.heap.size) (.slice AX1 l1.length cX1) l1 1 q1 y1 w _ ?s0 ?s1 HM1.out HL1.out).mono ?_); (case s0 => exact (by repeat (first | (with_reducible first | exact HB.out | apply below_alloc | apply pw_below_drewN | apply below_drew1) | exact HB.out))); (case s1 => exact (by (with_reducible repeat (first | apply Kd.S_alloc | apply Kd.S_drewN | apply Kd.S_drew)); exact HX1.out)); rintro e w' ⟨rfl, hy_, hb, hkp⟩; refine ⟨_, rfl, ?_⟩; have n0_ := Aside0.mk hb; have n1_ := Aside0.mk (Kd.S_kept (by (with_reducible repeat (first | apply Kd.S_alloc | apply Kd.S_drewN | apply Kd.S_drew)); exact HW.out) hkp (fun k_ (hk_ : k_ < gb0) (hs_ : W5.heap.size ≤ k_ ∧ k_ < w6.heap.size) => by have hn_ := HN.out; omega)); have n2_ := Aside0.mk (blk_kept (g := gb0) (o := .cells #[.slice AW gt.length cW, .int .i64 rn, .int .i64 sn, .bool dn] 28 (0, 0)) (by (with_reducible repeat (first | refine blk_drewN ?_ _ | refine blk_drew ?_ | refine blk_alloc ?_ _)); exact BK0.out) hkp (fun (hs_ : W5.heap.size ≤ gb0 ∧ gb0 < w6.heap.size) => by have hn_ := HN.out; omega)); have n3_ := Aside0.mk (Kd.R_kept (by (with_reducible repeat (first | apply Kd.R_alloc | apply Kd.R_drewN | apply Kd.R_drew)); exact HX2.out) hkp (fun k_ (hk_ : w6.heap.size ≤ k_ ∧ k_ < w7.heap.size) (hs_ : W5.heap.size ≤ k_ ∧ k_ < w6.heap.size) => by have hn_ := HN.out; omega)); have n4_ := Aside0.mk (Kd.R_kept (by (with_reducible repeat (first | apply Kd.R_alloc | apply Kd.R_drewN | apply Kd.R_drew)); exact HX3.out) hkp (fun k_ (hk_ : w7.heap.size ≤ k_ ∧ k_ < w8.heap.size) (hs_ : W5.heap.size ≤ k_ ∧ k_ < w6.heap.size) => by have hn_ := HN.out; omega)); have n5_ := Aside0.mk (Kd.S_kept (by (with_reducible repeat (first | apply Kd.S_alloc | apply Kd.S_drewN | apply Kd.S_drew)); exact HG.out) hkp (fun k_ (hk_ : w8.heap.size ≤ k_ ∧ k_ < gb1) (hs_ : W5.heap.size ≤ k_ ∧ k_ < w6.heap.size) => by have hn_ := HN.out; omega)); have n6_ := Aside0.mk (blk_kept (g := gb1) (o := .cells #[.slice AG gt.length cG, .int .i64 rn, .int .i64 sn, .bool dn] 28 (0, 0)) (by (with_reducible repeat (first | refine blk_drewN ?_ _ | refine blk_drew ?_ | refine blk_alloc ?_ _)); exact BK1.out) hkp (fun (hs_ : W5.heap.size ≤ gb1 ∧ gb1 < w6.heap.size) => by have hn_ := HN.out; omega)); clear HB; clear HW; clear BK0; clear HX2; clear HX3; clear HG; clear BK1; have HB := n0_; have HW := n1_; have BK0 := n2_; have HX2 := n3_; have HX3 := n4_; have HG := n5_; have BK1 := n6_; clear n0_ n1_ n2_ n3_ n4_ n5_ n6_; clear hb hkp hy_ HX1)
      | ((with_reducible refine gate_callee (f := 26) rfl ?_); refine goesL_ (some 91) rfl rfl Try.func26 (by kernel_rfl) rfl #[.slice AX2 l2.length cX2, .int .i64 q1] rfl (by (try simp only [List.map_toArray, List.map_cons, List.map_nil]); first | done | rfl) ?_; (with_reducible refine (laws_markIntS.calls k (fun k_ => w6.heap.size ≤ k_ ∧ k_ < w7.heap.size) (.slice AX2 l2.length cX2) l2 q1 q2 y2 w _ ?s0 ?s1 HM2.out).mono ?_); (case s0 => exact (by repeat (first | (with_reducible first | exact HB.out | apply below_alloc | apply pw_below_drewN | apply below_drew1) | exact HB.out))); (case s1 => exact (by (with_reducible repeat (first | apply Kd.R_alloc | apply Kd.R_drewN | apply Kd.R_drew)); exact HX2.out)); rintro e w' ⟨rfl, hy_, hb, hkp⟩; refine ⟨_, rfl, ?_⟩; have n0_ := Aside0.mk hb; have n1_ := Aside0.mk (Kd.S_kept (by (with_reducible repeat (first | apply Kd.S_alloc | apply Kd.S_drewN | apply Kd.S_drew)); exact HW.out) hkp (fun k_ (hk_ : k_ < gb0) (hs_ : w6.heap.size ≤ k_ ∧ k_ < w7.heap.size) => by have hn_ := HN.out; omega)); have n2_ := Aside0.mk (blk_kept (g := gb0) (o := .cells #[.slice AW gt.length cW, .int .i64 rn, .int .i64 sn, .bool dn] 28 (0, 0)) (by (with_reducible repeat (first | refine blk_drewN ?_ _ | refine blk_drew ?_ | refine blk_alloc ?_ _)); exact BK0.out) hkp (fun (hs_ : w6.heap.size ≤ gb0 ∧ gb0 < w7.heap.size) => by have hn_ := HN.out; omega)); have n3_ := Aside0.mk (Kd.R_kept (by (with_reducible repeat (first | apply Kd.R_alloc | apply Kd.R_drewN | apply Kd.R_drew)); exact HX3.out) hkp (fun k_ (hk_ : w7.heap.size ≤ k_ ∧ k_ < w8.heap.size) (hs_ : w6.heap.size ≤ k_ ∧ k_ < w7.heap.size) => by have hn_ := HN.out; omega)); have n4_ := Aside0.mk (Kd.S_kept (by (with_reducible repeat (first | apply Kd.S_alloc | apply Kd.S_drewN | apply Kd.S_drew)); exact HG.out) hkp (fun k_ (hk_ : w8.heap.size ≤ k_ ∧ k_ < gb1) (hs_ : w6.heap.size ≤ k_ ∧ k_ < w7.heap.size) => by have hn_ := HN.out; omega)); have n5_ := Aside0.mk (blk_kept (g := gb1) (o := .cells #[.slice AG gt.length cG, .int .i64 rn, .int .i64 sn, .bool dn] 28 (0, 0)) (by (with_reducible repeat (first | refine blk_drewN ?_ _ | refine blk_drew ?_ | refine blk_alloc ?_ _)); exact BK1.out) hkp (fun (hs_ : w6.heap.size ≤ gb1 ∧ gb1 < w7.heap.size) => by have hn_ := HN.out; omega)); clear HB; clear HW; clear BK0; clear HX3; clear HG; clear BK1; have HB := n0_; have HW := n1_; have BK0 := n2_; have HX3 := n3_; have HG := n4_; have BK1 := n5_; clear n0_ n1_ n2_ n3_ n4_ n5_; clear hb hkp hy_ HX2)
      | ((with_reducible refine gate_callee (f := 26) rfl ?_); refine goesL_ (some 94) rfl rfl Try.func26 (by kernel_rfl) rfl #[.slice AX3 l3.length cX3, .int .i64 q2] rfl (by (try simp only [List.map_toArray, List.map_cons, List.map_nil]); first | done | rfl) ?_; (with_reducible refine (laws_markIntS.calls k (fun k_ => w7.heap.size ≤ k_ ∧ k_ < w8.heap.size) (.slice AX3 l3.length cX3) l3 q2 q3 y3 w _ ?s0 ?s1 HM3.out).mono ?_); (case s0 => exact (by repeat (first | (with_reducible first | exact HB.out | apply below_alloc | apply pw_below_drewN | apply below_drew1) | exact HB.out))); (case s1 => exact (by (with_reducible repeat (first | apply Kd.R_alloc | apply Kd.R_drewN | apply Kd.R_drew)); exact HX3.out)); rintro e w' ⟨rfl, hy_, hb, hkp⟩; refine ⟨_, rfl, ?_⟩; have n0_ := Aside0.mk hb; have n1_ := Aside0.mk (Kd.S_kept (by (with_reducible repeat (first | apply Kd.S_alloc | apply Kd.S_drewN | apply Kd.S_drew)); exact HW.out) hkp (fun k_ (hk_ : k_ < gb0) (hs_ : w7.heap.size ≤ k_ ∧ k_ < w8.heap.size) => by have hn_ := HN.out; omega)); have n2_ := Aside0.mk (blk_kept (g := gb0) (o := .cells #[.slice AW gt.length cW, .int .i64 rn, .int .i64 sn, .bool dn] 28 (0, 0)) (by (with_reducible repeat (first | refine blk_drewN ?_ _ | refine blk_drew ?_ | refine blk_alloc ?_ _)); exact BK0.out) hkp (fun (hs_ : w7.heap.size ≤ gb0 ∧ gb0 < w8.heap.size) => by have hn_ := HN.out; omega)); have n3_ := Aside0.mk (Kd.S_kept (by (with_reducible repeat (first | apply Kd.S_alloc | apply Kd.S_drewN | apply Kd.S_drew)); exact HG.out) hkp (fun k_ (hk_ : w8.heap.size ≤ k_ ∧ k_ < gb1) (hs_ : w7.heap.size ≤ k_ ∧ k_ < w8.heap.size) => by have hn_ := HN.out; omega)); have n4_ := Aside0.mk (blk_kept (g := gb1) (o := .cells #[.slice AG gt.length cG, .int .i64 rn, .int .i64 sn, .bool dn] 28 (0, 0)) (by (with_reducible repeat (first | refine blk_drewN ?_ _ | refine blk_drew ?_ | refine blk_alloc ?_ _)); exact BK1.out) hkp (fun (hs_ : w7.heap.size ≤ gb1 ∧ gb1 < w8.heap.size) => by have hn_ := HN.out; omega)); clear HB; clear HW; clear BK0; clear HG; clear BK1; have HB := n0_; have HW := n1_; have BK0 := n2_; have HG := n3_; have BK1 := n4_; clear n0_ n1_ n2_ n3_ n4_; clear hb hkp hy_ HX3; have hcxBK0_0 : w'.cell? ⟨gb0, 0, none⟩ = some (.slice AW gt.length cW) := (blk_cell BK0.out 0).trans rfl; have hcxBK0_1 : w'.cell? ⟨gb0, 1, none⟩ = some (.int .i64 rn) := (blk_cell BK0.out 1).trans rfl; have hcxBK0_2 : w'.cell? ⟨gb0, 2, none⟩ = some (.int .i64 sn) := (blk_cell BK0.out 2).trans rfl; have hcxBK0_3 : w'.cell? ⟨gb0, 3, none⟩ = some (.bool dn) := (blk_cell BK0.out 3).trans rfl; have hcxBK1_0 : w'.cell? ⟨gb1, 0, none⟩ = some (.slice AG gt.length cG) := (blk_cell BK1.out 0).trans rfl; have hcxBK1_1 : w'.cell? ⟨gb1, 1, none⟩ = some (.int .i64 rn) := (blk_cell BK1.out 1).trans rfl; have hcxBK1_2 : w'.cell? ⟨gb1, 2, none⟩ = some (.int .i64 sn) := (blk_cell BK1.out 2).trans rfl; have hcxBK1_3 : w'.cell? ⟨gb1, 3, none⟩ = some (.bool dn) := (blk_cell BK1.out 3).trans rfl)
      | (go_at_call 24; (with_reducible refine (laws_eqLinkRun.calls k _ _ gt rn sn dn _ _ gt rn sn dn true _ ?s0 ?s1 ?s2 ?s3 HEQ.out).mono ?_); (case s0 => repeat (first | (with_reducible exact (Kd.S_reads' HG.out).2.2) | (with_reducible refine Kd.C_alloc ?_ _) | (with_reducible refine Kd.C_drewN ?_ _) | (with_reducible refine Kd.C_drew ?_))); (case s1 => exact (Kd.S_reads' HG.out).2.1); (case s2 => repeat (first | (with_reducible exact (Kd.S_reads' HW.out).2.2) | (with_reducible refine Kd.C_alloc ?_ _) | (with_reducible refine Kd.C_drewN ?_ _) | (with_reducible refine Kd.C_drew ?_))); (case s3 => exact (Kd.S_reads' HW.out).2.1); rintro e w' ⟨rfl, hb⟩; have n0_ := Aside0.mk (below_step (by repeat (first | (with_reducible first | exact HB.out | apply below_alloc | apply pw_below_drewN | apply below_drew1) | exact HB.out)) hb); have n1_ := Aside0.mk (Kd.S_below (by (with_reducible repeat (first | apply Kd.S_alloc | apply Kd.S_drewN | apply Kd.S_drew)); exact HW.out) hb); have n2_ := Aside0.mk (blk_below (g := gb0) (o := .cells #[.slice AW gt.length cW, .int .i64 rn, .int .i64 sn, .bool dn] 28 (0, 0)) (by (with_reducible repeat (first | refine blk_drewN ?_ _ | refine blk_drew ?_ | refine blk_alloc ?_ _)); exact BK0.out) hb); have n3_ := Aside0.mk (Kd.S_below (by (with_reducible repeat (first | apply Kd.S_alloc | apply Kd.S_drewN | apply Kd.S_drew)); exact HG.out) hb); have n4_ := Aside0.mk (blk_below (g := gb1) (o := .cells #[.slice AG gt.length cG, .int .i64 rn, .int .i64 sn, .bool dn] 28 (0, 0)) (by (with_reducible repeat (first | refine blk_drewN ?_ _ | refine blk_drew ?_ | refine blk_alloc ?_ _)); exact BK1.out) hb); clear HB; clear HW; clear BK0; clear HG; clear BK1; have HB := n0_; have HW := n1_; have BK0 := n2_; have HG := n3_; have BK1 := n4_; clear n0_ n1_ n2_ n3_ n4_; clear hb; have hcyBK0_0 : w'.cell? ⟨gb0, 0, none⟩ = some (.slice AW gt.length cW) := (blk_cell BK0.out 0).trans rfl; have hcyBK0_1 : w'.cell? ⟨gb0, 1, none⟩ = some (.int .i64 rn) := (blk_cell BK0.out 1).trans rfl; have hcyBK0_2 : w'.cell? ⟨gb0, 2, none⟩ = some (.int .i64 sn) := (blk_cell BK0.out 2).trans rfl; have hcyBK0_3 : w'.cell? ⟨gb0, 3, none⟩ = some (.bool dn) := (blk_cell BK0.out 3).trans rfl; have hcyBK1_0 : w'.cell? ⟨gb1, 0, none⟩ = some (.slice AG gt.length cG) := (blk_cell BK1.out 0).trans rfl; have hcyBK1_1 : w'.cell? ⟨gb1, 1, none⟩ = some (.int .i64 rn) := (blk_cell BK1.out 1).trans rfl; have hcyBK1_2 : w'.cell? ⟨gb1, 2, none⟩ = some (.int .i64 sn) := (blk_cell BK1.out 2).trans rfl; have hcyBK1_3 : w'.cell? ⟨gb1, 3, none⟩ = some (.bool dn) := (blk_cell BK1.out 3).trans rfl)
      | ((with_reducible refine gate_callee (f := 27) rfl ?_); refine goesL_ (some 110) rfl rfl Try.func27 (by kernel_rfl) rfl #[.agg #[.slice AG gt.length cG, .int .i64 rn, .int .i64 sn, .bool dn], .int .i64 1] rfl (by (try simp only [List.map_toArray, List.map_cons, List.map_nil]); first | done | rfl) ?_; (with_reducible refine (markLinkRun_calls k (fun k_ => w8.heap.size ≤ k_ ∧ k_ < gb1) (.slice AG gt.length cG) gt rn sn dn 1 m gt2 w _ ?s0 ?s1 HMG.out HLG.out).mono ?_); (case s0 => exact (by repeat (first | (with_reducible first | exact HB.out | apply below_alloc | apply pw_below_drewN | apply below_drew1) | exact HB.out))); (case s1 => exact (by (with_reducible repeat (first | apply Kd.S_alloc | apply Kd.S_drewN | apply Kd.S_drew)); exact HG.out)); rintro e w' ⟨rfl, hy_, hb, hkp⟩; refine ⟨_, rfl, ?_⟩; have m_ := Aside0.mk hy_; have n0_ := Aside0.mk hb; have n1_ := Aside0.mk (Kd.S_kept (by (with_reducible repeat (first | apply Kd.S_alloc | apply Kd.S_drewN | apply Kd.S_drew)); exact HW.out) hkp (fun k_ (hk_ : k_ < gb0) (hs_ : w8.heap.size ≤ k_ ∧ k_ < gb1) => by have hn_ := HN.out; omega)); have n2_ := Aside0.mk (blk_kept (g := gb0) (o := .cells #[.slice AW gt.length cW, .int .i64 rn, .int .i64 sn, .bool dn] 28 (0, 0)) (by (with_reducible repeat (first | refine blk_drewN ?_ _ | refine blk_drew ?_ | refine blk_alloc ?_ _)); exact BK0.out) hkp (fun (hs_ : w8.heap.size ≤ gb0 ∧ gb0 < gb1) => by have hn_ := HN.out; omega)); have n3_ := Aside0.mk (blk_kept (g := gb1) (o := .cells #[.slice AG gt.length cG, .int .i64 rn, .int .i64 sn, .bool dn] 28 (0, 0)) (by (with_reducible repeat (first | refine blk_drewN ?_ _ | refine blk_drew ?_ | refine blk_alloc ?_ _)); exact BK1.out) hkp (fun (hs_ : w8.heap.size ≤ gb1 ∧ gb1 < gb1) => by have hn_ := HN.out; omega)); clear HB; clear HW; clear BK0; clear BK1; have HB := n0_; have HW := n1_; have BK0 := n2_; have BK1 := n3_; clear n0_ n1_ n2_ n3_; clear hb hkp hy_ HG; have HG := m_; clear m_; have hczBK0_0 : w'.cell? ⟨gb0, 0, none⟩ = some (.slice AW gt.length cW) := (blk_cell BK0.out 0).trans rfl; have hczBK0_1 : w'.cell? ⟨gb0, 1, none⟩ = some (.int .i64 rn) := (blk_cell BK0.out 1).trans rfl; have hczBK0_2 : w'.cell? ⟨gb0, 2, none⟩ = some (.int .i64 sn) := (blk_cell BK0.out 2).trans rfl; have hczBK0_3 : w'.cell? ⟨gb0, 3, none⟩ = some (.bool dn) := (blk_cell BK0.out 3).trans rfl; have hczBK1_0 : w'.cell? ⟨gb1, 0, none⟩ = some (.slice AG gt.length cG) := (blk_cell BK1.out 0).trans rfl; have hczBK1_1 : w'.cell? ⟨gb1, 1, none⟩ = some (.int .i64 rn) := (blk_cell BK1.out 1).trans rfl; have hczBK1_2 : w'.cell? ⟨gb1, 2, none⟩ = some (.int .i64 sn) := (blk_cell BK1.out 2).trans rfl; have hczBK1_3 : w'.cell? ⟨gb1, 3, none⟩ = some (.bool dn) := (blk_cell BK1.out 3).trans rfl)
      | ((with_reducible refine gate_callee (f := 28) rfl ?_); refine goesL_ (some 113) rfl rfl Try.func28 (by kernel_rfl) rfl #[.agg #[.slice AG gt.length cG, .int .i64 rn, .int .i64 sn, .bool dn], .int .i64 1] rfl (by (try simp only [List.map_toArray, List.map_cons, List.map_nil]); first | done | rfl) ?_; (with_reducible refine (held_calls k _ _ _ gt2 rn sn dn 1 m _ HLG2.out ?s0 ?s1 HHD.out).mono ?_); (case s0 => repeat (first | (with_reducible exact (Kd.S_reads' HG.out).2.2) | (with_reducible refine Kd.C_alloc ?_ _) | (with_reducible refine Kd.C_drewN ?_ _) | (with_reducible refine Kd.C_drew ?_))); (case s1 => exact (Kd.S_reads' HG.out).2.1); rintro e w' ⟨rfl, hb⟩; refine ⟨_, rfl, ?_⟩; have n0_ := Aside0.mk (below_step (by repeat (first | (with_reducible first | exact HB.out | apply below_alloc | apply pw_below_drewN | apply below_drew1) | exact HB.out)) hb); have n1_ := Aside0.mk (Kd.S_below (by (with_reducible repeat (first | apply Kd.S_alloc | apply Kd.S_drewN | apply Kd.S_drew)); exact HW.out) hb); have n2_ := Aside0.mk (blk_below (g := gb0) (o := .cells #[.slice AW gt.length cW, .int .i64 rn, .int .i64 sn, .bool dn] 28 (0, 0)) (by (with_reducible repeat (first | refine blk_drewN ?_ _ | refine blk_drew ?_ | refine blk_alloc ?_ _)); exact BK0.out) hb); have n3_ := Aside0.mk (Kd.S_below (by (with_reducible repeat (first | apply Kd.S_alloc | apply Kd.S_drewN | apply Kd.S_drew)); exact HG.out) hb); have n4_ := Aside0.mk (blk_below (g := gb1) (o := .cells #[.slice AG gt.length cG, .int .i64 rn, .int .i64 sn, .bool dn] 28 (0, 0)) (by (with_reducible repeat (first | refine blk_drewN ?_ _ | refine blk_drew ?_ | refine blk_alloc ?_ _)); exact BK1.out) hb); clear HB; clear HW; clear BK0; clear HG; clear BK1; have HB := n0_; have HW := n1_; have BK0 := n2_; have HG := n3_; have BK1 := n4_; clear n0_ n1_ n2_ n3_ n4_; clear hb))
  (try simp only [Act.put, List.setIfInBounds_toArray, List.set_cons_zero, List.set_cons_succ])
  clear hca_0 hca_1 hca_2 hca_3 hcb_0 hcb_1 hcb_2 hcb_3
  go_upto_region 37 with (first
      | ((with_reducible refine gate_callee (f := 14) rfl ?_); refine goesL_ (some 122) rfl rfl Try.func14 (by kernel_rfl) rfl #[.slice A1 l1.length c1] rfl (by (try simp only [List.map_toArray, List.map_cons, List.map_nil]); first | done | rfl) ?_; (with_reducible refine (laws_toByteSS.calls k _ _ l1 l1 _ ?s0 HC1.out HT1.out).mono ?_); (case s0 => repeat (first | (with_reducible exact (Kd.C_below HR1.out HB.out)) | (with_reducible refine Kd.C_alloc ?_ _) | (with_reducible refine Kd.C_drewN ?_ _) | (with_reducible refine Kd.C_drew ?_))); rintro e w51 ⟨vV1, rfl, ho, hb⟩; refine ⟨_, rfl, ?_⟩; have hsz_ := hb.size; have m_ := Aside0.mk (Kd.S_lower (Kd.S_mono (ok' := fun k_ => _root_.True ∧ _root_.True) (Kd.S_bound ho) (fun k_ hk_ => ⟨trivial, trivial⟩)) (below_size (by repeat (first | (with_reducible first | exact HB.out | apply below_alloc | apply pw_below_drewN | apply below_drew1) | exact HB.out)))); have n0_ := Aside0.mk (below_step (by repeat (first | (with_reducible first | exact HB.out | apply below_alloc | apply pw_below_drewN | apply below_drew1) | exact HB.out)) hb); have n1_ := Aside0.mk (Kd.S_below (by (with_reducible repeat (first | apply Kd.S_alloc | apply Kd.S_drewN | apply Kd.S_drew)); exact HW.out) hb); have n2_ := Aside0.mk (blk_below (g := gb0) (o := .cells #[.slice AW gt.length cW, .int .i64 rn, .int .i64 sn, .bool dn] 28 (0, 0)) (by (with_reducible repeat (first | refine blk_drewN ?_ _ | refine blk_drew ?_ | refine blk_alloc ?_ _)); exact BK0.out) hb); have n3_ := Aside0.mk (Kd.S_below (by (with_reducible repeat (first | apply Kd.S_alloc | apply Kd.S_drewN | apply Kd.S_drew)); exact HG.out) hb); have n4_ := Aside0.mk (blk_below (g := gb1) (o := .cells #[.slice AG gt.length cG, .int .i64 rn, .int .i64 sn, .bool dn] 28 (0, 0)) (by (with_reducible repeat (first | refine blk_drewN ?_ _ | refine blk_drew ?_ | refine blk_alloc ?_ _)); exact BK1.out) hb); clear HB; clear HW; clear BK0; clear HG; clear BK1; have HB := n0_; have HW := n1_; have BK0 := n2_; have HG := n3_; have BK1 := n4_; clear n0_ n1_ n2_ n3_ n4_; have HV1 := m_; clear m_; have z_ := Aside0.mk hsz_; clear hsz_; have HHV1Z := z_; clear z_ hb ho; obtain ⟨AV1, cV1, eV1⟩ := Kd.S_slice HV1.out; subst eV1)
      | ((with_reducible refine gate_callee (f := 15) rfl ?_); refine goesL_ (some 124) rfl rfl Try.func15 (by kernel_rfl) rfl #[.slice A2 l2.length c2] rfl (by (try simp only [List.map_toArray, List.map_cons, List.map_nil]); first | done | rfl) ?_; (with_reducible refine (laws_toIntS.calls k _ _ l2 l2 _ ?s0 HC2.out HT2.out).mono ?_); (case s0 => repeat (first | (with_reducible exact (Kd.C_below HR2.out HB.out)) | (with_reducible refine Kd.C_alloc ?_ _) | (with_reducible refine Kd.C_drewN ?_ _) | (with_reducible refine Kd.C_drew ?_))); rintro e w52 ⟨vV2, rfl, ho, hb⟩; refine ⟨_, rfl, ?_⟩; have hsz_ := hb.size; have m_ := Aside0.mk (Kd.R_lower (Kd.R_mono (ok' := fun k_ => _root_.True ∧ _root_.True) (Kd.R_bound ho) (fun k_ hk_ => ⟨trivial, trivial⟩)) (below_size (by repeat (first | (with_reducible first | exact HB.out | apply below_alloc | apply pw_below_drewN | apply below_drew1) | exact HB.out)))); have n0_ := Aside0.mk (below_step (by repeat (first | (with_reducible first | exact HB.out | apply below_alloc | apply pw_below_drewN | apply below_drew1) | exact HB.out)) hb); have n1_ := Aside0.mk (Kd.S_below (by (with_reducible repeat (first | apply Kd.S_alloc | apply Kd.S_drewN | apply Kd.S_drew)); exact HW.out) hb); have n2_ := Aside0.mk (blk_below (g := gb0) (o := .cells #[.slice AW gt.length cW, .int .i64 rn, .int .i64 sn, .bool dn] 28 (0, 0)) (by (with_reducible repeat (first | refine blk_drewN ?_ _ | refine blk_drew ?_ | refine blk_alloc ?_ _)); exact BK0.out) hb); have n3_ := Aside0.mk (Kd.S_below (by (with_reducible repeat (first | apply Kd.S_alloc | apply Kd.S_drewN | apply Kd.S_drew)); exact HG.out) hb); have n4_ := Aside0.mk (blk_below (g := gb1) (o := .cells #[.slice AG gt.length cG, .int .i64 rn, .int .i64 sn, .bool dn] 28 (0, 0)) (by (with_reducible repeat (first | refine blk_drewN ?_ _ | refine blk_drew ?_ | refine blk_alloc ?_ _)); exact BK1.out) hb); have n5_ := Aside0.mk (Kd.S_below (by (with_reducible repeat (first | apply Kd.S_alloc | apply Kd.S_drewN | apply Kd.S_drew)); exact HV1.out) hb); clear HB; clear HW; clear BK0; clear HG; clear BK1; clear HV1; have HB := n0_; have HW := n1_; have BK0 := n2_; have HG := n3_; have BK1 := n4_; have HV1 := n5_; clear n0_ n1_ n2_ n3_ n4_ n5_; have HV2 := m_; clear m_; have z_ := Aside0.mk hsz_; clear hsz_; have HHV2Z := z_; clear z_ hb ho; obtain ⟨AV2, cV2, eV2⟩ := Kd.R_slice HV2.out; subst eV2)
      | ((with_reducible refine gate_callee (f := 15) rfl ?_); refine goesL_ (some 126) rfl rfl Try.func15 (by kernel_rfl) rfl #[.slice A3 l3.length c3] rfl (by (try simp only [List.map_toArray, List.map_cons, List.map_nil]); first | done | rfl) ?_; (with_reducible refine (laws_toIntS.calls k _ _ l3 l3 _ ?s0 HC3.out HT3.out).mono ?_); (case s0 => repeat (first | (with_reducible exact (Kd.C_below HR3.out HB.out)) | (with_reducible refine Kd.C_alloc ?_ _) | (with_reducible refine Kd.C_drewN ?_ _) | (with_reducible refine Kd.C_drew ?_))); rintro e w53 ⟨vV3, rfl, ho, hb⟩; refine ⟨_, rfl, ?_⟩; have hsz_ := hb.size; have m_ := Aside0.mk (Kd.R_lower (Kd.R_mono (ok' := fun k_ => _root_.True ∧ _root_.True) (Kd.R_bound ho) (fun k_ hk_ => ⟨trivial, trivial⟩)) (below_size (by repeat (first | (with_reducible first | exact HB.out | apply below_alloc | apply pw_below_drewN | apply below_drew1) | exact HB.out)))); have n0_ := Aside0.mk (below_step (by repeat (first | (with_reducible first | exact HB.out | apply below_alloc | apply pw_below_drewN | apply below_drew1) | exact HB.out)) hb); have n1_ := Aside0.mk (Kd.S_below (by (with_reducible repeat (first | apply Kd.S_alloc | apply Kd.S_drewN | apply Kd.S_drew)); exact HW.out) hb); have n2_ := Aside0.mk (blk_below (g := gb0) (o := .cells #[.slice AW gt.length cW, .int .i64 rn, .int .i64 sn, .bool dn] 28 (0, 0)) (by (with_reducible repeat (first | refine blk_drewN ?_ _ | refine blk_drew ?_ | refine blk_alloc ?_ _)); exact BK0.out) hb); have n3_ := Aside0.mk (Kd.S_below (by (with_reducible repeat (first | apply Kd.S_alloc | apply Kd.S_drewN | apply Kd.S_drew)); exact HG.out) hb); have n4_ := Aside0.mk (blk_below (g := gb1) (o := .cells #[.slice AG gt.length cG, .int .i64 rn, .int .i64 sn, .bool dn] 28 (0, 0)) (by (with_reducible repeat (first | refine blk_drewN ?_ _ | refine blk_drew ?_ | refine blk_alloc ?_ _)); exact BK1.out) hb); have n5_ := Aside0.mk (Kd.S_below (by (with_reducible repeat (first | apply Kd.S_alloc | apply Kd.S_drewN | apply Kd.S_drew)); exact HV1.out) hb); have n6_ := Aside0.mk (Kd.R_below (by (with_reducible repeat (first | apply Kd.R_alloc | apply Kd.R_drewN | apply Kd.R_drew)); exact HV2.out) hb); clear HB; clear HW; clear BK0; clear HG; clear BK1; clear HV1; clear HV2; have HB := n0_; have HW := n1_; have BK0 := n2_; have HG := n3_; have BK1 := n4_; have HV1 := n5_; have HV2 := n6_; clear n0_ n1_ n2_ n3_ n4_ n5_ n6_; have HV3 := m_; clear m_; have z_ := Aside0.mk hsz_; clear hsz_; have HHV3Z := z_; clear z_ hb ho; obtain ⟨AV3, cV3, eV3⟩ := Kd.R_slice HV3.out; subst eV3)
      | ((with_reducible refine gate_callee (f := 10) rfl ?_); refine goesL_ (some 128) rfl rfl Try.func10 (by kernel_rfl) rfl #[.int .i64 a0, .slice AV1 l1.length cV1, .slice AV2 l2.length cV2, .slice AV3 l3.length cV3, .int .i64 a4] rfl (by (try simp only [List.map_toArray, List.map_cons, List.map_nil]); first | done | rfl) ?_; (with_reducible refine (impl_RunLink.calls k a0 _ _ l1 _ _ l2 _ _ l3 a4 gt rn sn dn ok _ ?s0 ?s1 ?s2 ?s3 ?s4 ?s5 HIM.out).mono ?_); (case s0 => repeat (first | (with_reducible exact (Kd.S_reads' HV1.out).2.2) | (with_reducible refine Kd.C_alloc ?_ _) | (with_reducible refine Kd.C_drewN ?_ _) | (with_reducible refine Kd.C_drew ?_))); (case s1 => exact (Kd.S_reads' HV1.out).2.1); (case s2 => repeat (first | (with_reducible exact (Kd.R_reads' HV2.out).2.2) | (with_reducible refine Kd.C_alloc ?_ _) | (with_reducible refine Kd.C_drewN ?_ _) | (with_reducible refine Kd.C_drew ?_))); (case s3 => exact (Kd.R_reads' HV2.out).2.1); (case s4 => repeat (first | (with_reducible exact (Kd.R_reads' HV3.out).2.2) | (with_reducible refine Kd.C_alloc ?_ _) | (with_reducible refine Kd.C_drewN ?_ _) | (with_reducible refine Kd.C_drew ?_))); (case s5 => exact (Kd.R_reads' HV3.out).2.1); rintro e w54 ⟨vH, rfl, ho, hb⟩; refine ⟨_, rfl, ?_⟩; have hsz_ := hb.size; have m_ := Aside0.mk (Kd.S_lower (Kd.S_mono (ok' := fun k_ => w53.heap.size ≤ k_ ∧ k_ < w54.heap.size) (Kd.S_bound ho) (fun k_ hk_ => ⟨hk_.2.1, hk_.2.2.1⟩)) (below_size (by repeat (first | (with_reducible first | exact HB.out | apply below_alloc | apply pw_below_drewN | apply below_drew1) | exact HB.out)))); have n0_ := Aside0.mk (below_step (by repeat (first | (with_reducible first | exact HB.out | apply below_alloc | apply pw_below_drewN | apply below_drew1) | exact HB.out)) hb); have n1_ := Aside0.mk (Kd.S_below (by (with_reducible repeat (first | apply Kd.S_alloc | apply Kd.S_drewN | apply Kd.S_drew)); exact HW.out) hb); have n2_ := Aside0.mk (blk_below (g := gb0) (o := .cells #[.slice AW gt.length cW, .int .i64 rn, .int .i64 sn, .bool dn] 28 (0, 0)) (by (with_reducible repeat (first | refine blk_drewN ?_ _ | refine blk_drew ?_ | refine blk_alloc ?_ _)); exact BK0.out) hb); have n3_ := Aside0.mk (Kd.S_below (by (with_reducible repeat (first | apply Kd.S_alloc | apply Kd.S_drewN | apply Kd.S_drew)); exact HG.out) hb); have n4_ := Aside0.mk (blk_below (g := gb1) (o := .cells #[.slice AG gt.length cG, .int .i64 rn, .int .i64 sn, .bool dn] 28 (0, 0)) (by (with_reducible repeat (first | refine blk_drewN ?_ _ | refine blk_drew ?_ | refine blk_alloc ?_ _)); exact BK1.out) hb); clear HB; clear HW; clear BK0; clear HG; clear BK1; have HB := n0_; have HW := n1_; have BK0 := n2_; have HG := n3_; have BK1 := n4_; clear n0_ n1_ n2_ n3_ n4_; have HH := m_; clear m_; have z_ := Aside0.mk hsz_; clear hsz_; have HHHZ := z_; clear z_ hb ho; obtain ⟨AH, cH, eH⟩ := Kd.S_slice HH.out; subst eH)
      | ((with_reducible refine gate_dst (N := 22) rfl ?_); refine box_event ?hg (N := 22) ?hd (cs := #[.slice none 0 0, .int .i64 0, .int .i64 0, .bool false]) (t := 28) ?hr ?_; (case hd => rfl); (case hg => rfl); (case hr => first | (go_simp; done) | (go_simp; rfl)); intro gb2 hg w55 hbox hb; have hsz_ := hb.size; have q0_ := Aside0.mk hg; have q4_ := Aside0.mk (show w.heap.size ≤ gb2 by rw [hg]; exact below_size (by repeat (first | (with_reducible first | exact HB.out | apply below_alloc | apply pw_below_drewN | apply below_drew1) | exact HB.out))); have q5_ := Aside0.mk (show gb0 < gb2 by rw [hg]; exact (blk_lt BK0.out)); have q6_ := Aside0.mk (show gb1 < gb2 by rw [hg]; exact (blk_lt BK1.out)); have q1_ := Aside0.mk hbox; have q2_ := Aside0.mk hsz_; have n0_ := Aside0.mk (below_step (by repeat (first | (with_reducible first | exact HB.out | apply below_alloc | apply pw_below_drewN | apply below_drew1) | exact HB.out)) hb); have n1_ := Aside0.mk (Kd.S_below (by (with_reducible repeat (first | apply Kd.S_alloc | apply Kd.S_drewN | apply Kd.S_drew)); exact HW.out) hb); have n2_ := Aside0.mk (blk_below (g := gb0) (o := .cells #[.slice AW gt.length cW, .int .i64 rn, .int .i64 sn, .bool dn] 28 (0, 0)) (by (with_reducible repeat (first | refine blk_drewN ?_ _ | refine blk_drew ?_ | refine blk_alloc ?_ _)); exact BK0.out) hb); have n3_ := Aside0.mk (Kd.S_below (by (with_reducible repeat (first | apply Kd.S_alloc | apply Kd.S_drewN | apply Kd.S_drew)); exact HG.out) hb); have n4_ := Aside0.mk (blk_below (g := gb1) (o := .cells #[.slice AG gt.length cG, .int .i64 rn, .int .i64 sn, .bool dn] 28 (0, 0)) (by (with_reducible repeat (first | refine blk_drewN ?_ _ | refine blk_drew ?_ | refine blk_alloc ?_ _)); exact BK1.out) hb); have n5_ := Aside0.mk (Kd.S_below (by (with_reducible repeat (first | apply Kd.S_alloc | apply Kd.S_drewN | apply Kd.S_drew)); exact HH.out) hb); clear HB; clear HW; clear BK0; clear HG; clear BK1; clear HH; have HB := n0_; have HW := n1_; have BK0 := n2_; have HG := n3_; have BK1 := n4_; have HH := n5_; clear n0_ n1_ n2_ n3_ n4_ n5_; clear hb hbox hg hsz_; have BK2 := q1_; have BK2W := q4_; have BK2L0 := q5_; have BK2L1 := q6_; clear q4_ q5_ q6_; have BK2G := q0_; have BK2Z := q2_; clear q0_ q1_ q2_; have hzgb2_0 : w55.cell? ⟨gb2, 0, none⟩ = some (.slice none 0 0) := (blk_cell BK2.out 0).trans rfl; have hfgb2_0 := blk_frozen BK2.out 0; have hzgb2_1 : w55.cell? ⟨gb2, 1, none⟩ = some (.int .i64 0) := (blk_cell BK2.out 1).trans rfl; have hfgb2_1 := blk_frozen BK2.out 1; have hzgb2_2 : w55.cell? ⟨gb2, 2, none⟩ = some (.int .i64 0) := (blk_cell BK2.out 2).trans rfl; have hfgb2_2 := blk_frozen BK2.out 2; have hzgb2_3 : w55.cell? ⟨gb2, 3, none⟩ = some (.bool false) := (blk_cell BK2.out 3).trans rfl; have hfgb2_3 := blk_frozen BK2.out 3))
  (try simp only [Act.put, List.setIfInBounds_toArray, List.set_cons_zero, List.set_cons_succ])
  have hst := stored4 BK2.out (.slice AH gt.length cH) (.int .i64 rn) (.int .i64 sn) (.bool dn)
  have hg2 : w.heap.size ≤ gb2 := by have := BK2W.out; exact this
  clear hzgb2_0 hzgb2_1 hzgb2_2 hzgb2_3 hfgb2_0 hfgb2_1 hfgb2_2 hfgb2_3
  generalize hW56 : (((w55.setCell ⟨gb2, 0, none⟩ (.slice AH gt.length cH)).setCell ⟨gb2, 1, none⟩ (.int .i64 rn)).setCell ⟨gb2, 2, none⟩ (.int .i64 sn)).setCell ⟨gb2, 3, none⟩ (.bool dn) = W56 at hst ⊢
  clear hW56
  obtain ⟨s1, s2, s3, s4⟩ := hst
  have n0_ := Aside0.mk (Kd.S_kept HW.out s2 (fun k_ (hk_ : k_ < gb0) (hs_ : k_ = gb2) => by have hn_ := BK2L0.out; omega))
  have n1_ := Aside0.mk (s3 w HB.out hg2)
  have n2_ := Aside0.mk s1
  have n3_ := Aside0.mk (blk_kept BK0.out s2 (fun (hs_ : gb0 = gb2) => by have hn_ := BK2L0.out; omega))
  have n4_ := Aside0.mk (blk_kept BK1.out s2 (fun (hs_ : gb1 = gb2) => by have hn_ := BK2L1.out; omega))
  have n5_ := Aside0.mk (Kd.S_kept HG.out s2 (fun k_ (hk_ : w8.heap.size ≤ k_ ∧ k_ < gb1) (hs_ : k_ = gb2) => by have hn_ := BK2L1.out; omega))
  have n7_ := Aside0.mk (Kd.S_kept (Kd.S_mono (ok' := fun k_ => w53.heap.size ≤ k_ ∧ k_ < gb2) HH.out (fun k_ hk_ => ⟨hk_.1, by have h1_ : k_ < w54.heap.size := hk_.2; have h2_ := BK2G.out; omega⟩)) s2 (fun k_ (hk_ : w53.heap.size ≤ k_ ∧ k_ < gb2) (hs_ : k_ = gb2) => by omega))
  have hnd : ¬ gb0 = gb2 := by have hn_ := BK2L0.out; omega
  have hne : ¬ gb1 = gb2 := by have hn_ := BK2L1.out; omega
  have hnf : ¬ gb2 = gb0 := by have hn_ := BK2L0.out; omega
  have hng : ¬ gb2 = gb1 := by have hn_ := BK2L1.out; omega
  clear HW HB BK2 BK0 BK1 HG HH BK2G BK2Z BK2W BK2L0 BK2L1 s1 s2 s3 s4 hg2
  have HW := n0_
  have HB := n1_
  have BK2 := n2_
  have BK0 := n3_
  have BK1 := n4_
  have HG := n5_
  have HH := n7_
  clear n0_ n1_ n2_ n3_ n4_ n5_ n7_
  have hcp_0 : W56.cell? ⟨gb0, 0, none⟩ = some (.slice AW gt.length cW) := (blk_cell BK0.out 0).trans rfl
  have hcp_1 : W56.cell? ⟨gb0, 1, none⟩ = some (.int .i64 rn) := (blk_cell BK0.out 1).trans rfl
  have hcp_2 : W56.cell? ⟨gb0, 2, none⟩ = some (.int .i64 sn) := (blk_cell BK0.out 2).trans rfl
  have hcp_3 : W56.cell? ⟨gb0, 3, none⟩ = some (.bool dn) := (blk_cell BK0.out 3).trans rfl
  have hcq_0 : W56.cell? ⟨gb1, 0, none⟩ = some (.slice AG gt.length cG) := (blk_cell BK1.out 0).trans rfl
  have hcq_1 : W56.cell? ⟨gb1, 1, none⟩ = some (.int .i64 rn) := (blk_cell BK1.out 1).trans rfl
  have hcq_2 : W56.cell? ⟨gb1, 2, none⟩ = some (.int .i64 sn) := (blk_cell BK1.out 2).trans rfl
  have hcq_3 : W56.cell? ⟨gb1, 3, none⟩ = some (.bool dn) := (blk_cell BK1.out 3).trans rfl
  have hcr_0 : W56.cell? ⟨gb2, 0, none⟩ = some (.slice AH gt.length cH) := (blk_cell BK2.out 0).trans rfl
  have hcr_1 : W56.cell? ⟨gb2, 1, none⟩ = some (.int .i64 rn) := (blk_cell BK2.out 1).trans rfl
  have hcr_2 : W56.cell? ⟨gb2, 2, none⟩ = some (.int .i64 sn) := (blk_cell BK2.out 2).trans rfl
  have hcr_3 : W56.cell? ⟨gb2, 3, none⟩ = some (.bool dn) := (blk_cell BK2.out 3).trans rfl
  go_wp2_with (first
      | ((with_reducible refine gate_callee (f := 24) rfl ?_); refine goesL_ (some 133) rfl rfl Try.func24 (by kernel_rfl) rfl #[.agg #[.slice AH gt.length cH, .int .i64 rn, .int .i64 sn, .bool dn], .agg #[.slice AW gt.length cW, .int .i64 rn, .int .i64 sn, .bool dn]] rfl (by (try simp only [List.map_toArray, List.map_cons, List.map_nil]); first | done | rfl) ?_; (with_reducible refine (laws_eqLinkRun.calls k _ _ gt rn sn dn _ _ gt rn sn dn true _ ?s0 ?s1 ?s2 ?s3 HEQ.out).mono ?_); (case s0 => repeat (first | (with_reducible exact (Kd.S_reads' HH.out).2.2) | (with_reducible refine Kd.C_alloc ?_ _) | (with_reducible refine Kd.C_drewN ?_ _) | (with_reducible refine Kd.C_drew ?_))); (case s1 => exact (Kd.S_reads' HH.out).2.1); (case s2 => repeat (first | (with_reducible exact (Kd.S_reads' HW.out).2.2) | (with_reducible refine Kd.C_alloc ?_ _) | (with_reducible refine Kd.C_drewN ?_ _) | (with_reducible refine Kd.C_drew ?_))); (case s3 => exact (Kd.S_reads' HW.out).2.1); rintro e w' ⟨rfl, hb⟩; refine ⟨_, rfl, ?_⟩; have n0_ := Aside0.mk (below_step (by repeat (first | (with_reducible first | exact HB.out | apply below_alloc | apply pw_below_drewN | apply below_drew1) | exact HB.out)) hb); have n1_ := Aside0.mk (Kd.S_below (by (with_reducible repeat (first | apply Kd.S_alloc | apply Kd.S_drewN | apply Kd.S_drew)); exact HW.out) hb); have n2_ := Aside0.mk (blk_below (g := gb0) (o := .cells #[.slice AW gt.length cW, .int .i64 rn, .int .i64 sn, .bool dn] 28 (0, 0)) (by (with_reducible repeat (first | refine blk_drewN ?_ _ | refine blk_drew ?_ | refine blk_alloc ?_ _)); exact BK0.out) hb); have n3_ := Aside0.mk (Kd.S_below (by (with_reducible repeat (first | apply Kd.S_alloc | apply Kd.S_drewN | apply Kd.S_drew)); exact HG.out) hb); have n4_ := Aside0.mk (blk_below (g := gb1) (o := .cells #[.slice AG gt.length cG, .int .i64 rn, .int .i64 sn, .bool dn] 28 (0, 0)) (by (with_reducible repeat (first | refine blk_drewN ?_ _ | refine blk_drew ?_ | refine blk_alloc ?_ _)); exact BK1.out) hb); have n5_ := Aside0.mk (Kd.S_below (by (with_reducible repeat (first | apply Kd.S_alloc | apply Kd.S_drewN | apply Kd.S_drew)); exact HH.out) hb); have n6_ := Aside0.mk (blk_below (g := gb2) (o := .cells #[.slice AH gt.length cH, .int .i64 rn, .int .i64 sn, .bool dn] 28 (0, 0)) (by (with_reducible repeat (first | refine blk_drewN ?_ _ | refine blk_drew ?_ | refine blk_alloc ?_ _)); exact BK2.out) hb); clear HB; clear HW; clear BK0; clear HG; clear BK1; clear HH; clear BK2; have HB := n0_; have HW := n1_; have BK0 := n2_; have HG := n3_; have BK1 := n4_; have HH := n5_; have BK2 := n6_; clear n0_ n1_ n2_ n3_ n4_ n5_ n6_; clear hb; have hcvBK1_0 : w'.cell? ⟨gb1, 0, none⟩ = some (.slice AG gt.length cG) := (blk_cell BK1.out 0).trans rfl; have hcvBK1_1 : w'.cell? ⟨gb1, 1, none⟩ = some (.int .i64 rn) := (blk_cell BK1.out 1).trans rfl; have hcvBK1_2 : w'.cell? ⟨gb1, 2, none⟩ = some (.int .i64 sn) := (blk_cell BK1.out 2).trans rfl; have hcvBK1_3 : w'.cell? ⟨gb1, 3, none⟩ = some (.bool dn) := (blk_cell BK1.out 3).trans rfl)
      | ((with_reducible refine gate_callee (f := 28) rfl ?_); refine goesL_ (some 142) rfl rfl Try.func28 (by kernel_rfl) rfl #[.agg #[.slice AG gt.length cG, .int .i64 rn, .int .i64 sn, .bool dn], .int .i64 1] rfl (by (try simp only [List.map_toArray, List.map_cons, List.map_nil]); first | done | rfl) ?_; (with_reducible refine (held_calls k _ _ _ gt2 rn sn dn 1 m _ HLG2.out ?s0 ?s1 HHD.out).mono ?_); (case s0 => repeat (first | (with_reducible exact (Kd.S_reads' HG.out).2.2) | (with_reducible refine Kd.C_alloc ?_ _) | (with_reducible refine Kd.C_drewN ?_ _) | (with_reducible refine Kd.C_drew ?_))); (case s1 => exact (Kd.S_reads' HG.out).2.1); rintro e w' ⟨rfl, hb⟩; refine ⟨_, rfl, ?_⟩; have n0_ := Aside0.mk (below_step (by repeat (first | (with_reducible first | exact HB.out | apply below_alloc | apply pw_below_drewN | apply below_drew1) | exact HB.out)) hb); clear HB; have HB := n0_; clear n0_; clear hb))
  go_ret
  exact ⟨rfl, (by repeat (first | (with_reducible first | exact HB.out | apply below_alloc | apply pw_below_drewN | apply below_drew1) | exact HB.out))⟩
end Go.Proofs.Ytookabfmbimnoaa.Lk

namespace Go.Proofs.Ytookabfmbimnoaa.Lk
open Go.RowKit Go.Proofs.YtookabfmbimnoaaW.PrintWords Go.Proofs.YtookabfmbimnoaaW.PrintLast Go.Proofs.YtookabfmbimnoaaW.PrintMore
set_option linter.unusedVariables false
set_option linter.unusedSimpArgs false

/-- Ahead of a round (and behind it): what came is the front of the list, and reaches from what the sender knows to a window further at most. -/
structure LInv (w : Nat) (list : List (List Int)) (st : LSt) : Prop where
  lo : st.kn ≤ st.got.length
  hi : st.got.length ≤ min list.length (st.kn + w)
  front : st.got = list.take st.got.length
  r1 : st.rounds ≤ st.s1
  r2 : st.s2 = st.rounds
/-- In the midst of a round's arrivals. -/
theorem recv1_front {w : Nat} (hw : w ≤ 8) {list : List (List Int)} {kn : Nat} {fs : List Int} {got : List (List Int)} {j : Int} (h0 : 0 ≤ j) (h1 : j < (sentN w list.length kn : Nat)) (hlo : kn ≤ got.length) (hhi : got.length ≤ min list.length (kn + w)) (hf : got = list.take got.length) :
    got.length ≤ (recv1 list kn fs got j).length ∧ (recv1 list kn fs got j).length ≤ min list.length (kn + w) ∧ recv1 list kn fs got j = list.take (recv1 list kn fs got j).length ∧ (fateN fs j.toNat ≠ 4 → got.length = kn + j.toNat → (recv1 list kn fs got j).length = got.length + 1) := by
  obtain ⟨i, rfl⟩ := Int.eq_ofNat_of_zero_le h0
  unfold sentN at h1
  unfold recv1
  simp only [Int.toNat_natCast]
  by_cases h4 : fateN fs i = 4
  · rw [if_pos h4]
    exact ⟨Nat.le_refl _, hhi, hf, fun h => absurd h4 h⟩
  · rw [if_neg h4]
    by_cases hq : (kn + i) % 16 = got.length % 16
    · rw [if_pos hq]
      have hi : kn + i = got.length := by omega
      have hlt : got.length < list.length := by omega
      refine ⟨by simp, by simp; omega, ?_, fun _ _ => by simp⟩
      rw [List.length_append, List.length_singleton, List.take_succ_eq_append_getElem hlt, ← hf, hi, List.getD_eq_getElem?_getD, List.getElem?_eq_getElem hlt]
      rfl
    · rw [if_neg hq]
      exact ⟨Nat.le_refl _, hhi, hf, fun _ he => absurd (by rw [he]) hq⟩
theorem recvs_front {w : Nat} (hw : w ≤ 8) {list : List (List Int)} {kn : Nat} {fs : List Int} : ∀ (l : List Int) (got : List (List Int)), (∀ j ∈ l, 0 ≤ j ∧ j < (sentN w list.length kn : Nat)) → kn ≤ got.length → got.length ≤ min list.length (kn + w) → got = list.take got.length →
    got.length ≤ (l.foldl (recv1 list kn fs) got).length ∧ (l.foldl (recv1 list kn fs) got).length ≤ min list.length (kn + w) ∧ l.foldl (recv1 list kn fs) got = list.take (l.foldl (recv1 list kn fs) got).length
  | [], got, hj, hlo, hhi, hf => ⟨Nat.le_refl _, hhi, hf⟩
  | j :: l, got, hj, hlo, hhi, hf => by
    obtain ⟨a, b, c, _⟩ := recv1_front hw (fs := fs) (hj j (by simp)).1 (hj j (by simp)).2 hlo hhi hf
    have ih := recvs_front hw (fs := fs) l (recv1 list kn fs got j) (fun j h => hj j (by simp [h])) (by omega) b c
    rw [List.foldl_cons]
    exact ⟨by omega, ih.2⟩
theorem ackFind_hits {w : Nat} (hw : w ≤ 8) {kn g : Nat} (h0 : kn ≤ g) (h1 : g ≤ kn + w) : ackFind kn w (g % 16) = g := by
  have := ackFind_hit (kn := kn) (w := w) (q := g % 16) (d := g - kn) (by omega) (by rw [show kn + (g - kn) = g by omega]) (fun e he => by omega)
  omega
theorem acks_known {w : Nat} (hw : w ≤ 8) {g : Nat} {gs : List Int} : ∀ (l : List Int) (kn : Nat), kn ≤ g → g ≤ kn + w → l.foldl (ack1 w (g % 16) gs) kn = kn ∨ l.foldl (ack1 w (g % 16) gs) kn = g
  | [], kn, h0, h1 => .inl rfl
  | j :: l, kn, h0, h1 => by
    rw [List.foldl_cons]
    by_cases h4 : fateN gs j.toNat = 4
    · rw [show ack1 w (g % 16) gs kn j = kn by unfold ack1; rw [if_pos h4]]
      exact acks_known hw l kn h0 h1
    · rw [show ack1 w (g % 16) gs kn j = g by unfold ack1; rw [if_neg h4]; exact ackFind_hits hw h0 h1]
      rcases acks_known hw (gs := gs) l g (Nat.le_refl _) (by omega) with h | h <;> exact .inr h
theorem stepL_inv {w : Nat} (hw : w ≤ 8) (hw1 : 1 ≤ w) {list : List (List Int)} {there back : List Int} {st : LSt} (hk : st.kn < list.length) (h : LInv w list st) : LInv w list (stepL w list there back st) ∧ st.kn ≤ (stepL w list there back st).kn := by
  have hr := recvs_front hw (fs := there.drop st.s1) (arrivals (there.drop st.s1) (sentN w list.length st.kn)) st.got (arrivals_mem _ _) h.lo h.hi h.front
  have hlo := h.lo
  have ha := acks_known hw (g := ((arrivals (there.drop st.s1) (sentN w list.length st.kn)).foldl (recv1 list st.kn (there.drop st.s1)) st.got).length) (gs := back.drop st.s2) (arrivals (back.drop st.s2) 1) st.kn (by omega) (by omega)
  have hn : 1 ≤ sentN w list.length st.kn := by unfold sentN; omega
  have hr1 := h.r1
  have hr2 := h.r2
  unfold stepL
  simp only
  generalize (arrivals (there.drop st.s1) (sentN w list.length st.kn)).foldl (recv1 list st.kn (there.drop st.s1)) st.got = got at hr ha
  generalize (arrivals (back.drop st.s2) 1).foldl (ack1 w (got.length % 16) (back.drop st.s2)) st.kn = kn at ha
  refine ⟨⟨?_, ?_, hr.2.2, ?_, ?_⟩, ?_⟩
  all_goals (first | omega | (simp only; omega))
theorem linv0 (w : Nat) (list : List (List Int)) : LInv w list ⟨[], 0, 0, 0, 0⟩ := ⟨by simp, by simp, by simp, by simp, rfl⟩
end Go.Proofs.Ytookabfmbimnoaa.Lk

namespace Go.Proofs.Ytookabfmbimnoaa.Lk
open Go.RowKit Go.Proofs.YtookabfmbimnoaaW.PrintWords Go.Proofs.YtookabfmbimnoaaW.PrintLast Go.Proofs.YtookabfmbimnoaaW.PrintMore
set_option linter.unusedVariables false
set_option linter.unusedSimpArgs false

structure SrcOk (b : List Int) : Prop where
  len : b.length ≤ 2000
  byt : ∀ x ∈ b, byteOk x
theorem wf_byte {x : Int} (h : (Lit.int .u8 x).wf = true) : byteOk x := by
  have h0 : IntKind.u8.min = 0 := by decide
  have h1 : IntKind.u8.max = 255 := by decide
  simp only [Lit.wf, Bool.and_eq_true, decide_eq_true_eq, h0, h1] at h
  exact h
end Go.Proofs.Ytookabfmbimnoaa.Lk

namespace Go.Proofs.Ytookabfmbimnoaa.Lk
open Go.RowKit Go.Proofs.YtookabfmbimnoaaW.PrintWords Go.Proofs.YtookabfmbimnoaaW.PrintLast Go.Proofs.YtookabfmbimnoaaW.PrintMore
set_option linter.unusedVariables false
set_option linter.unusedSimpArgs false

def linkB0 (a0 : Int) (l1 : List (List Int)) (l2 l3 : List Int) : Bool := winOk a0 && (decide (l1.length ≤ 60) && (l1.all shortB && (fatesOk l2 && fatesOk l3)))
theorem linkB_split (a0 : Int) (l1 : List (List Int)) (l2 l3 : List Int) (a4 : Int) : linkB a0 l1 l2 l3 a4 = (linkB0 a0 l1 l2 l3 && rndOk a4) := by
  unfold linkB linkB0
  simp only [Bool.and_assoc]
end Go.Proofs.Ytookabfmbimnoaa.Lk

namespace Go.Proofs.Ytookabfmbimnoaa.Lk
open Go.RowKit Go.Proofs.YtookabfmbimnoaaW.PrintWords Go.Proofs.YtookabfmbimnoaaW.PrintLast Go.Proofs.YtookabfmbimnoaaW.PrintMore
set_option linter.unusedVariables false
set_option linter.unusedSimpArgs false

theorem loopL_inv {w : Nat} (hw : w ≤ 8) (hw1 : 1 ≤ w) {list : List (List Int)} {there back : List Int} : ∀ (m : Nat) (st : LSt), LInv w list st → LInv w list (loopL w list there back m st) ∧ (loopL w list there back m st).rounds ≤ st.rounds + m ∧ st.rounds ≤ (loopL w list there back m st).rounds
  | 0, st, h => ⟨h, Nat.le_refl _, Nat.le_refl _⟩
  | m + 1, st, h => by
    rcases Nat.lt_or_ge st.kn list.length with hk | hk
    · rw [loopL_go m hk]
      have hs := stepL_inv hw hw1 (there := there) (back := back) hk h
      have ih := loopL_inv hw hw1 (there := there) (back := back) m _ hs.1
      have hr : (stepL w list there back st).rounds = st.rounds + 1 := rfl
      exact ⟨ih.1, by omega, by omega⟩
    · rw [loopL_stop (m + 1) (by omega)]
      exact ⟨h, by omega, by omega⟩
theorem runL_inv {w : Nat} (hw : w ≤ 8) (hw1 : 1 ≤ w) {list : List (List Int)} {there back : List Int} (m : Nat) : LInv w list (runL w list there back m) ∧ (runL w list there back m).rounds ≤ m := by
  have h := loopL_inv hw hw1 (there := there) (back := back) m ⟨[], 0, 0, 0, 0⟩ (linv0 w list)
  exact ⟨h.1, by simpa [runL] using h.2.1⟩
structure LClear (w : Nat) (list : List (List Int)) (st : LSt) : Prop where
  s1 : st.s1 = st.kn
  kn : st.kn ≤ list.length
  low : st.kn ≤ st.rounds * w
def runV (a0 : Int) (l1 : List (List Int)) (l2 l3 : List Int) (a4 : Int) : List (List Int) × Int × Int × Bool × Bool :=
  if linkB a0 l1 l2 l3 a4 = true then ((runR a0 l1 l2 l3 a4).got, ((runR a0 l1 l2 l3 a4).rounds : Int), (((runR a0 l1 l2 l3 a4).s1 + (runR a0 l1 l2 l3 a4).s2 : Nat) : Int), decide (l1.length ≤ (runR a0 l1 l2 l3 a4).kn), true) else ([], 0, 0, false, false)
theorem implRun (k : Nat) (a0 : Int) (l1 : List (List Int)) (l2 l3 : List Int) (a4 : Int) (hb : bytesOk l1 = true) : impl_RunLink.f k a0 l1 l2 l3 a4 = some (runV a0 l1 l2 l3 a4) := by
  unfold impl_RunLink.f runV
  rw [if_pos hb]
  split <;> rfl
theorem specIn (a b c : Int) : spec_l1In.f a b c = some (decide (b ≤ a) && decide (a ≤ c)) := by
  unfold spec_l1In.f
  by_cases h : b ≤ a
  · simp [h]
  · simp [h]
theorem linkB_nat {a0 : Int} {l1 : List (List Int)} {l2 l3 : List Int} {a4 : Int} (h : linkB a0 l1 l2 l3 a4 = true) : 1 ≤ a0.toNat ∧ a0.toNat ≤ 8 ∧ 1 ≤ a0 ∧ a0 ≤ 8 ∧ 0 ≤ a4 ∧ a4 ≤ 400 ∧ l1.length ≤ 60 := by
  simp only [linkB, Bool.and_eq_true, winOk, rndOk, decide_eq_true_eq] at h
  omega
end Go.Proofs.Ytookabfmbimnoaa.Lk

namespace Go.Proofs.Ytookabfmbimnoaa.Lk
open Go.RowKit Go.Proofs.YtookabfmbimnoaaW.PrintWords Go.Proofs.YtookabfmbimnoaaW.PrintLast Go.Proofs.YtookabfmbimnoaaW.PrintMore
set_option linter.unusedVariables false
set_option linter.unusedSimpArgs false

theorem rd_get {l : List Int} {i : Nat} (h : i < l.length) : rd l (i : Int) = l[i] := by
  show l.getD _ 0 = _
  rw [List.getD_eq_getElem?_getD, Int.toNat_natCast, List.getElem?_eq_getElem h]
  rfl
theorem set_nextI {l : List Int} {j : Nat} (hj : j < l.length) : (l.take j ++ List.replicate (l.length - j) (0 : Int)).set j (rd l (j : Int)) = l.take (j + 1) ++ List.replicate (l.length - (j + 1)) 0 := by
  have h1 : (l.take j).length = j := by rw [List.length_take]; omega
  rw [List.set_append_right _ _ (by omega), h1, Nat.sub_self, show l.length - j = (l.length - (j + 1)) + 1 by omega, List.replicate_succ, List.set_cons_zero, List.take_succ_eq_append_getElem hj, rd_get hj, List.append_assoc]
  rfl
theorem stepI (i : Nat) (hi : i < 9223372036854775807) : wrap64 ((i : Int) + 1) = ((i + 1 : Nat) : Int) := by rw [w64 _ (by omega)]; simp

theorem toByteS_at (l : List Int) (hl : l.length ≤ 9223372036854775806) : ∀ (m i k : Nat), i + m = l.length → m + 1 ≤ k → laws_toByteS.l0 k l (l.take i ++ List.replicate (l.length - i) 0) (i : Int) = some l
  | m, i, 0, hi, hk => by omega
  | 0, i, k + 1, hi, hk => by
    rw [laws_toByteS.l0, if_neg (by omega), show l.length - i = 0 by omega, List.replicate_zero, List.append_nil, List.take_of_length_le (by omega)]
  | m + 1, i, k + 1, hi, hk => by
    have hil : i < l.length := by omega
    have h2 : ((i : Nat) : Int) < ((l.take i ++ List.replicate (l.length - i) (0 : Int)).length : Int) := by rw [List.length_append, List.length_take, List.length_replicate]; omega
    rw [laws_toByteS.l0, if_pos (by omega), if_pos (by omega), if_pos h2, Int.toNat_natCast, set_nextI hil, stepI i (by omega)]
    exact toByteS_at l hl m (i + 1) k (by omega) (by omega)
theorem toByteS_ok (l : List Int) (hl : l.length ≤ 281474976710656) (k : Nat) (hk : l.length + 1 ≤ k) : laws_toByteS.f k l = some l := by
  unfold laws_toByteS.f
  rw [if_pos (by omega), Int.toNat_natCast, if_pos hl]
  have := toByteS_at l (by omega) l.length 0 k (by omega) hk
  rw [List.take_zero, List.nil_append, Nat.sub_zero] at this
  exact this

theorem toIntS_at (l : List Int) (hl : l.length ≤ 9223372036854775806) : ∀ (m i k : Nat), i + m = l.length → m + 1 ≤ k → laws_toIntS.l0 k l (l.take i ++ List.replicate (l.length - i) 0) (i : Int) = some l
  | m, i, 0, hi, hk => by omega
  | 0, i, k + 1, hi, hk => by
    rw [laws_toIntS.l0, if_neg (by omega), show l.length - i = 0 by omega, List.replicate_zero, List.append_nil, List.take_of_length_le (by omega)]
  | m + 1, i, k + 1, hi, hk => by
    have hil : i < l.length := by omega
    have h2 : ((i : Nat) : Int) < ((l.take i ++ List.replicate (l.length - i) (0 : Int)).length : Int) := by rw [List.length_append, List.length_take, List.length_replicate]; omega
    rw [laws_toIntS.l0, if_pos (by omega), if_pos (by omega), if_pos h2, Int.toNat_natCast, set_nextI hil, stepI i (by omega)]
    exact toIntS_at l hl m (i + 1) k (by omega) (by omega)
theorem toIntS_ok (l : List Int) (hl : l.length ≤ 35184372088832) (k : Nat) (hk : l.length + 1 ≤ k) : laws_toIntS.f k l = some l := by
  unfold laws_toIntS.f
  rw [if_pos (by omega), Int.toNat_natCast, if_pos hl]
  have := toIntS_at l (by omega) l.length 0 k (by omega) hk
  rw [List.take_zero, List.nil_append, Nat.sub_zero] at this
  exact this

theorem eqByteS_at (l : List Int) (hl : l.length ≤ 9223372036854775806) : ∀ (m i k : Nat), i + m = l.length → m + 1 ≤ k → laws_eqByteS.l0 k l l (i : Int) = some true
  | m, i, 0, hi, hk => by omega
  | 0, i, k + 1, hi, hk => by rw [laws_eqByteS.l0, if_neg (by omega)]
  | m + 1, i, k + 1, hi, hk => by
    rw [laws_eqByteS.l0, if_pos (by omega), if_pos (by omega), if_pos (by omega), if_pos rfl, stepI i (by omega)]
    exact eqByteS_at l hl m (i + 1) k (by omega) (by omega)
theorem eqByteS_ok (l : List Int) (hl : l.length ≤ 9223372036854775806) (k : Nat) (hk : l.length + 1 ≤ k) : laws_eqByteS.f k l l = some true := by
  unfold laws_eqByteS.f
  rw [if_pos rfl]
  exact eqByteS_at l hl l.length 0 k (by omega) hk

theorem eqIntS_at (l : List Int) (hl : l.length ≤ 9223372036854775806) : ∀ (m i k : Nat), i + m = l.length → m + 1 ≤ k → laws_eqIntS.l0 k l l (i : Int) = some true
  | m, i, 0, hi, hk => by omega
  | 0, i, k + 1, hi, hk => by rw [laws_eqIntS.l0, if_neg (by omega)]
  | m + 1, i, k + 1, hi, hk => by
    rw [laws_eqIntS.l0, if_pos (by omega), if_pos (by omega), if_pos (by omega), if_pos rfl, stepI i (by omega)]
    exact eqIntS_at l hl m (i + 1) k (by omega) (by omega)
theorem eqIntS_ok (l : List Int) (hl : l.length ≤ 9223372036854775806) (k : Nat) (hk : l.length + 1 ≤ k) : laws_eqIntS.f k l l = some true := by
  unfold laws_eqIntS.f
  rw [if_pos rfl]
  exact eqIntS_at l hl l.length 0 k (by omega) hk

theorem eqByteSS_at (l : List (List Int)) (hl : l.length ≤ 9223372036854775806) (B : Nat) (hB : B ≤ 9223372036854775806) (hb : ∀ b ∈ l, b.length ≤ B) : ∀ (m i k : Nat), i + m = l.length → m + B + 2 ≤ k → laws_eqByteSS.l0 k l l (i : Int) = some true
  | m, i, 0, hi, hk => by omega
  | 0, i, k + 1, hi, hk => by rw [laws_eqByteSS.l0, if_neg (by omega)]
  | m + 1, i, k + 1, hi, hk => by
    have hil : i < l.length := by omega
    have h1 := hb _ (List.getElem_mem hil)
    rw [laws_eqByteSS.l0, if_pos (by omega), if_pos (by omega), if_pos (by omega), rd_L2_get hil, eqByteS_ok _ (by omega) k (by omega), Option.bind_some, if_pos rfl, stepI i (by omega)]
    exact eqByteSS_at l hl B hB hb m (i + 1) k (by omega) (by omega)
theorem eqByteSS_ok (l : List (List Int)) (hl : l.length ≤ 9223372036854775806) (B : Nat) (hB : B ≤ 9223372036854775806) (hb : ∀ b ∈ l, b.length ≤ B) (k : Nat) (hk : l.length + B + 2 ≤ k) : laws_eqByteSS.f k l l = some true := by
  unfold laws_eqByteSS.f
  rw [if_pos rfl]
  exact eqByteSS_at l hl B hB hb l.length 0 k (by omega) hk
theorem toByteSS_ok (l : List (List Int)) (hl : l.length ≤ 1000000000) (B : Nat) (hB : B ≤ 281474976710656) (hb : ∀ b ∈ l, b.length ≤ B) (k : Nat) (hk : B + 1 ≤ k) : laws_toByteSS.f k l = some l := by
  unfold laws_toByteSS.f
  rw [if_pos]
  unfold copyOk
  simp only [Bool.and_eq_true, List.all_eq_true, beq_iff_eq, decide_eq_true_eq]
  exact ⟨hl, fun b h => toByteS_ok b (by have := hb b h; omega) k (by have := hb b h; omega)⟩
/-- What szByteSS tells: where it is not negative, no row is long. -/
theorem szRow (b : List Int) (left : Int) (h0 : 0 ≤ left) (h1 : left ≤ 1048576) (hb : b.length ≤ 9223372036854775807) : ∃ r, laws_szByteS.f b left = some r ∧ r ≤ left ∧ (0 ≤ r → (b.length : Int) ≤ left) := by
  unfold laws_szByteS.f
  rw [w64 _ (by omega)]
  by_cases h : left - (b.length : Int) < 0
  · rw [if_pos h]
    exact ⟨_, rfl, by omega, by omega⟩
  · rw [if_neg h]
    exact ⟨_, rfl, by omega, by omega⟩
theorem szRows (l : List (List Int)) (hl : l.length ≤ 9223372036854775806) (hb : ∀ b ∈ l, b.length ≤ 9223372036854775807) : ∀ (m i k : Nat) (left : Int), i + m = l.length → m + 1 ≤ k → 0 ≤ left → left ≤ 1048576 → ∃ r, laws_szByteSS.l0 k l left (i : Int) = some r ∧ (0 ≤ r → ∀ b ∈ l.drop i, b.length ≤ 1048576)
  | m, i, 0, left, hi, hk, h0, h1 => by omega
  | 0, i, k + 1, left, hi, hk, h0, h1 => ⟨left, by rw [laws_szByteSS.l0, if_neg (by omega)], fun _ b hbm => by rw [List.drop_eq_nil_of_le (by omega)] at hbm; cases hbm⟩
  | m + 1, i, k + 1, left, hi, hk, h0, h1 => by
    have hil : i < l.length := by omega
    obtain ⟨r, hr, hr1, hr2⟩ := szRow l[i] left h0 h1 (hb _ (List.getElem_mem hil))
    rw [laws_szByteSS.l0, if_pos (by omega), if_pos (by omega), rd_L2_get hil, hr, Option.bind_some]
    by_cases hneg : r < 0
    · rw [if_pos hneg]
      exact ⟨_, rfl, fun h => by omega⟩
    · rw [if_neg hneg, stepI i (by omega)]
      obtain ⟨q, hq, hq2⟩ := szRows l hl hb m (i + 1) k r (by omega) (by omega) (by omega) (by omega)
      refine ⟨q, hq, fun h b hbm => ?_⟩
      rw [List.drop_eq_getElem_cons hil] at hbm
      rcases List.mem_cons.1 hbm with rfl | hbm
      · have := hr2 (by omega)
        omega
      · exact hq2 h b hbm
theorem szRows_ok (l : List (List Int)) (hl : l.length ≤ 9223372036854775806) (hb : ∀ b ∈ l, b.length ≤ 9223372036854775807) (k : Nat) (hk : l.length + 1 ≤ k) : ∃ r, laws_szByteSS.f k l 1048576 = some r ∧ (0 ≤ r → l.length ≤ 1048576 ∧ ∀ b ∈ l, b.length ≤ 1048576) := by
  unfold laws_szByteSS.f
  rw [w64 _ (by omega)]
  by_cases h : (1048576 : Int) - (l.length : Int) < 0
  · rw [if_pos h]
    exact ⟨_, rfl, fun h => by omega⟩
  · rw [if_neg h]
    obtain ⟨r, hr, hr2⟩ := szRows l hl hb l.length 0 k (1048576 - (l.length : Int)) (by omega) hk (by omega) (by omega)
    exact ⟨r, hr, fun h0 => ⟨by omega, by simpa using hr2 h0⟩⟩
theorem specFatesAny (l : List Int) (k : Nat) (hl : l.length ≤ 2000000) (hk : l.length + 1 ≤ k) : spec_FatesValid.f k l = some (fatesOk l) := by
  have := specFatesG l (by omega) l.length 0 k (by omega) hk
  rw [List.drop_zero] at this
  exact this
theorem specLinkAny0 (a0 : Int) (l1 : List (List Int)) (l2 l3 : List Int) (h2 : l2.length ≤ 2000000) (h3 : l3.length ≤ 2000000) : ∀ (m i k : Nat), i + m = l1.length → l1.length ≤ 2000000 → m + 2000010 ≤ k →
    spec_l5Link.l0 k a0 l1 l2 l3 (i : Int) = some ((l1.drop i).all shortB && (winOk a0 && (decide (l1.length ≤ 60) && (fatesOk l2 && fatesOk l3))))
  | m, i, 0, hi, hl, hk => by omega
  | 0, i, k + 1, hi, hl, hk => by
    rw [spec_l5Link.l0, if_neg (by omega), specIn_ok, Option.bind_some, List.drop_eq_nil_of_le (by omega), specFatesAny l2 k h2 (by omega), specFatesAny l3 k h3 (by omega)]
    show (if winOk a0 = true then _ else _) = _
    simp only [List.all_nil, Bool.true_and]
    cases winOk a0 with
    | false => rfl
    | true =>
      rw [if_pos rfl]
      by_cases hl60 : l1.length ≤ 60
      · rw [if_pos (by omega), decide_eq_true hl60, Option.bind_some]
        cases fatesOk l2 with
        | false => rfl
        | true => rw [if_pos rfl, Option.bind_some]; rfl
      · rw [if_neg (by omega), decide_eq_false hl60]; rfl
  | m + 1, i, k + 1, hi, hl, hk => by
    have hil : i < l1.length := by omega
    have hd : l1.drop i = l1[i] :: l1.drop (i + 1) := List.drop_eq_getElem_cons hil
    rw [spec_l5Link.l0, if_pos (by omega), if_pos (by omega), rd_L2_get hil, hd, List.all_cons]
    by_cases hs : l1[i].length ≤ 597
    · rw [if_neg (by omega), stepI i (by omega), specLinkAny0 a0 l1 l2 l3 h2 h3 m (i + 1) k (by omega) hl (by omega), show shortB l1[i] = true from decide_eq_true hs, Bool.true_and]
    · rw [if_pos (by omega), show shortB l1[i] = false from decide_eq_false hs]; rfl
theorem specLinkAny (a0 : Int) (l1 : List (List Int)) (l2 l3 : List Int) (h1 : l1.length ≤ 2000000) (h2 : l2.length ≤ 2000000) (h3 : l3.length ≤ 2000000) (k : Nat) (hk : 4000020 ≤ k) : spec_l5Link.f k a0 l1 l2 l3 = some (linkB0 a0 l1 l2 l3) := by
  have h := specLinkAny0 a0 l1 l2 l3 h2 h3 l1.length 0 k (by omega) h1 (by omega)
  rw [List.drop_zero] at h
  refine h.trans (congrArg some ?_)
  unfold linkB0
  cases l1.all shortB <;> cases winOk a0 <;> cases decide (l1.length ≤ 60) <;> rfl
theorem bytesOk_wf {l : List (List Int)} (h : ∀ b ∈ l, ∀ x ∈ b, (Lit.int .u8 x).wf = true) : bytesOk l = true := by
  unfold bytesOk
  simp only [List.all_eq_true, Bool.and_eq_true, decide_eq_true_eq]
  exact fun b hb x hx => wf_byte (h b hb x hx)
end Go.Proofs.Ytookabfmbimnoaa.Lk

namespace Go.Proofs.Ytookabfmbimnoaa.Lk
open Go.RowKit Go.Proofs.YtookabfmbimnoaaW.PrintWords Go.Proofs.YtookabfmbimnoaaW.PrintLast Go.Proofs.YtookabfmbimnoaaW.PrintMore
set_option linter.unusedVariables false
set_option linter.unusedSimpArgs false

/-- Numbers that count on, as bytes. -/
def cnt : Int → Nat → List Int
  | _, 0 => []
  | a, m + 1 => a % 256 :: cnt (a + 1) m
theorem cnt_length : ∀ (m : Nat) (a : Int), (cnt a m).length = m
  | 0, a => rfl
  | m + 1, a => by rw [cnt, List.length_cons, cnt_length m]
theorem take_set_next {x : List Int} {i : Nat} (hi : i < x.length) (v : Int) : (x.set i v).take (i + 1) = x.take i ++ [v] := by
  rw [List.take_succ_eq_append_getElem (by rw [List.length_set]; exact hi), List.getElem_set_self, List.take_set_of_le (Nat.le_refl _)]
theorem markB_at : ∀ (m i k : Nat) (a : Int) (x : List Int), i + m = x.length → m + 1 ≤ k → 0 ≤ a → a + m ≤ 4611686018427387904 → x.length ≤ 4611686018427387904 → laws_markByteS.l0 k x a (i : Int) = some (a + m, x.take i ++ cnt a m)
  | m, i, 0, a, x, hi, hk, h0, h1, hx => by omega
  | 0, i, k + 1, a, x, hi, hk, h0, h1, hx => by
    rw [laws_markByteS.l0, if_neg (by omega), List.take_of_length_le (by omega), cnt, List.append_nil]
    simp
  | m + 1, i, k + 1, a, x, hi, hk, h0, h1, hx => by
    have hil : i < x.length := by omega
    have e1 : wrap64 (a + 1) = a + 1 := w64 _ (by omega)
    rw [laws_markByteS.l0, if_pos (by omega), if_pos (by omega), e1, stepI i (by omega), Int.toNat_natCast]
    clear e1
    rw [markB_at m (i + 1) k (a + 1) (x.set i (a % 256)) (by rw [List.length_set]; omega) (by omega) (by omega) (by omega) (by rw [List.length_set]; omega), take_set_next hil, List.append_assoc]
    have : a + 1 + (m : Int) = a + ((m + 1 : Nat) : Int) := by omega
    rw [this]
    rfl
theorem markB_ok (b : List Int) (k : Nat) (a : Int) (hk : b.length + 1 ≤ k) (h0 : 0 ≤ a) (h1 : a + b.length ≤ 4611686018427387904) : laws_markByteS.f k b a = some (a + (b.length : Int), cnt a b.length) := by
  have := markB_at b.length 0 k a b (by omega) hk h0 h1 (by omega)
  rw [List.take_zero, List.nil_append] at this
  exact this
theorem markI_at : ∀ (m i k : Nat) (a : Int) (x : List Int), i + m = x.length → m + 1 ≤ k → 0 ≤ a → a + m ≤ 4611686018427387904 → x.length ≤ 4611686018427387904 → ∃ y, laws_markIntS.l0 k x a (i : Int) = some (a + m, y)
  | m, i, 0, a, x, hi, hk, h0, h1, hx => by omega
  | 0, i, k + 1, a, x, hi, hk, h0, h1, hx => ⟨x, by rw [laws_markIntS.l0, if_neg (by omega)]; simp⟩
  | m + 1, i, k + 1, a, x, hi, hk, h0, h1, hx => by
    have e1 : wrap64 (a + 1) = a + 1 := w64 _ (by omega)
    rw [laws_markIntS.l0, if_pos (by omega), if_pos (by omega), e1, stepI i (by omega), Int.toNat_natCast]
    clear e1
    obtain ⟨y, hy⟩ := markI_at m (i + 1) k (a + 1) (x.set i a) (by rw [List.length_set]; omega) (by omega) (by omega) (by omega) (by rw [List.length_set]; omega)
    have : a + 1 + (m : Int) = a + ((m + 1 : Nat) : Int) := by omega
    exact ⟨y, by rw [hy, this]⟩
theorem markI_ok (b : List Int) (k : Nat) (a : Int) (hk : b.length + 1 ≤ k) (h0 : 0 ≤ a) (h1 : a + b.length ≤ 4611686018427387904) : ∃ y, laws_markIntS.f k b a = some (a + b.length, y) :=
  markI_at b.length 0 k a b (by omega) hk h0 h1 (by omega)
theorem heldB_at : ∀ (m i k : Nat) (a : Int) (y : List Int), i + m = y.length → m + 1 ≤ k → 0 ≤ a → a + m ≤ 4611686018427387904 → y.length ≤ 4611686018427387904 → y.drop i = cnt a m → laws_heldByteS.l0 k y a (i : Int) = some (a + m)
  | m, i, 0, a, y, hi, hk, h0, h1, hx, hd => by omega
  | 0, i, k + 1, a, y, hi, hk, h0, h1, hx, hd => by
    rw [laws_heldByteS.l0, if_neg (by omega)]
    simp
  | m + 1, i, k + 1, a, y, hi, hk, h0, h1, hx, hd => by
    have hil : i < y.length := by omega
    rw [List.drop_eq_getElem_cons hil, cnt] at hd
    injection hd with hd1 hd2
    have e1 : wrap64 (a + 1) = a + 1 := w64 _ (by omega)
    rw [laws_heldByteS.l0, if_pos (by omega), if_pos (by omega), rd_get hil, if_pos hd1, e1, stepI i (by omega)]
    clear e1
    rw [heldB_at m (i + 1) k (a + 1) y (by omega) (by omega) (by omega) (by omega) hx hd2]
    have : a + 1 + (m : Int) = a + ((m + 1 : Nat) : Int) := by omega
    rw [this]
theorem heldB_ok (n k : Nat) (a : Int) (hk : n + 1 ≤ k) (h0 : 0 ≤ a) (h1 : a + n ≤ 4611686018427387904) : laws_heldByteS.f k (cnt a n) a = some (a + n) :=
  heldB_at n 0 k a (cnt a n) (by rw [cnt_length]; omega) hk h0 h1 (by rw [cnt_length]; omega) rfl
def tot : List (List Int) → Nat
  | [] => 0
  | b :: bs => b.length + tot bs
def marks : Int → List (List Int) → List (List Int)
  | _, [] => []
  | a, b :: bs => cnt a b.length :: marks (a + b.length) bs
theorem marks_length : ∀ (l : List (List Int)) (a : Int), (marks a l).length = l.length
  | [], a => rfl
  | b :: bs, a => by rw [marks, List.length_cons, List.length_cons, marks_length bs]
theorem tot_le (B : Nat) : ∀ (l : List (List Int)), (∀ b ∈ l, b.length ≤ B) → tot l ≤ l.length * B
  | [], h => Nat.zero_le _
  | b :: bs, h => by
    have h1 := h b (by simp)
    have h2 := tot_le B bs (fun x hx => h x (by simp [hx]))
    rw [tot, List.length_cons, Nat.succ_mul]
    omega
theorem markSS_ok (k B : Nat) (hk : B + 1 ≤ k) : ∀ (l : List (List Int)) (a : Int), (∀ b ∈ l, b.length ≤ B) → 0 ≤ a → a + tot l ≤ 4611686018427387904 → markSS k l a = some (a + tot l, marks a l)
  | [], a, hb, h0, h1 => by rw [markSS, tot, marks]; simp
  | b :: bs, a, hb, h0, h1 => by
    rw [tot] at h1
    have hbl := hb b (by simp)
    rw [markSS, markB_ok b k a (by omega) h0 (by omega), Option.bind_some]
    simp only
    rw [markSS_ok k B hk bs (a + b.length) (fun x hx => hb x (by simp [hx])) (by omega) (by omega), Option.bind_some]
    simp only [marks]
    have : a + (b.length : Int) + (tot bs : Int) = a + ((tot (b :: bs) : Nat) : Int) := by rw [tot]; omega
    rw [this]
theorem heldSS_at (k0 B : Nat) : ∀ (l : List (List Int)) (i k : Nat) (a : Int) (z : List (List Int)), i + l.length = z.length → l.length + B + 2 ≤ k → (∀ b ∈ l, b.length ≤ B) → 0 ≤ a → a + tot l ≤ 4611686018427387904 → z.length ≤ 4611686018427387904 → z.drop i = marks a l → laws_heldByteSS.l0 k z a (i : Int) = some (a + tot l)
  | l, i, 0, a, z, hi, hk, hb, h0, h1, hz, hd => by omega
  | [], i, k + 1, a, z, hi, hk, hb, h0, h1, hz, hd => by
    rw [List.length_nil] at hi
    rw [laws_heldByteSS.l0, if_neg (by omega), tot]
    simp
  | b :: bs, i, k + 1, a, z, hi, hk, hb, h0, h1, hz, hd => by
    rw [List.length_cons] at hi hk
    rw [tot] at h1
    have hil : i < z.length := by omega
    have hbl := hb b (by simp)
    rw [List.drop_eq_getElem_cons hil, marks] at hd
    injection hd with hd1 hd2
    rw [laws_heldByteSS.l0, if_pos (by omega), if_pos (by omega), rd_L2_get hil, hd1, heldB_ok b.length k a (by omega) h0 (by omega), Option.bind_some, if_neg (by omega), stepI i (by omega)]
    rw [heldSS_at k0 B bs (i + 1) k (a + b.length) z (by omega) (by omega) (fun x hx => hb x (by simp [hx])) (by omega) (by omega) hz hd2]
    have : a + (b.length : Int) + (tot bs : Int) = a + ((tot (b :: bs) : Nat) : Int) := by rw [tot]; omega
    rw [this]
theorem heldRun_ok (k B : Nat) (l : List (List Int)) (x1 x2 : Int) (x3 : Bool) (hk : l.length + B + 2 ≤ k) (hb : ∀ b ∈ l, b.length ≤ B) (h1 : 1 + tot l ≤ 4611686018427387904) (hl : l.length ≤ 4611686018427387904) : laws_heldLinkRun.f k (marks 1 l) x1 x2 x3 1 = some ((1 : Int) + (tot l : Int)) := by
  unfold laws_heldLinkRun.f laws_heldByteSS.f
  have := heldSS_at 0 B l 0 k 1 (marks 1 l) (by rw [marks_length]; omega) hk hb (by omega) (by omega) (by rw [marks_length]; exact hl) rfl
  rw [show ((0 : Nat) : Int) = 0 from rfl] at this
  rw [this, Option.bind_some, if_neg (by omega)]
theorem specRunAny (k : Nat) (hk : 4000020 ≤ k) (a0 : Int) (l1 : List (List Int)) (l2 l3 : List Int) (a4 : Int) (hb : bytesOk l1 = true) (h1 : l1.length ≤ 2000000) (h2 : l2.length ≤ 2000000) (h3 : l3.length ≤ 2000000) : spec_RunLink.f k a0 l1 l2 l3 a4 = some (runV a0 l1 l2 l3 a4) := by
  unfold spec_RunLink.f runV
  rw [specLinkAny a0 l1 l2 l3 h1 h2 h3 k hk, Option.bind_some, linkB_split]
  cases h : linkB0 a0 l1 l2 l3 with
  | false => simp
  | true =>
    simp only [Bool.true_and]
    rw [specIn]
    simp only [Option.bind_some]
    by_cases hr : rndOk a4 = true
    · have hr2 : (decide (0 ≤ a4) && decide (a4 ≤ 400)) = true := by simpa [rndOk] using hr
      have hL : bytesOk l1 = true ∧ linkB a0 l1 l2 l3 a4 = true := ⟨hb, by rw [linkB_split, h, hr]; rfl⟩
      rw [hr2, hr, if_pos rfl, if_pos rfl, if_pos True.intro]
      unfold spec_l5Run.f
      rw [if_pos hL]
      rfl
    · have hr1 : rndOk a4 = false := by simpa using hr
      have hr2 : (decide (0 ≤ a4) && decide (a4 ≤ 400)) = false := by simpa [rndOk] using hr1
      rw [hr2, hr1]
      rfl
theorem runV_got (a0 : Int) (l1 : List (List Int)) (l2 l3 : List Int) (a4 : Int) : (runV a0 l1 l2 l3 a4).1.length ≤ 60 ∧ ∀ b ∈ (runV a0 l1 l2 l3 a4).1, b ∈ l1 := by
  unfold runV
  by_cases hL : linkB a0 l1 l2 l3 a4 = true
  · rw [if_pos hL]
    obtain ⟨n1, n2, _, _, _, _, n7⟩ := linkB_nat hL
    have hc := (runL_inv n2 n1 (list := l1) (there := l2) (back := l3) a4.toNat).1
    have hr : runR a0 l1 l2 l3 a4 = runL a0.toNat l1 l2 l3 a4.toNat := rfl
    rw [hr]
    generalize runL a0.toNat l1 l2 l3 a4.toNat = R at hc
    have h2 := hc.hi
    refine ⟨by simp only; omega, fun b hb => ?_⟩
    simp only at hb
    rw [hc.front] at hb
    exact List.mem_of_mem_take hb
  · rw [if_neg hL]
    exact ⟨by simp, fun b hb => by simp at hb⟩
set_option maxHeartbeats 4000000 in
set_option maxRecDepth 100000 in
theorem exactRun_long2 (k : Nat) (a0 : Int) (A1 : Option Addr) (c1 : Nat) (l1 : List (List Int)) (A2 : Option Addr) (c2 : Nat) (l2 : List Int) (A3 : Option Addr) (c3 : Nat) (l3 : List Int) (a4 : Int) (w : World) (hr1 : Kd.C (Kd.slice 5 (Kd.int .u8)) w A1 l1.length l1) (hc1 : l1.length ≤ c1) (hr2 : Kd.C (Kd.int .i64) w A2 l2.length l2) (hc2 : l2.length ≤ c2) (hr3 : Kd.C (Kd.int .i64) w A3 l3.length l3) (hc3 : l3.length ≤ c3) (h : 1048576 < l2.length) : Calls Try.prog 8 #[.int .i64 a0, .slice A1 l1.length c1, .slice A2 l2.length c2, .slice A3 l3.length c3, .int .i64 a4] w fun e w' => e = .returned (.bool true) ∧ Below w.heap.size w w' := by
  have b2 : decide ((l2.length : Int) > 1048576) = true := decide_eq_true (by omega)
  have b2n : decide (1048576 < (l2.length : Int)) = true := decide_eq_true (by omega)
  have b2m : decide (1048576 < l2.length) = true := decide_eq_true (by omega)
  clear h hr1 hc1 hr2 hc2 hr3 hc3
  go_enter Try.func8, Try.ntmps8
  go_wp2
  go_ret
  exact ⟨rfl, Below.refl _ _⟩
set_option maxHeartbeats 4000000 in
set_option maxRecDepth 100000 in
theorem exactRun_long3 (k : Nat) (a0 : Int) (A1 : Option Addr) (c1 : Nat) (l1 : List (List Int)) (A2 : Option Addr) (c2 : Nat) (l2 : List Int) (A3 : Option Addr) (c3 : Nat) (l3 : List Int) (a4 : Int) (w : World) (hr1 : Kd.C (Kd.slice 5 (Kd.int .u8)) w A1 l1.length l1) (hc1 : l1.length ≤ c1) (hr2 : Kd.C (Kd.int .i64) w A2 l2.length l2) (hc2 : l2.length ≤ c2) (hr3 : Kd.C (Kd.int .i64) w A3 l3.length l3) (hc3 : l3.length ≤ c3) (h2 : l2.length ≤ 1048576) (h : 1048576 < l3.length) : Calls Try.prog 8 #[.int .i64 a0, .slice A1 l1.length c1, .slice A2 l2.length c2, .slice A3 l3.length c3, .int .i64 a4] w fun e w' => e = .returned (.bool true) ∧ Below w.heap.size w w' := by
  have b2 : decide ((l2.length : Int) > 1048576) = false := decide_eq_false (by omega)
  have b2n : decide (1048576 < (l2.length : Int)) = false := decide_eq_false (by omega)
  have b2m : decide (1048576 < l2.length) = false := decide_eq_false (by omega)
  have b3 : decide ((l3.length : Int) > 1048576) = true := decide_eq_true (by omega)
  have b3n : decide (1048576 < (l3.length : Int)) = true := decide_eq_true (by omega)
  have b3m : decide (1048576 < l3.length) = true := decide_eq_true (by omega)
  clear h h2 hr1 hc1 hr2 hc2 hr3 hc3
  go_enter Try.func8, Try.ntmps8
  go_wp2
  go_ret
  exact ⟨rfl, Below.refl _ _⟩
set_option maxHeartbeats 4000000 in
set_option maxRecDepth 100000 in
theorem exactRun_long1 (k : Nat) (a0 : Int) (A1 : Option Addr) (c1 : Nat) (l1 : List (List Int)) (A2 : Option Addr) (c2 : Nat) (l2 : List Int) (A3 : Option Addr) (c3 : Nat) (l3 : List Int) (a4 : Int) (w : World) (hr1 : Kd.C (Kd.slice 5 (Kd.int .u8)) w A1 l1.length l1) (hc1 : l1.length ≤ c1) (hr2 : Kd.C (Kd.int .i64) w A2 l2.length l2) (hc2 : l2.length ≤ c2) (hr3 : Kd.C (Kd.int .i64) w A3 l3.length l3) (hc3 : l3.length ≤ c3) (h2 : l2.length ≤ 1048576) (h3 : l3.length ≤ 1048576) (z0 : Int) (hsz : laws_szByteSS.f k l1 1048576 = some z0) (hz0 : z0 < 0) : Calls Try.prog 8 #[.int .i64 a0, .slice A1 l1.length c1, .slice A2 l2.length c2, .slice A3 l3.length c3, .int .i64 a4] w fun e w' => e = .returned (.bool true) ∧ Below w.heap.size w w' := by
  have HR1 := Aside0.mk hr1
  have HC1 := Aside0.mk hc1
  have HSZ := Aside0.mk hsz
  have b2 : decide ((l2.length : Int) > 1048576) = false := decide_eq_false (by omega)
  have b3 : decide ((l3.length : Int) > 1048576) = false := decide_eq_false (by omega)
  have b2n : decide (1048576 < (l2.length : Int)) = false := decide_eq_false (by omega)
  have b3n : decide (1048576 < (l3.length : Int)) = false := decide_eq_false (by omega)
  have b2m : decide (1048576 < l2.length) = false := decide_eq_false (by omega)
  have b3m : decide (1048576 < l3.length) = false := decide_eq_false (by omega)
  have bz : decide (z0 < 0) = true := decide_eq_true hz0
  clear hr1 hc1 hr2 hc2 hr3 hc3 hsz h2 h3 hz0
  have HB := Aside0.mk (Below.refl w.heap.size w)
  go_enter Try.func8, Try.ntmps8
  go_wp2_with ((with_reducible refine gate_callee (f := 12) rfl ?_); refine goesL_ (some 32) rfl rfl Try.func12 (by kernel_rfl) rfl #[.slice A1 l1.length c1, .int .i64 1048576] rfl (by (try simp only [List.map_toArray, List.map_cons, List.map_nil]); first | done | rfl) ?_; (with_reducible refine (laws_szByteSS.calls k _ _ l1 1048576 z0 _ ?s0 HC1.out HSZ.out).mono ?_); (case s0 => repeat (first | (with_reducible exact (Kd.C_below HR1.out HB.out)) | (with_reducible refine Kd.C_alloc ?_ _) | (with_reducible refine Kd.C_drewN ?_ _) | (with_reducible refine Kd.C_drew ?_))); rintro e w' ⟨rfl, ⟨nd, rfl⟩⟩; refine ⟨_, rfl, ?_⟩)
  go_ret
  exact ⟨rfl, (by repeat (first | (with_reducible first | exact HB.out | apply below_alloc | apply pw_below_drewN | apply below_drew1) | exact HB.out))⟩
/-- One of the ways. -/
def laws_FnExactRunLink.Fits (k : Nat) (a0 : Int) (l1 : List (List Int)) (l2 l3 : List Int) (a4 : Int) : Prop :=
  1048576 < l2.length ∨ (l2.length ≤ 1048576 ∧ 1048576 < l3.length) ∨ (l2.length ≤ 1048576 ∧ l3.length ≤ 1048576 ∧ ∃ z0, laws_szByteSS.f k l1 1048576 = some z0 ∧ z0 < 0) ∨
  (bytesOk l1 = true ∧ l2.length ≤ 1048576 ∧ l3.length ≤ 1048576 ∧ l1.length ≤ 1048576 ∧ (∀ b ∈ l1, b.length ≤ 1048576) ∧ 6000000 ≤ k ∧ ∃ z0, laws_szByteSS.f k l1 1048576 = some z0 ∧ 0 ≤ z0)
theorem laws_FnExactRunLink.calls (k : Nat) (a0 : Int) (A1 : Option Addr) (c1 : Nat) (l1 : List (List Int)) (A2 : Option Addr) (c2 : Nat) (l2 : List Int) (A3 : Option Addr) (c3 : Nat) (l3 : List Int) (a4 : Int) (r : Bool) (w : World) (hr1 : Kd.C (Kd.slice 5 (Kd.int .u8)) w A1 l1.length l1) (hc1 : l1.length ≤ c1) (hr2 : Kd.C (Kd.int .i64) w A2 l2.length l2) (hc2 : l2.length ≤ c2) (hr3 : Kd.C (Kd.int .i64) w A3 l3.length l3) (hc3 : l3.length ≤ c3) (h : laws_FnExactRunLink.Fits k a0 l1 l2 l3 a4) : Calls Try.prog 8 #[.int .i64 a0, .slice A1 l1.length c1, .slice A2 l2.length c2, .slice A3 l3.length c3, .int .i64 a4] w fun e w' => e = .returned (.bool true) ∧ Below w.heap.size w w' := by
  rcases h with h | ⟨h2, h⟩ | ⟨h2, h3, z0, hsz, hz0⟩ | ⟨hby, h2, h3, g1, g2, hk, z0, hsz, hz0⟩
  · exact exactRun_long2 k a0 A1 c1 l1 A2 c2 l2 A3 c3 l3 a4 w hr1 hc1 hr2 hc2 hr3 hc3 h
  · exact exactRun_long3 k a0 A1 c1 l1 A2 c2 l2 A3 c3 l3 a4 w hr1 hc1 hr2 hc2 hr3 hc3 h2 h
  · exact exactRun_long1 k a0 A1 c1 l1 A2 c2 l2 A3 c3 l3 a4 w hr1 hc1 hr2 hc2 hr3 hc3 h2 h3 z0 hsz hz0
  have hs := specRunAny k (by omega) a0 l1 l2 l3 a4 hby (by omega) (by omega) (by omega)
  have hi := implRun k a0 l1 l2 l3 a4 hby
  have hgot := runV_got a0 l1 l2 l3 a4
  generalize runV a0 l1 l2 l3 a4 = V at hs hi hgot
  obtain ⟨gt, rn, sn, dn, ok⟩ := V
  simp only at hgot
  have hgb : ∀ b ∈ gt, b.length ≤ 1048576 := fun b hb => g2 b (hgot.2 b hb)
  have ht1 := tot_le 1048576 l1 g2
  have htg := tot_le 1048576 gt hgb
  have ht1b : tot l1 ≤ 1048576 * 1048576 := Nat.le_trans ht1 (Nat.mul_le_mul_right _ g1)
  have htgb : tot gt ≤ 60 * 1048576 := Nat.le_trans htg (Nat.mul_le_mul_right _ hgot.1)
  have hm1 := markSS_ok k 1048576 (by omega) l1 1 g2 (by omega) (by omega)
  obtain ⟨y2, hm2⟩ := markI_ok l2 k (1 + tot l1) (by omega) (by omega) (by omega)
  obtain ⟨y3, hm3⟩ := markI_ok l3 k (1 + tot l1 + l2.length) (by omega) (by omega) (by omega)
  have hmg := markSS_ok k 1048576 (by omega) gt 1 hgb (by omega) (by omega)
  have hhd := heldRun_ok k 1048576 gt rn sn dn (by omega) hgb (by omega) (by omega)
  have he1 := eqByteSS_ok l1 (by omega) 1048576 (by omega) g2 k (by omega)
  have heg := eqByteSS_ok gt (by omega) 1048576 (by omega) hgb k (by omega)
  have heq : laws_eqLinkRun.f k gt rn sn dn gt rn sn dn = some true := by
    unfold laws_eqLinkRun.f
    rw [heg, Option.bind_some, if_pos rfl, if_pos rfl, if_pos rfl, if_neg (by simp)]
  exact exactRun_calls k a0 A1 c1 l1 A2 c2 l2 A3 c3 l3 a4 w hr1 hc1 hr2 hc2 hr3 hc3 h2 h3 z0 hsz hz0 (toByteSS_ok l1 (by omega) 1048576 (by omega) g2 k (by omega)) (toIntS_ok l2 (by omega) k (by omega)) (toIntS_ok l3 (by omega) k (by omega))
    gt (marks 1 gt) rn sn dn ok hs hi heq he1 (eqIntS_ok l2 (by omega) k (by omega)) (eqIntS_ok l3 (by omega) k (by omega)) _ _ _ _ _ _ hm1 hm2 hm3 (by omega) _ hmg (by omega) hhd (by omega) (by omega) (marks_length gt 1)
/-- The whole law. -/
theorem exactRunLink (a0 : Int) (l1 : List (List Int)) (l2 l3 : List Int) (a4 : Int) (m1 : l1.length ≤ maxLen) (hw : ∀ b ∈ l1, b.length ≤ maxLen ∧ ∀ x ∈ b, (Lit.int .u8 x).wf = true) (m2 : l2.length ≤ maxLen) (m3 : l3.length ≤ maxLen) : ∃ k, laws_FnExactRunLink.Fits k a0 l1 l2 l3 a4 := by
  unfold maxLen at m1 m2 m3
  have hw1 : ∀ b ∈ l1, b.length ≤ 9223372036854775807 := fun b hb => by have := (hw b hb).1; unfold maxLen at this; exact this
  have hby : bytesOk l1 = true := bytesOk_wf fun b hb => (hw b hb).2
  by_cases c2 : 1048576 < l2.length
  · exact ⟨0, .inl c2⟩
  by_cases c3 : 1048576 < l3.length
  · exact ⟨0, .inr (.inl ⟨by omega, c3⟩)⟩
  by_cases hbig : l1.length ≤ 2000000
  case neg =>
    refine ⟨0, .inr (.inr (.inl ⟨by omega, by omega, -1, ?_, by omega⟩))⟩
    unfold laws_szByteSS.f
    rw [w64 _ (by omega), if_pos (by omega)]
  obtain ⟨r, hr, hr2⟩ := szRows_ok l1 (by omega) hw1 6000000 (by omega)
  by_cases hneg : r < 0
  · exact ⟨6000000, .inr (.inr (.inl ⟨by omega, by omega, r, hr, hneg⟩))⟩
  obtain ⟨g1, g2⟩ := hr2 (by omega)
  exact ⟨6000000, .inr (.inr (.inr ⟨hby, by omega, by omega, g1, g2, Nat.le_refl _, r, hr, by omega⟩))⟩
end Go.Proofs.Ytookabfmbimnoaa.Lk
