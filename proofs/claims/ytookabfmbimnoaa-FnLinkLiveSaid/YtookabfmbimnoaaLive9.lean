/- What the walks of this claim need: printed by a program of this session (wip/pack.py) out of the session's texts and of the words that the kit's print.sh lays; under no condition beyond those in each theorem. Lean checks it. -/
import Derived.Test.YtookabfmbimnoaaLive8
namespace Go.Proofs.Ytookabfmbimnoaa.Lk
open Go.RowKit Go.Proofs.YtookabfmbimnoaaW.PrintWords Go.Proofs.YtookabfmbimnoaaW.PrintLast Go.Proofs.YtookabfmbimnoaaW.PrintMore
set_option linter.unusedVariables false
set_option linter.unusedSimpArgs false

set_option maxHeartbeats 8000000 in
set_option maxRecDepth 100000 in
theorem RunLink_no (a0 : Int) (A1 : Option Addr) (c1 : Nat) (l1 : List (List Int)) (A2 : Option Addr) (c2 : Nat) (l2 : List Int) (A3 : Option Addr) (c3 : Nat) (l3 : List Int) (a4 : Int) (w : World)
    (hr1 : Kd.C (Kd.slice 5 (Kd.int .u8)) w A1 l1.length l1) (hc1 : l1.length ≤ c1) (hr2 : Kd.C (Kd.int .i64) w A2 l2.length l2) (hc2 : l2.length ≤ c2) (hr3 : Kd.C (Kd.int .i64) w A3 l3.length l3) (hc3 : l3.length ≤ c3) (h : impl_linkOk.f a0 l1 l2 l3 a4 = some false) :
    Calls Try.prog 10 #[.int .i64 a0, .slice A1 l1.length c1, .slice A2 l2.length c2, .slice A3 l3.length c3, .int .i64 a4] w fun e w' => e = .returned (.tuple #[.agg #[.slice none 0 0, .int .i64 0, .int .i64 0, .bool false], .bool false]) ∧ Below w.heap.size w w' := by
  have HC := Aside0.mk (fun (W : World) (hb : Below w.heap.size w W) => impl_linkOk.calls a0 A1 c1 l1 A2 c2 l2 A3 c3 l3 a4 false W (Kd.C_below hr1 hb) hc1 (Kd.C_below hr2 hb) hc2 (Kd.C_below hr3 hb) hc3 h)
  clear hr1 hc1 hr2 hc2 hr3 hc3 h
  go_enter Try.func10, Try.ntmps10
  go_wp2_with fail
  have hb1 : Below w.heap.size w (w.alloc (.cells #[.slice none 0 0, .int .i64 0, .int .i64 0, .bool false] 28)) := below_alloc (Below.refl _ _) _
  have hx : (w.alloc (.cells #[.slice none 0 0, .int .i64 0, .int .i64 0, .bool false] 28)).heap[w.heap.size]? = some (.cells #[.slice none 0 0, .int .i64 0, .int .i64 0, .bool false] 28 (0, 0)) := blk_new _ _
  generalize w.alloc (.cells #[.slice none 0 0, .int .i64 0, .int .i64 0, .bool false] 28) = W at hb1 hx ⊢
  refine (HC.out W hb1).mono ?_
  rintro e w' ⟨rfl, hb⟩
  replace hx := blk_below hx hb
  replace hb := Aside0.mk (below_step hb1 hb)
  clear hb1 HC
  generalize hg : w.heap.size = g at hx hb ⊢
  have x0 : w'.cell? ⟨g, 0, none⟩ = some (.slice none 0 0) := by simp [World.cell?, hx]
  have x1 : w'.cell? ⟨g, 1, none⟩ = some (.int .i64 0) := by simp [World.cell?, hx]
  have x2 : w'.cell? ⟨g, 2, none⟩ = some (.int .i64 0) := by simp [World.cell?, hx]
  have x3 : w'.cell? ⟨g, 3, none⟩ = some (.bool false) := by simp [World.cell?, hx]
  have y0 : w'.frozen? ⟨g, 0, none⟩ = false := by simp [World.frozen?, hx]
  have y1 : w'.frozen? ⟨g, 1, none⟩ = false := by simp [World.frozen?, hx]
  have y2 : w'.frozen? ⟨g, 2, none⟩ = false := by simp [World.frozen?, hx]
  have y3 : w'.frozen? ⟨g, 3, none⟩ = false := by simp [World.frozen?, hx]
  go_wp2_with fail
  refine bodyPost_ret (results_ct (p := 10) (u := 11) (ty := 28) rfl _ _ g 28 #[.slice none 0 0, .int .i64 0, .int .i64 0, .bool false] (0, 0) _ rfl (heap_set (heap_set (heap_set (heap_set hx)))) Try.underlying28 rfl (by kernel_rfl)) rfl ?_
  refine ⟨rfl, ?_⟩
  subst hg
  exact below_set (below_set (below_set (below_set hb.out (Nat.le_refl _)) (Nat.le_refl _)) (Nat.le_refl _)) (Nat.le_refl _)
theorem loopL_stop {w : Nat} {list : List (List Int)} {there back : List Int} (k : Nat) {st : LSt} (h : ¬ st.kn < list.length) : loopL w list there back k st = st := by
  cases k with
  | zero => rfl
  | succ k => rw [loopL, if_neg h]
theorem loopL_go {w : Nat} {list : List (List Int)} {there back : List Int} (k : Nat) {st : LSt} (h : st.kn < list.length) : loopL w list there back (k + 1) st = loopL w list there back k (stepL w list there back st) := by rw [loopL, if_pos h]
/-- What stays true of the state. -/
structure StOk (st : LSt) : Prop where
  kn : st.kn ≤ 80
  s1 : st.s1 ≤ 8 * st.rounds
  s2 : st.s2 ≤ st.rounds
  got : st.got.length ≤ 16 * st.rounds
theorem stepL_ok {w : Nat} {list : List (List Int)} {there back : List Int} {st : LSt} (hw : w ≤ 8) (hl : list.length ≤ 60) (hk : st.kn < list.length) (h : StOk st) : StOk (stepL w list there back st) := by
  have h1 := acks_le w (((arrivals (there.drop st.s1) (sentN w list.length st.kn)).foldl (recv1 list st.kn (there.drop st.s1)) st.got).length % 16) (back.drop st.s2) (arrivals (back.drop st.s2) 1) st.kn
  have h2 := recvs_le list st.kn (there.drop st.s1) (arrivals (there.drop st.s1) (sentN w list.length st.kn)) st.got
  have h3 := arrivals_length (back.drop st.s2) 1
  have h4 := arrivals_length (there.drop st.s1) (sentN w list.length st.kn)
  have h5 : sentN w list.length st.kn ≤ w := by unfold sentN; omega
  have h6 : (arrivals (back.drop st.s2) 1).length * w ≤ 2 * 8 := Nat.mul_le_mul h3 hw
  have := h.kn; have := h.s1; have := h.s2; have := h.got
  constructor
  · show _ ≤ 80
    simp only [stepL]
    omega
  · simp only [stepL]; omega
  · simp only [stepL]; omega
  · simp only [stepL]; omega
set_option maxHeartbeats 8000000 in
set_option maxRecDepth 100000 in
theorem RunLink_yes (win : Nat) (A1 : Option Addr) (c1 : Nat) (l1 : List (List Int)) (A2 : Option Addr) (c2 : Nat) (l2 : List Int) (A3 : Option Addr) (c3 : Nat) (l3 : List Int) (m : Nat) (w : World)
    (hr1 : Kd.C (Kd.slice 5 (Kd.int .u8)) w A1 l1.length l1) (hc1 : l1.length ≤ c1) (hr2 : Kd.C (Kd.int .i64) w A2 l2.length l2) (hc2 : l2.length ≤ c2) (hr3 : Kd.C (Kd.int .i64) w A3 l3.length l3) (hc3 : l3.length ≤ c3) (h : impl_linkOk.f (win : Int) l1 l2 l3 (m : Int) = some true) (hbo : bytesOk l1 = true) :
    Calls Try.prog 10 #[.int .i64 (win : Int), .slice A1 l1.length c1, .slice A2 l2.length c2, .slice A3 l3.length c3, .int .i64 (m : Int)] w fun e w' => ∃ v0_ : Value, e = .returned (.tuple #[.agg #[v0_, .int .i64 ((runL win l1 l2 l3 m).rounds : Int), .int .i64 (((runL win l1 l2 l3 m).s1 + (runL win l1 l2 l3 m).s2 : Nat) : Int), .bool (decide (l1.length ≤ (runL win l1 l2 l3 m).kn))], .bool true]) ∧ Kd.S (Kd.slice 5 (Kd.int .u8)) 22 w' w.heap.size (fun _ => True) v0_ (runL win l1 l2 l3 m).got ∧ Below w.heap.size w w' := by
  have HC := Aside0.mk (fun (W : World) (hb : Below w.heap.size w W) => impl_linkOk.calls (win : Int) A1 c1 l1 A2 c2 l2 A3 c3 l3 (m : Int) true W (Kd.C_below hr1 hb) hc1 (Kd.C_below hr2 hb) hc2 (Kd.C_below hr3 hb) hc3 h)
  have h0 := Option.some.inj h
  simp only [Bool.and_eq_true, winOk, rndOk, decide_eq_true_eq] at h0
  obtain ⟨⟨hw1, hw2⟩, hl1, hsh, hf2, hf3, hm1, hm2⟩ := h0
  have HW1 := Aside0.mk (show 1 ≤ win by omega)
  have HW2 := Aside0.mk (show win ≤ 8 by omega)
  have HL := Aside0.mk hl1
  have HSH := Aside0.mk hsh
  have HF2 := Aside0.mk hf2
  have HF3 := Aside0.mk hf3
  have HM := Aside0.mk (show m ≤ 400 by omega)
  have HBO := Aside0.mk hbo
  have HR1 := Aside0.mk hr1
  have HR2 := Aside0.mk hr2
  have HR3 := Aside0.mk hr3
  have HC1 := Aside0.mk hc1
  have HC2 := Aside0.mk hc2
  have HC3 := Aside0.mk hc3
  clear hr1 hc1 hr2 hc2 hr3 hc3 h hw1 hw2 hl1 hsh hf2 hf3 hm1 hm2 hbo
  have HRUN := Aside0.mk (show runL win l1 l2 l3 m = loopL win l1 l2 l3 m ⟨[], 0, 0, 0, 0⟩ from rfl)
  generalize runL win l1 l2 l3 m = res at HRUN ⊢
  go_enter Try.func10, Try.ntmps10
  go_wp2_with fail
  have hb1 : Below w.heap.size w (w.alloc (.cells #[.slice none 0 0, .int .i64 0, .int .i64 0, .bool false] 28)) := below_alloc (Below.refl _ _) _
  have hx : (w.alloc (.cells #[.slice none 0 0, .int .i64 0, .int .i64 0, .bool false] 28)).heap[w.heap.size]? = some (.cells #[.slice none 0 0, .int .i64 0, .int .i64 0, .bool false] 28 (0, 0)) := blk_new _ _
  generalize w.alloc (.cells #[.slice none 0 0, .int .i64 0, .int .i64 0, .bool false] 28) = W at hb1 hx ⊢
  refine (HC.out W hb1).mono ?_
  rintro e w' ⟨rfl, hb⟩
  replace hx := blk_below hx hb
  replace hb := Aside0.mk (below_step hb1 hb)
  clear hb1 HC
  go_wp2_with fail
  generalize hg : w.heap.size = g at hx
  have hg1 := heap_lt hx
  have HX0 : ∃ (W2 : World) (G : Nat), G = w'.heap.size ∧ W2 = (((w'.alloc (Obj.cells #[Value.slice none 0 0, Value.int IntKind.i64 0, Value.int IntKind.i64 0, Value.bool false] 28)).alloc (Obj.cells #[Value.slice A2 l2.length c2, Value.int IntKind.i64 0] 52)).alloc (Obj.cells #[Value.slice A3 l3.length c3, Value.int IntKind.i64 0] 52)) ∧ Below w.heap.size w W2 ∧ g < G ∧ w.heap.size ≤ G ∧ BoxL W2 g G (.slice none 0 0) 0 0 0 (.slice A2 l2.length c2) (.slice A3 l3.length c3) := by
    refine ⟨_, _, rfl, rfl, below_alloc (below_alloc (below_alloc hb.out _) _) _, hg1, hb.out.size, blk_alloc (blk_alloc (blk_alloc hx _) _) _, blk_alloc (blk_alloc (blk_new _ _) _) _, ?_, ?_⟩
    · refine blk_alloc ?_ _
      have := blk_new (w'.alloc (Obj.cells #[Value.slice none 0 0, Value.int IntKind.i64 0, Value.int IntKind.i64 0, Value.bool false] 28)) (Obj.cells #[Value.slice A2 l2.length c2, Value.int IntKind.i64 0] 52)
      simpa using this
    · have := blk_new ((w'.alloc (Obj.cells #[Value.slice none 0 0, Value.int IntKind.i64 0, Value.int IntKind.i64 0, Value.bool false] 28)).alloc (Obj.cells #[Value.slice A2 l2.length c2, Value.int IntKind.i64 0] 52)) (Obj.cells #[Value.slice A3 l3.length c3, Value.int IntKind.i64 0] 52)
      simpa using this
  obtain ⟨W2, G, hG, hW2, hB2, hgG, hwG, hbox⟩ := HX0
  rw [← hG]
  rw [← hW2]
  clear hW2 hb hx hg1
  have HGG := Aside0.mk hgG
  have HWG := Aside0.mk hwG
  have HG0 := Aside0.mk hg
  have HB := Aside0.mk hB2
  have HBOX := Aside0.mk hbox
  clear hgG hwG hB2 hbox hG hg w' W
  go_loopg [15] m (fun kq v15 w' => ∃ (st : LSt) (vg : Value), v15 = .int .i64 (st.kn : Int) ∧ Aside0 (st.rounds + kq = m) ∧ Aside0 (loopL win l1 l2 l3 kq st = res) ∧ Aside0 (StOk st) ∧ Aside0 (BoxL w' g G vg st.rounds st.s1 st.s2 (.slice A2 l2.length c2) (.slice A3 l3.length c3)) ∧ Aside0 (Kd.S (Kd.slice 5 (Kd.int .u8)) 22 w' w.heap.size (fun _ => True) vg st.got) ∧ Aside0 (Below w.heap.size w w'))
  case atStart => exact ⟨⟨[], 0, 0, 0, 0⟩, .slice none 0 0, rfl, ⟨by simp⟩, ⟨HRUN.out.symm⟩, ⟨⟨by simp, by simp, by simp, by simp⟩⟩, HBOX, ⟨Kd.S_nil _ _ _ _ _⟩, HB⟩
  case round =>
    clear HB HBOX HRUN
    obtain ⟨st, vg, rfl, HK, HR, HOK, HBOX, HS, HB⟩ := hrel
    by_cases hlt : st.kn < l1.length
    · have e1 : decide ((st.kn : Int) < l1.length) = true := decide_eq_true (by omega)
      have e1n : decide (st.kn < l1.length) = true := decide_eq_true (by omega)
      cases gk with
      | zero =>
        have hr : loopL win l1 l2 l3 0 st = st := rfl
        have e2 : decide ((st.rounds : Int) < m) = false := decide_eq_false (by have := HK.out; omega)
        have e2n : decide (st.rounds < m) = false := decide_eq_false (by have := HK.out; omega)
        have e3 : decide ((st.kn : Int) ≥ l1.length) = false := decide_eq_false (by omega)
        have e4 : decide ((l1.length : Int) ≤ st.kn) = false := decide_eq_false (by omega)
        have e5 := Aside0.mk (show decide (l1.length ≤ st.kn) = false from decide_eq_false (by omega))
        obtain rfl : st = res := hr.symm.trans HR.out
        obtain ⟨Ag, cg, rfl⟩ := Kd.S_slice HS.out
        obtain ⟨⟨x0, x1, x2, x3⟩, y0, y1, y2, y3⟩ := HBOX.out.cellsG
        obtain ⟨⟨z0, z1, z2, z3⟩, q0, q1, q2, q3⟩ := HBOX.out.cells0
        obtain ⟨u1, u2⟩ := HBOX.out.cellsS
        have hw1 : wrap64 ((st.s1 : Int) + st.s2) = ((st.s1 + st.s2 : Nat) : Int) := by rw [w64 _ (by have := HOK.out.s1; have := HOK.out.s2; have := HK.out; have := HM.out; omega)]; simp
        have hne : g ≠ G := by have := HGG.out; omega
        have hne2 : G ≠ g := by have := HGG.out; omega
        go_wp2_with fail
        refine bodyPost_ret (v := .tuple #[.agg #[.slice Ag st.got.length cg, .int .i64 st.rounds, .int .i64 ((st.s1 : Int) + st.s2), .bool (decide (l1.length ≤ st.kn))], .bool true]) ?hres rfl ?_
        case hres => exact (results_ct (p := 10) (u := 11) (ty := 28) rfl _ _ g 28 #[.slice Ag st.got.length cg, .int .i64 st.rounds, .int .i64 ((st.s1 : Int) + st.s2), .bool (decide (l1.length ≤ st.kn))] (0, 0) _ rfl (heap_set (heap_set (heap_set (heap_set (BoxL.other (BoxL.other HBOX.out.b0 G hne2 _ _) G hne2 _ _))))) Try.underlying28 rfl (by kernel_rfl))
        refine ⟨.slice Ag st.got.length cg, by rw [show ((st.s1 + st.s2 : Nat) : Int) = (st.s1 : Int) + st.s2 by simp], ?_, ?_⟩
        · have hS1 := Kd.S_set HS.out HBOX.out.b1 (by decide) 2 (.int .i64 ((st.s1 : Int) + st.s2))
          have hS2 := Kd.S_set hS1 (heap_set HBOX.out.b1) (by decide) 3 (.bool (decide (l1.length ≤ st.kn)))
          have h0 := BoxL.other (BoxL.other HBOX.out.b0 G hne2 2 (.int .i64 ((st.s1 : Int) + st.s2))) G hne2 3 (.bool (decide (l1.length ≤ st.kn)))
          exact Kd.S_set (Kd.S_set (Kd.S_set (Kd.S_set hS2 h0 (by decide) _ _) (heap_set h0) (by decide) _ _) (heap_set (heap_set h0)) (by decide) _ _) (heap_set (heap_set (heap_set h0))) (by decide) _ _
        · have hg0 := HG0.out
          exact below_set (below_set (below_set (below_set (below_set (below_set HB.out HWG.out) HWG.out) (by omega)) (by omega)) (by omega)) (by omega)
      | succ k1 =>
        have e2 : decide ((st.rounds : Int) < m) = true := decide_eq_true (by have := HK.out; omega)
        have e2n : decide (st.rounds < m) = true := decide_eq_true (by have := HK.out; omega)
        obtain ⟨x0, x1, y0, y1⟩ := HBOX.out.cells
        have hw1 : wrap64 ((st.rounds : Int) + 1) = ((st.rounds + 1 : Nat) : Int) := by rw [w64 _ (by have := HK.out; have := HM.out; omega)]; simp
        go_wp2_with fail
        obtain ⟨wA, hwA⟩ : ∃ W : World, W = wr.setCell ⟨G, 1, none⟩ (.int .i64 ((st.rounds : Int) + 1)) := ⟨_, rfl⟩
        rw [← hwA]
        have HBOXA := Aside0.mk (show BoxL wA g G vg (st.rounds + 1) st.s1 st.s2 (.slice A2 l2.length c2) (.slice A3 l3.length c3) by
          have := HBOX.out.setR HGG.out (st.rounds + 1)
          rw [hwA]
          simpa using this)
        have HSA := Aside0.mk (show Kd.S (Kd.slice 5 (Kd.int .u8)) 22 wA w.heap.size (fun _ => True) vg st.got by
          rw [hwA]
          exact Kd.S_set HS.out HBOX.out.b1 (by decide) _ _)
        have HBA := Aside0.mk (show Below w.heap.size w wA by
          rw [hwA]
          exact below_set HB.out HWG.out)
        clear hwA HBOX HS HB x0 x1 y0 y1 hw1
        have HLT := Aside0.mk hlt
        have HN := Aside0.mk (show sentN win l1.length st.kn = min l1.length (st.kn + win) - st.kn from rfl)
        have HNL := Aside0.mk (show sentN win l1.length st.kn ≤ 8 by unfold sentN; have := HW2.out; omega)
        generalize hn : sentN win l1.length st.kn = n at HN HNL
        have HNE := Aside0.mk hn
        clear hn hlt
        have HB := Aside0.mk (Below.refl wA.heap.size wA)
        go_loopg [16, 17] n (fun kq v16 v17 w' => ∃ i : Nat, v17 = .int .i64 ((st.kn + i : Nat) : Int) ∧ Aside0 (i + kq = n) ∧ Aside0 (Kd.R (Kd.slice 5 (Kd.int .u8)) 22 w' wA.heap.size (fun _ => True) v16 (impl_packs l1 st.kn i)) ∧ Aside0 (Below wA.heap.size wA w'))
        case atStart => exact ⟨0, rfl, ⟨by simp⟩, ⟨Kd.R_nil _ _ _ _ _⟩, HB⟩
        case round =>
          clear HB
          obtain ⟨i, rfl, HI, HO, HB⟩ := hrel
          cases gk with
          | zero =>
            have hi : i = n := by have := HI.out; omega
            subst hi
            have t0 : ¬ ((st.kn : Int) + i < min (l1.length : Int) (wrap64 ((st.kn : Int) + win))) := by rw [w64 _ (by have := HOK.out.kn; have := HW2.out; omega)]; have := HN.out; have := HLT.out; omega
            have t1 := eq_false t0
            have t2 : ((st.kn + i : Nat) : Int) < min (l1.length : Int) (wrap64 ((st.kn : Int) + win)) ↔ False := by rw [Int.natCast_add]; exact iff_false_intro t0
            have t3 : decide (((st.kn + i : Nat) : Int) < min (l1.length : Int) (wrap64 ((st.kn : Int) + win))) = false := decide_eq_false (fun h => t2.1 h)
            have t4 : decide ((st.kn : Int) + i < min (l1.length : Int) (wrap64 ((st.kn : Int) + win))) = false := decide_eq_false t0
            clear t2
            obtain ⟨A16, c16, e16⟩ := Kd.R_slice HO.out
            subst e16
            obtain ⟨hq1, hq2, hq3⟩ := Kd.R_reads' HO.out
            have HBW := Aside0.mk (below_step HBA.out HB.out)
            have HBOXW := Aside0.mk (HBOXA.out.below HB.out)
            have HSW := Aside0.mk (Kd.S_below HSA.out HB.out)
            have HSHORT := Aside0.mk (impl_packs_short HSH.out st.kn i)
            have HPL := Aside0.mk (impl_packs_length l1 st.kn i)
            have HUN := Aside0.mk (fun (x : Int) (h0 : 0 ≤ x) (h1 : x < i) => impl_unOf HSH.out HBO.out st.kn i (l2.drop st.s1) x h0 h1)
            generalize impl_packs l1 st.kn i = pks at hq1 hq2 hq3 HSHORT HPL HUN HO ⊢
            clear HSA HBOXA HBA HO HB
            go_wp2_with fail
            refine (pass_ok (G + 1) A2 c2 l2 st.s1 A16 c16 pks _ (Kd.C_below HR2.out HBW.out) HC2.out hq3 hq2 HBOXW.out.b2 HF2.out (by have := HPL.out; have := HNL.out; omega) (by have := HOK.out.s1; have := HK.out; have := HM.out; omega) HSHORT.out).mono ?_
            rintro e w' ⟨v3, w3, rfl, ho, hb, rfl⟩
            obtain ⟨wB, hwB⟩ : ∃ W : World, W = w3.setCell ⟨G + 1, 1, none⟩ (.int .i64 ((st.s1 + pks.length : Nat) : Int)) := ⟨_, rfl⟩
            rw [← hwB]
            have HBOX := Aside0.mk (show BoxL wB g G vg (st.rounds + 1) (st.s1 + i) st.s2 (.slice A2 l2.length c2) (.slice A3 l3.length c3) by
              rw [hwB, HPL.out]
              exact (HBOXW.out.below hb).setS1 HGG.out _)
            have HS := Aside0.mk (show Kd.S (Kd.slice 5 (Kd.int .u8)) 22 wB w.heap.size (fun _ => True) vg st.got by
              rw [hwB]
              exact Kd.S_set (Kd.S_below HSW.out hb) (HBOXW.out.below hb).b2 (by decide) _ _)
            have HB := Aside0.mk (show Below w.heap.size w wB by
              rw [hwB]
              exact below_set (below_step HBW.out hb) (by have := HWG.out; omega))
            have HV := Aside0.mk (show Kd.R (Kd.slice 5 (Kd.int .u8)) 22 wB w.heap.size (fun k => True ∧ some k ≠ vg.ownBlock) v3 (passWire (l2.drop st.s1) pks) by
              rw [hwB]
              exact Kd.R_set (Kd.R_lower (Kd.R_new' ho (Kd.S_lt HSW.out)) (below_size HBW.out)) (HBOXW.out.below hb).b2 (by decide) _ _)
            have HAR := Aside0.mk (show passWire (l2.drop st.s1) pks = (arrivals (l2.drop st.s1) i).map (passOf (l2.drop st.s1) pks) by unfold passWire; rw [HPL.out])
            have HAM := Aside0.mk (arrivals_mem (l2.drop st.s1) i)
            have HAL := Aside0.mk (arrivals_length (l2.drop st.s1) i)
            obtain ⟨got2, hgot2⟩ : ∃ x, x = (arrivals (l2.drop st.s1) i).foldl (recv1 l1 st.kn (l2.drop st.s1)) st.got := ⟨_, rfl⟩
            have HGOT2 := Aside0.mk hgot2
            have HGT := Aside0.mk hgot2
            have HLEN := Aside0.mk (show (passWire (l2.drop st.s1) pks).length = (arrivals (l2.drop st.s1) i).length by rw [HAR.out, List.length_map])
            generalize passWire (l2.drop st.s1) pks = arr at HV HAR HLEN
            generalize arrivals (l2.drop st.s1) i = ar at HAR HAM HAL HGOT2 HLEN hgot2
            generalize l2.drop st.s1 = fs at HUN HAR HGOT2 hgot2
            clear hwB HBOXW HSW HBW hb ho hgot2 hq1 hq2 hq3 t0 t1 t3 t4
            obtain ⟨A87, c87, e87⟩ := Kd.R_slice HV.out
            subst e87
            go_wp2_with fail
            go_loopg [89] ar.length (fun kq v89 w' => ∃ (j : Nat) (vg' : Value) (got' : List (List Int)), v89 = .int .i64 (j : Int) ∧ Aside0 (j + kq = ar.length) ∧ Aside0 ((ar.drop j).foldl (recv1 l1 st.kn fs) got' = got2) ∧ Aside0 (got'.length ≤ st.got.length + j) ∧ Aside0 (BoxL w' g G vg' (st.rounds + 1) (st.s1 + i) st.s2 (.slice A2 l2.length c2) (.slice A3 l3.length c3)) ∧ Aside0 (Kd.S (Kd.slice 5 (Kd.int .u8)) 22 w' w.heap.size (fun _ => True) vg' got') ∧ Aside0 (Kd.R (Kd.slice 5 (Kd.int .u8)) 22 w' w.heap.size (fun k => True ∧ some k ≠ vg'.ownBlock) (.slice A87 arr.length c87) arr) ∧ Aside0 (Below w.heap.size w w'))
            case atStart => exact ⟨0, vg, st.got, rfl, ⟨by simp⟩, ⟨HGOT2.out.symm⟩, ⟨Nat.le_refl _⟩, HBOX, HS, HV, HB⟩
            case round =>
              clear HBOX HS HV HB
              obtain ⟨j, vg', got', rfl, HJ, HG2, HGL, HBOX, HS, HV, HB⟩ := hrel
              cases gk with
              | zero =>
                obtain rfl : ar.length = j := by have := HJ.out; omega
                have c1 : decide ((ar.length : Int) < arr.length) = false := decide_eq_false (by have := HLEN.out; omega)
                have c1n : decide (ar.length < arr.length) = false := decide_eq_false (by have := HLEN.out; omega)
                obtain ⟨Ag, cg, eg⟩ := Kd.S_slice HS.out
                subst eg
                obtain ⟨x0, x1, y0, y1⟩ := HBOX.out.cells
                rw [List.drop_length] at HG2
                obtain rfl : got' = got2 := HG2.out
                have hrem : Int.tmod (got'.length : Int) 16 = ((got'.length % 16 : Nat) : Int) := by rw [Int.tmod_eq_emod_of_nonneg (by omega)]; simp
                clear HG2 HV HUN HAR HLEN
                go_wp2_with fail
                have HQ := Aside0.mk (show got'.length % 16 < 16 from Nat.mod_lt _ (by omega))
                have HPB := Aside0.mk (show impl_PackLink.f 700 2 ((got'.length : Int) % 16) [] = some (impl_packv 2 ((got'.length % 16 : Nat) : Int) [], true) by
                  have := impl_pack 2 ((got'.length % 16 : Nat) : Int) [] (.inr ⟨rfl, rfl⟩) (by omega) (by have := HQ.out; omega) (by simp) (fun x hx => by simp at hx)
                  simpa using this)
                have HUB := Aside0.mk (fun (x : Int) (h0 : 0 ≤ x) (h1 : x < 1) => impl_unBack (got'.length % 16) HQ.out (l3.drop st.s2) x h0 h1)
                have HPBL := Aside0.mk (show (impl_packv 2 ((got'.length % 16 : Nat) : Int) []).length = 3 by rw [impl_packv_length]; rfl)
                generalize impl_packv 2 ((got'.length % 16 : Nat) : Int) [] = pb at HPB HUB HPBL
                refine (impl_PackLink.calls 700 2 _ none 0 [] pb true _ ?s0 ?s1 HPB.out).mono ?_
                case s0 => exact (Kd.R_reads' (Kd.R_nil (Kd.int .u8) 5 _ 0 (fun _ => True))).2.2
                case s1 => exact Nat.le_refl _
                rintro e w' ⟨ve, rfl, he, hb⟩
                have n0_ := Aside0.mk (Kd.S_below HS.out hb)
                have n1_ := Aside0.mk (HBOX.out.below hb)
                have n2_ := Aside0.mk (below_step HB.out hb)
                clear HS HBOX HB hb x0 x1 y0 y1
                have HS := n0_
                have HBOX := n1_
                have HB := n2_
                clear n0_ n1_ n2_
                obtain ⟨Ab, cb, eb⟩ := Kd.R_slice he
                subst eb
                go_wp2_with fail
                have hcb : Kd.C (Kd.slice 5 (Kd.int .u8)) (w'.alloc (.cells #[.slice Ab pb.length cb] 22)) (some ⟨w'.heap.size, 0, none⟩) [pb].length [pb] := by
                  refine ⟨rfl, by simp, fun _ => ⟨_, rfl, fun j p hj => ?_⟩⟩
                  cases j with
                  | zero =>
                    simp only [List.getElem?_cons_zero, Option.some.injEq] at hj
                    subst hj
                    refine ⟨[.slice Ab pb.length cb], rfl, (Kd.slice 5 (Kd.int .u8)).K_below (below_alloc (Below.refl _ _) _) ((Kd.slice 5 (Kd.int .u8)).K_of_M (Kd.M_row he)), fun i u hu => ?_⟩
                    cases i with
                    | zero =>
                      simp only [List.getElem?_cons_zero, Option.some.injEq] at hu
                      subst hu
                      simp [Addr.add]
                    | succ i => simp at hu
                  | succ j => simp at hj
                have ha1 : Below w'.heap.size w' (w'.alloc (.cells #[.slice Ab pb.length cb] 22)) := below_alloc (Below.refl _ _) _
                refine (pass_ok (G + 1 + 1) A3 c3 l3 st.s2 (some ⟨w'.heap.size, 0, none⟩) 1 [pb] _ (Kd.C_below HR3.out (below_alloc HB.out _)) HC3.out hcb (Nat.le_refl _) (HBOX.out.below ha1).b3 HF3.out (by simp) (by have := HOK.out.s2; have := HK.out; have := HM.out; omega) (by intro b hb; rw [List.mem_singleton] at hb; subst hb; have := HPBL.out; omega)).mono ?_
                rintro e w2 ⟨v3, w3, rfl, ho, hb, rfl⟩
                replace hb := ha1.trans (hb.mono ha1.size)
                obtain ⟨wC, hwC⟩ : ∃ W : World, W = w3.setCell ⟨G + 1 + 1, 1, none⟩ (.int .i64 ((st.s2 + [pb].length : Nat) : Int)) := ⟨_, rfl⟩
                rw [← hwC]
                have n1_ := Aside0.mk (show BoxL wC g G (.slice Ag got'.length cg) (st.rounds + 1) (st.s1 + i) (st.s2 + 1) (.slice A2 l2.length c2) (.slice A3 l3.length c3) by
                  rw [hwC]
                  exact (HBOX.out.below hb).setS2 HGG.out _)
                have n2_ := Aside0.mk (show Kd.S (Kd.slice 5 (Kd.int .u8)) 22 wC w.heap.size (fun _ => True) (.slice Ag got'.length cg) got' by
                  rw [hwC]
                  exact Kd.S_set (Kd.S_below HS.out hb) (HBOX.out.below hb).b3 (by decide) _ _)
                have n3_ := Aside0.mk (show Below w.heap.size w wC by
                  rw [hwC]
                  exact below_set (below_step HB.out hb) (by have := HWG.out; omega))
                have n4_ := Aside0.mk (show Kd.R (Kd.slice 5 (Kd.int .u8)) 22 wC w.heap.size (fun _ => True) v3 (passWire (l3.drop st.s2) [pb]) by
                  rw [hwC]
                  exact Kd.R_set (Kd.R_lower ho (Nat.le_trans (below_size HB.out) ha1.size)) (HBOX.out.below hb).b3 (by decide) _ _)
                clear HBOX HS HB hwC hb ho hcb ha1 he
                have HBOX := n1_
                have HS := n2_
                have HBC := n3_
                have HV := n4_
                clear n1_ n2_ n3_ n4_
                have HAR := Aside0.mk (show passWire (l3.drop st.s2) [pb] = (arrivals (l3.drop st.s2) 1).map (passOf (l3.drop st.s2) [pb]) from rfl)
                have HBM := Aside0.mk (arrivals_mem (l3.drop st.s2) 1)
                have HBL := Aside0.mk (arrivals_length (l3.drop st.s2) 1)
                obtain ⟨kn2, hkn2⟩ : ∃ x, x = (arrivals (l3.drop st.s2) 1).foldl (ack1 win (got'.length % 16) (l3.drop st.s2)) st.kn := ⟨_, rfl⟩
                have HKN2 := Aside0.mk hkn2
                have HLEN := Aside0.mk (show (passWire (l3.drop st.s2) [pb]).length = (arrivals (l3.drop st.s2) 1).length by rw [HAR.out, List.length_map])
                have HSTEP := Aside0.mk (show stepL win l1 l2 l3 st = ⟨got', kn2, st.s1 + i, st.s2 + 1, st.rounds + 1⟩ by rw [show stepL win l1 l2 l3 st = (let got := (arrivals (l2.drop st.s1) (sentN win l1.length st.kn)).foldl (recv1 l1 st.kn (l2.drop st.s1)) st.got; (⟨got, (arrivals (l3.drop st.s2) 1).foldl (ack1 win (got.length % 16) (l3.drop st.s2)) st.kn, st.s1 + sentN win l1.length st.kn, st.s2 + 1, st.rounds + 1⟩ : LSt)) from rfl, HNE.out]; simp only; rw [← HGT.out, ← hkn2])
                generalize passWire (l3.drop st.s2) [pb] = arr2 at HV HAR HLEN
                generalize arrivals (l3.drop st.s2) 1 = ar2 at HAR HBM HBL HKN2 HLEN hkn2
                generalize l3.drop st.s2 = gs at HUB HAR HKN2 hkn2
                clear hkn2
                obtain ⟨A130, c130, e130⟩ := Kd.R_slice HV.out
                subst e130
                have HB := Aside0.mk (Below.refl wC.heap.size wC)
                go_wp2_with fail
                go_loopg [15, 132] ar2.length (fun kq v15 v132 w' => ∃ (j kn' : Nat), v15 = .int .i64 (kn' : Int) ∧ v132 = .int .i64 (j : Int) ∧ Aside0 (j + kq = ar2.length) ∧ Aside0 ((ar2.drop j).foldl (ack1 win (got'.length % 16) gs) kn' = kn2) ∧ Aside0 (kn' ≤ st.kn + 8 * j) ∧ Aside0 (Below wC.heap.size wC w'))
                case atStart => exact ⟨0, st.kn, rfl, rfl, ⟨by simp⟩, ⟨HKN2.out.symm⟩, ⟨by omega⟩, HB⟩
                case round =>
                  clear HB
                  obtain ⟨j, kn', rfl, rfl, HJ, HG2, HGL, HB⟩ := hrel
                  cases gk with
                  | zero =>
                    obtain rfl : ar2.length = j := by have := HJ.out; omega
                    have c1 : decide ((ar2.length : Int) < arr2.length) = false := decide_eq_false (by have := HLEN.out; omega)
                    have c1n : decide (ar2.length < arr2.length) = false := decide_eq_false (by have := HLEN.out; omega)
                    rw [List.drop_length] at HG2
                    obtain rfl : kn' = kn2 := HG2.out
                    clear HG2 HUB HAR HLEN HV
                    go_wp2_with fail
                    go_roundg k1
                    case measure => omega
                    case rel => exact ⟨⟨got', kn', st.s1 + i, st.s2 + 1, st.rounds + 1⟩, .slice Ag got'.length cg, rfl, ⟨by have := HK.out; show st.rounds + 1 + k1 = m; omega⟩, ⟨by rw [← HSTEP.out, ← loopL_go _ HLT.out]; exact HR.out⟩, ⟨by rw [← HSTEP.out]; exact stepL_ok HW2.out HL.out HLT.out HOK.out⟩, ⟨HBOX.out.below HB.out⟩, ⟨Kd.S_below HS.out HB.out⟩, ⟨below_step HBC.out HB.out⟩⟩
                  | succ k4 =>
                    have hj : j < ar2.length := by have := HJ.out; omega
                    have c1 : decide ((j : Int) < arr2.length) = true := decide_eq_true (by have := HLEN.out; omega)
                    have c1n : decide (j < arr2.length) = true := decide_eq_true (by have := HLEN.out; omega)
                    have c2 : (0 ≤ (j : Int)) = True := eq_true (by omega)
                    have c3 : ((j : Int) < arr2.length) = True := eq_true (by have := HLEN.out; omega)
                    have c3n : (j < arr2.length) = True := eq_true (by have := HLEN.out; omega)
                    have hja : j < arr2.length := by have := HLEN.out; omega
                    obtain ⟨ad, Ab2, cb2, hA, hx, hcap, hrr⟩ := at_L2 (Kd.C_below (Kd.R_reads' HV.out).2.2 HB.out) (j : Int) (by omega) (by omega)
                    subst hA
                    have HD := Aside0.mk (show ar2.drop j = ar2[j] :: ar2.drop (j + 1) from List.drop_eq_getElem_cons hj)
                    have ha := HBM.out ar2[j] (List.getElem_mem hj)
                    have hu := HUB.out ar2[j] ha.1 ha.2
                    have hpj : rd_L2 arr2 (j : Int) = passOf gs [pb] ar2[j] := by rw [rd_L2_get hja]; simp [HAR.out]
                    rw [hpj, Int.toNat_natCast] at hx
                    rw [hpj] at hcap hrr
                    generalize passOf gs [pb] ar2[j] = pj at hx hcap hrr hu
                    generalize ar2[j] = idx at HD ha hu
                    have HU := Aside0.mk hu
                    have HRB := Aside0.mk hrr
                    have HCB := Aside0.mk hcap
                    clear hu hrr hcap ha hpj hj hja
                    have hw1 : wrap64 ((j : Int) + 1) = ((j + 1 : Nat) : Int) := by rw [w64 _ (by have := HJ.out; have := HBL.out; omega)]; simp
                    by_cases hf : fateN gs idx.toNat = 4
                    · have HREC := Aside0.mk (show ack1 win (got'.length % 16) gs kn' idx = kn' by unfold ack1; rw [if_pos hf])
                      unfold unBack at HU
                      rw [if_pos hf] at HU
                      clear hf
                      go_wp2_with (go_at_call 34; (with_reducible refine (impl_UnpackLink.calls 700 _ _ pj _ _ _ _ _ ?s0 ?s1 HU.out).mono ?_); (case s0 => exact HRB.out); (case s1 => exact HCB.out); rintro e w' ⟨ve, rfl, he, hb⟩; have n2_ := Aside0.mk (below_step HB.out hb); clear HB; have HB := n2_; clear n2_ he hb)
                      go_roundg k4
                      case measure => omega
                      case rel => exact ⟨j + 1, kn', rfl, by rw [hw1], ⟨by have := HJ.out; omega⟩, ⟨by have := HG2.out; rw [HD.out, List.foldl_cons, HREC.out] at this; exact this⟩, ⟨by have := HGL.out; omega⟩, HB⟩
                    · have HREC := Aside0.mk (show ack1 win (got'.length % 16) gs kn' idx = ackFind kn' win (got'.length % 16) by unfold ack1; rw [if_neg hf])
                      unfold unBack at HU
                      rw [if_neg hf] at HU
                      clear hf
                      go_wp2_with (go_at_call 34; (with_reducible refine (impl_UnpackLink.calls 700 _ _ pj _ _ _ _ _ ?s0 ?s1 HU.out).mono ?_); (case s0 => exact HRB.out); (case s1 => exact HCB.out); rintro e w' ⟨ve, rfl, he, hb⟩; have n2_ := Aside0.mk (below_step HB.out hb); clear HB; have HB := n2_; clear n2_ he hb)
                      go_loopg [15, 34] (win + 1) (fun kq v15 v34 wx => ∃ d : Nat, v15 = .int .i64 (kn' : Int) ∧ v34 = .int .i64 ((kn' + d : Nat) : Int) ∧ wx = w' ∧ Aside0 (d + kq = win + 1) ∧ Aside0 (∀ e, e < d → (kn' + e) % 16 ≠ got'.length % 16))
                      case atStart => exact ⟨0, rfl, rfl, rfl, ⟨by simp⟩, ⟨fun e he => absurd he (by omega)⟩⟩
                      case round =>
                        obtain ⟨d, rfl, rfl, rfl, HDK, HMISS⟩ := hrel
                        have hwk : wrap64 ((kn' : Int) + win) = (kn' : Int) + win := w64 _ (by have := HGL.out; have := HOK.out.kn; have := HBL.out; have := HJ.out; have := HW2.out; omega)
                        have hwd : wrap64 ((kn' : Int) + d + 1) = ((kn' + (d + 1) : Nat) : Int) := by rw [w64 _ (by have := HGL.out; have := HOK.out.kn; have := HBL.out; have := HJ.out; have := HW2.out; have := HDK.out; omega)]; simp; omega
                        cases gk with
                        | zero =>
                          have hdw : ¬ d ≤ win := by have := HDK.out; omega
                          have g1 : decide (d ≤ win) = false := decide_eq_false hdw
                          have g2 : decide ((d : Int) ≤ win) = false := decide_eq_false (by omega)
                          have g3 : decide ((kn' : Int) + d ≤ (kn' : Int) + win) = false := decide_eq_false (by omega)
                          have g4 : decide (((kn' + d : Nat) : Int) ≤ (kn' : Int) + win) = false := decide_eq_false (by omega)
                          have HACK := Aside0.mk (show ackFind kn' win (got'.length % 16) = kn' from ackFind_miss (fun e he => HMISS.out e (by omega)))
                          clear hdw
                          go_wp2_with fail
                          go_roundg k4
                          case measure => omega
                          case rel => exact ⟨j + 1, kn', rfl, by rw [hw1], ⟨by have := HJ.out; omega⟩, ⟨by have := HG2.out; rw [HD.out, List.foldl_cons, HREC.out, HACK.out] at this; exact this⟩, ⟨by have := HGL.out; omega⟩, HB⟩
                        | succ k5 =>
                          have hdw : d ≤ win := by have := HDK.out; omega
                          have g1 : decide (d ≤ win) = true := decide_eq_true hdw
                          have g2 : decide ((d : Int) ≤ win) = true := decide_eq_true (by omega)
                          have g3 : decide ((kn' : Int) + d ≤ (kn' : Int) + win) = true := decide_eq_true (by omega)
                          have g4 : decide (((kn' + d : Nat) : Int) ≤ (kn' : Int) + win) = true := decide_eq_true (by omega)
                          have g5 : Int.tmod ((kn' : Int) + d) 16 = ((kn' : Int) + d) % 16 := Int.tmod_eq_emod_of_nonneg (by omega)
                          have HDW := Aside0.mk hdw
                          clear hdw
                          by_cases hq : (kn' + d) % 16 = got'.length % 16
                          · have HACK := Aside0.mk (show ackFind kn' win (got'.length % 16) = kn' + d from ackFind_hit HDW.out hq HMISS.out)
                            have q1 : ((((kn' + d) % 16 : Nat) : Int) == (got'.length : Int) % 16) = true := beq_iff_eq.mpr (by omega)
                            have q2 : ((((kn' : Int) + d) % 16) == (got'.length : Int) % 16) = true := beq_iff_eq.mpr (by omega)
                            clear hq
                            go_wp2_with fail
                            go_roundg k4
                            case measure => omega
                            case rel => exact ⟨j + 1, kn' + d, by first | rfl | simp, by rw [hw1], ⟨by have := HJ.out; omega⟩, ⟨by have := HG2.out; rw [HD.out, List.foldl_cons, HREC.out, HACK.out] at this; exact this⟩, ⟨by have := HGL.out; have := HDW.out; have := HW2.out; omega⟩, HB⟩
                          · have HQN := Aside0.mk hq
                            have q1 : ((((kn' + d) % 16 : Nat) : Int) == (got'.length : Int) % 16) = false := beq_eq_false_iff_ne.mpr (by omega)
                            have q2 : ((((kn' : Int) + d) % 16) == (got'.length : Int) % 16) = false := beq_eq_false_iff_ne.mpr (by omega)
                            clear hq
                            go_wp2_with fail
                            go_roundg k5
                            case measure => omega
                            case rel => exact ⟨d + 1, rfl, by first | rfl | (rw [hwd]) | (rw [← hwd]; simp), rfl, ⟨by have := HDK.out; omega⟩, ⟨fun e he => by rcases Nat.lt_or_ge e d with h | h; exact HMISS.out e h; have h2 : e = d := (by omega); rw [h2]; exact HQN.out⟩⟩
              | succ k3 =>
                have hj : j < ar.length := by have := HJ.out; omega
                have c1 : decide ((j : Int) < arr.length) = true := decide_eq_true (by have := HLEN.out; omega)
                have c1n : decide (j < arr.length) = true := decide_eq_true (by have := HLEN.out; omega)
                have c2 : (0 ≤ (j : Int)) = True := eq_true (by omega)
                have c3 : ((j : Int) < arr.length) = True := eq_true (by have := HLEN.out; omega)
                have c3n : (j < arr.length) = True := eq_true (by have := HLEN.out; omega)
                have hja : j < arr.length := by have := HLEN.out; omega
                obtain ⟨ad, Ab, cb, hA, hx, hcap, hrr⟩ := at_L2 (Kd.R_reads' HV.out).2.2 (j : Int) (by omega) (by omega)
                subst hA
                have hd : ar.drop j = ar[j] :: ar.drop (j + 1) := List.drop_eq_getElem_cons hj
                have HD := Aside0.mk hd
                have ha := HAM.out ar[j] (List.getElem_mem hj)
                have hu := HUN.out ar[j] ha.1 ha.2
                have hpj : rd_L2 arr (j : Int) = passOf fs pks ar[j] := by rw [rd_L2_get hja]; simp [HAR.out]
                rw [hpj, Int.toNat_natCast] at hx
                rw [hpj] at hcap hrr
                generalize passOf fs pks ar[j] = pj at hx hcap hrr hu
                generalize ar[j] = idx at HD ha hu
                have HU := Aside0.mk hu
                have HRB := Aside0.mk hrr
                have HCB := Aside0.mk hcap
                have HID := Aside0.mk ha
                clear hd hu hrr hcap ha hpj hj hja
                have hw1 : wrap64 ((j : Int) + 1) = ((j + 1 : Nat) : Int) := by rw [w64 _ (by have := HJ.out; have := HAL.out; have := HNL.out; omega)]; simp
                by_cases hf : fateN fs idx.toNat = 4
                · have HREC := Aside0.mk (show recv1 l1 st.kn fs got' idx = got' by unfold recv1; rw [if_pos hf])
                  unfold unOf at HU
                  rw [if_pos hf] at HU
                  clear hf
                  go_wp2_with (go_at_call 34; (with_reducible refine (impl_UnpackLink.calls 700 _ _ pj _ _ _ _ _ ?s0 ?s1 HU.out).mono ?_); (case s0 => exact HRB.out); (case s1 => exact HCB.out); rintro e w' ⟨ve, rfl, he, hb⟩; have n0_ := Aside0.mk (Kd.S_below HS.out hb); have n1_ := Aside0.mk (Kd.R_below HV.out hb); have n2_ := Aside0.mk (below_step HB.out hb); have n3_ := Aside0.mk (HBOX.out.below hb); clear HS HV HB HBOX; have HS := n0_; have HV := n1_; have HB := n2_; have HBOX := n3_; clear n0_ n1_ n2_ n3_ he hb)
                  go_roundg k3
                  case measure => omega
                  case rel => exact ⟨j + 1, vg', got', by rw [hw1], ⟨by have := HJ.out; omega⟩, ⟨by have := HG2.out; rw [HD.out, List.foldl_cons, HREC.out] at this; exact this⟩, ⟨by have := HGL.out; omega⟩, HBOX, HS, HV, HB⟩
                · unfold unOf at HU
                  rw [if_neg hf] at HU
                  obtain ⟨Ag, cg, eg⟩ := Kd.S_slice HS.out
                  subst eg
                  have hrem : Int.tmod (got'.length : Int) 16 = ((got'.length % 16 : Nat) : Int) := by rw [Int.tmod_eq_emod_of_nonneg (by omega)]; simp
                  have hrem2 : Int.tmod (got'.length : Int) 16 = (got'.length : Int) % 16 := by rw [Int.tmod_eq_emod_of_nonneg (by omega)]
                  by_cases hq : (st.kn + idx.toNat) % 16 = got'.length % 16
                  · have HREC := Aside0.mk (show recv1 l1 st.kn fs got' idx = got' ++ [l1.getD (st.kn + idx.toNat) []] by unfold recv1; rw [if_neg hf, if_pos hq])
                    rw [hq] at HU
                    generalize l1.getD (st.kn + idx.toNat) [] = d at HREC HU
                    clear hq hf
                    have e6 : (((got'.length % 16 : Nat) : Int) == (got'.length : Int) % 16) = true := by simp
                    go_wp2_with (first
              | (go_at_call 34; (with_reducible refine (impl_UnpackLink.calls 700 _ _ pj _ _ _ _ _ ?s0 ?s1 HU.out).mono ?_); (case s0 => exact HRB.out); (case s1 => exact HCB.out); rintro e w' ⟨ve, rfl, he, hb⟩; have n4_ := Aside0.mk (fun (k : Nat) (hk : some k = ve.ownBlock) (e : some k = (Value.slice Ag got'.length cg).ownBlock) => (by have h1 := Kd.R_base he k hk.symm; have h2 := Kd.S_lt HS.out k e.symm; omega : False)); have n5_ := Aside0.mk (Kd.R_tight rfl (Kd.R_lower he (below_size HB.out))); have n0_ := Aside0.mk (Kd.S_elder' HS.out (Kd.R_base he) hb); have n1_ := Aside0.mk (Kd.R_below HV.out hb); have n2_ := Aside0.mk (below_step HB.out hb); have n3_ := Aside0.mk (HBOX.out.below hb); clear HS HV HB HBOX; have HS := n0_; have HV := n1_; have HB := n2_; have HBOX := n3_; obtain ⟨x0, x1, y0, y1⟩ := HBOX.out.cells; have HAP := n4_; have HE := n5_; clear n0_ n1_ n2_ n3_ n4_ n5_ he hb; obtain ⟨Ae, ce, ee⟩ := Kd.R_slice HE.out; subst ee)
              | ((with_reducible refine gate_builtin (b := .append) (xs := #[.tmp 114, .tmp 116]) rfl ?_); at_builtin; refine Kd.S_append (Kd.slice 5 (Kd.int .u8)) (w0 := w) w.heap.size rfl (.tmp 114) (.tmp 116) 23 22 (.slice none 0 0) 24 rfl Try.underlying23 info22 rfl (by decide) (by omega) (.slice Ag got'.length cg) got' d [.slice Ae d.length ce] (fun _ => True) (fun k_ => some k_ = (.slice Ae d.length ce : Value).ownBlock) rfl (by first | rfl | (show Value.slice _ 1 1 = _; simp)) ?aP (fun k_ hk_ => ⟨trivial, fun e_ => HAP.out k_ hk_ e_⟩) ?aF ?aO ?aB ?aS ?aL ?_; (case aP => exact Kd.M_row HE.out); (case aB => exact HB.out); (case aF => exact (fun _ _ => trivial)); (case aO => exact HS.out); (case aS => exact below_size HB.out); (case aL => have := HGL.out; have := HOK.out.got; have := HK.out; have := HM.out; have := HAL.out; have := HNL.out; have := HJ.out; omega); intro v1 w1 ho hb hg hat; have n0_ := Aside0.mk (Kd.R_after HV.out hg hat); have n1_ := Aside0.mk (HBOX.out.grown hg (Kd.S_typed HS.out)); have n2_ := Aside0.mk ho; have n3_ := Aside0.mk hb; clear x0 x1 y0 y1 HV HBOX HS HB HAP HE; have HV := n0_; have HBOX := n1_; have HSN := n2_; have HB := n3_; clear n0_ n1_ n2_ n3_ ho hb hg hat; obtain ⟨A1_, c1_, e1_⟩ := Kd.S_slice HSN.out; subst e1_; obtain ⟨x0, x1, y0, y1⟩ := HBOX.out.cells))
                    go_roundg k3
                    case measure => omega
                    case rel =>
                      have hl2 : got'.length + 1 = (got' ++ [d]).length := by simp
                      exact ⟨j + 1, .slice A1_ (got' ++ [d]).length c1_, got' ++ [d], by rw [hw1], ⟨by have := HJ.out; omega⟩, ⟨by have := HG2.out; rw [HD.out, List.foldl_cons, HREC.out] at this; exact this⟩, ⟨by have := HGL.out; simp; omega⟩, ⟨by rw [hl2]; exact HBOX.out.setG HGG.out _⟩, ⟨by rw [hl2]; exact Kd.S_set HSN.out HBOX.out.b1 (by decide) _ _⟩, ⟨by rw [hl2]; exact Kd.R_set HV.out HBOX.out.b1 (by decide) _ _⟩, ⟨below_set HB.out HWG.out⟩⟩
                  · have HREC := Aside0.mk (show recv1 l1 st.kn fs got' idx = got' by unfold recv1; rw [if_neg hf, if_neg hq])
                    have e6 : ((((st.kn + idx.toNat) % 16 : Nat) : Int) == (got'.length : Int) % 16) = false := beq_eq_false_iff_ne.mpr (by omega)
                    have e7 : (((st.kn : Int) + (idx.toNat : Int)) % 16 == (got'.length : Int) % 16) = false := beq_eq_false_iff_ne.mpr (by omega)
                    generalize idx.toNat = ix at *
                    clear hq hf
                    go_wp2_with (go_at_call 34; (with_reducible refine (impl_UnpackLink.calls 700 _ _ pj _ _ _ _ _ ?s0 ?s1 HU.out).mono ?_); (case s0 => exact HRB.out); (case s1 => exact HCB.out); rintro e w' ⟨ve, rfl, he, hb⟩; have n0_ := Aside0.mk (Kd.S_below HS.out hb); have n1_ := Aside0.mk (Kd.R_below HV.out hb); have n2_ := Aside0.mk (below_step HB.out hb); have n3_ := Aside0.mk (HBOX.out.below hb); clear HS HV HB HBOX; have HS := n0_; have HV := n1_; have HB := n2_; have HBOX := n3_; obtain ⟨x0, x1, y0, y1⟩ := HBOX.out.cells; clear n0_ n1_ n2_ n3_ he hb)
                    go_roundg k3
                    case measure => omega
                    case rel => exact ⟨j + 1, _, got', by rw [hw1], ⟨by have := HJ.out; omega⟩, ⟨by have := HG2.out; rw [HD.out, List.foldl_cons, HREC.out] at this; exact this⟩, ⟨by have := HGL.out; omega⟩, HBOX, HS, HV, HB⟩
          | succ k2 =>
            have hi : i < n := by have := HI.out; omega
            have t0 : ((st.kn : Int) + i < min (l1.length : Int) (wrap64 ((st.kn : Int) + win))) := by rw [w64 _ (by have := HOK.out.kn; have := HW2.out; omega)]; have := HN.out; have := HLT.out; omega
            have t1 := eq_true t0
            have t3 : decide (((st.kn + i : Nat) : Int) < min (l1.length : Int) (wrap64 ((st.kn : Int) + win))) = true := decide_eq_true (by rw [Int.natCast_add]; exact t0)
            have t4 : decide ((st.kn : Int) + i < min (l1.length : Int) (wrap64 ((st.kn : Int) + win))) = true := decide_eq_true t0
            have hki : st.kn + i < l1.length := by have := HN.out; omega
            have t5 : (0 ≤ ((st.kn + i : Nat) : Int)) = True := eq_true (by omega)
            have t6 : (((st.kn + i : Nat) : Int) < l1.length) = True := eq_true (by omega)
            have t7 : (0 ≤ (st.kn : Int) + i) = True := eq_true (by omega)
            have t8 : ((st.kn : Int) + i < l1.length) = True := eq_true (by omega)
            have t9 : Int.tmod ((st.kn + i : Nat) : Int) 16 = (((st.kn + i) % 16 : Nat) : Int) := by rw [Int.tmod_eq_emod_of_nonneg (by omega)]; simp
            have t10 : Int.tmod ((st.kn : Int) + i) 16 = (((st.kn + i) % 16 : Nat) : Int) := by rw [← Int.natCast_add]; exact t9
            obtain ⟨ad, Ab, cb, hA, hx, hcap, hrr⟩ := at_L2 HR1.out ((st.kn + i : Nat) : Int) (by omega) (by omega)
            subst hA
            replace hx := ((HBA.out.trans (HB.out.mono HBA.out.size)).cell (World.block_lt_of_cell? _ _ hx)).trans hx
            rw [rd_L2_get hki] at hx hcap hrr
            have HSUCC := Aside0.mk (impl_packs_succ l1 st.kn i)
            have hgd : l1.getD (st.kn + i) [] = l1[st.kn + i] := by rw [List.getD_eq_getElem?_getD, List.getElem?_eq_getElem hki]; rfl
            rw [hgd] at HSUCC
            have HPK := Aside0.mk (impl_pack 1 (((st.kn + i) % 16 : Nat) : Int) l1[st.kn + i] (.inl rfl) (by omega) (by omega) (by rw [← hgd]; exact short_getD HSH.out _) (by rw [← hgd]; exact bytesOk_getD HBO.out _))
            clear hgd
            generalize l1[st.kn + i] = b at hx hcap hrr HSUCC HPK
            have HRB := Aside0.mk hrr
            have HCB := Aside0.mk hcap
            clear hrr hcap
            rw [Int.toNat_natCast] at hx
            generalize impl_packv 1 (((st.kn + i) % 16 : Nat) : Int) b = pk at HSUCC HPK
            have HPK2 := Aside0.mk (show impl_PackLink.f 700 1 (((st.kn : Int) + i) % 16) b = some (pk, true) by have := HPK.out; simpa using this)
            have HX := Aside0.mk (impl_packs_length l1 st.kn i)
            have hw1 : wrap64 ((st.kn : Int) + i + 1) = ((st.kn + (i + 1) : Nat) : Int) := by rw [w64 _ (by have := HL.out; omega)]; simp; omega
            go_wp2_with (first
              | (go_at_call 32; (with_reducible refine (impl_PackLink.calls 700 1 _ Ab cb b pk true _ (Kd.C_below HRB.out (HBA.out.trans (HB.out.mono HBA.out.size))) HCB.out HPK2.out).mono ?_); rintro e w' ⟨ve, rfl, he, hb⟩; obtain ⟨_, hown⟩ := Kd.R_own HO.out; have n2_ := Aside0.mk (Kd.R_lower (Kd.R_mono (ok' := fun k_ => some k_ ≠ (u16 : Value).ownBlock) (Kd.R_new he hown) (fun _ hk => hk.2)) (below_size HB.out)); clear hown; have n0_ := Aside0.mk (Kd.R_below HO.out hb); have n1_ := Aside0.mk (below_step HB.out hb); clear HO HB; have HO := n0_; have HB := n1_; have HE := n2_; clear n0_ n1_ n2_ hb he; obtain ⟨Ae, ce, ee⟩ := Kd.R_slice HE.out; subst ee)
              | ((with_reducible refine gate_builtin (b := .append) (xs := #[.tmp 82, .tmp 84]) rfl ?_); at_builtin; refine Kd.R_append (Kd.slice 5 (Kd.int .u8)) (w0 := wA) wA.heap.size rfl (.tmp 82) (.tmp 84) 23 22 (.slice none 0 0) 24 rfl Try.underlying23 info22 rfl (by decide) (by omega) u16 (impl_packs l1 st.kn i) pk [(.slice Ae pk.length ce)] (fun _ => True) (fun k_ => some k_ ≠ (u16 : Value).ownBlock) rfl (by first | rfl | (show Value.slice _ 1 1 = _; simp)) ?aP (fun _ hk => ⟨trivial, hk⟩) ?aF ?aO ?aB ?aS ?aL ?_; (case aP => exact Kd.M_row HE.out); (case aB => exact (by repeat (first | (with_reducible first | exact HB.out | apply below_alloc | apply pw_below_drewN | apply below_drew1) | exact HB.out))); (case aF => exact (fun _ _ => trivial)); (case aO => exact (by (with_reducible repeat (first | apply Kd.R_alloc | apply Kd.R_drewN | apply Kd.R_drew)); exact HO.out)); (case aS => exact (below_size (by repeat (first | (with_reducible first | exact HB.out | apply below_alloc | apply pw_below_drewN | apply below_drew1) | exact HB.out)))); (case aL => have := HX.out; have := HN.out; have := HL.out; first | omega | (simp; omega) | (simp at *; omega)); intro v2 w8 ho hb hg hat; have n0_ := Aside0.mk (hb); have n1_ := Aside0.mk (ho); clear HB; clear HO; have HB := n0_; have HO2 := n1_; clear n0_ n1_; clear ho hb hg hat))
            go_roundg k2
            case measure => omega
            case rel => exact ⟨i + 1, by first | rfl | (rw [← hw1]; simp) | (rw [hw1]) | (simp; omega), ⟨by have := HI.out; omega⟩, ⟨by rw [HSUCC.out]; exact HO2.out⟩, ⟨(by repeat (first | (with_reducible first | exact HB.out | apply below_alloc | apply pw_below_drewN | apply below_drew1) | exact HB.out))⟩⟩
    · have e1 : decide ((st.kn : Int) < l1.length) = false := decide_eq_false (by omega)
      have e1n : decide (st.kn < l1.length) = false := decide_eq_false (by omega)
      have e3 : decide ((st.kn : Int) ≥ l1.length) = true := decide_eq_true (by omega)
      have e4 : decide ((l1.length : Int) ≤ st.kn) = true := decide_eq_true (by omega)
      have e5 := Aside0.mk (show decide (l1.length ≤ st.kn) = true from decide_eq_true (by omega))
      have hr : loopL win l1 l2 l3 gk st = st := loopL_stop gk hlt
      obtain rfl : st = res := hr.symm.trans HR.out
      obtain ⟨Ag, cg, rfl⟩ := Kd.S_slice HS.out
      obtain ⟨⟨x0, x1, x2, x3⟩, y0, y1, y2, y3⟩ := HBOX.out.cellsG
      obtain ⟨⟨z0, z1, z2, z3⟩, q0, q1, q2, q3⟩ := HBOX.out.cells0
      obtain ⟨u1, u2⟩ := HBOX.out.cellsS
      have hw1 : wrap64 ((st.s1 : Int) + st.s2) = ((st.s1 + st.s2 : Nat) : Int) := by rw [w64 _ (by have := HOK.out.s1; have := HOK.out.s2; have := HK.out; have := HM.out; omega)]; simp
      have hne : g ≠ G := by have := HGG.out; omega
      have hne2 : G ≠ g := by have := HGG.out; omega
      go_wp2_with fail
      refine bodyPost_ret (v := .tuple #[.agg #[.slice Ag st.got.length cg, .int .i64 st.rounds, .int .i64 ((st.s1 : Int) + st.s2), .bool (decide (l1.length ≤ st.kn))], .bool true]) ?hres rfl ?_
      case hres => exact (results_ct (p := 10) (u := 11) (ty := 28) rfl _ _ g 28 #[.slice Ag st.got.length cg, .int .i64 st.rounds, .int .i64 ((st.s1 : Int) + st.s2), .bool (decide (l1.length ≤ st.kn))] (0, 0) _ rfl (heap_set (heap_set (heap_set (heap_set (BoxL.other (BoxL.other HBOX.out.b0 G hne2 _ _) G hne2 _ _))))) Try.underlying28 rfl (by kernel_rfl))
      refine ⟨.slice Ag st.got.length cg, by rw [show ((st.s1 + st.s2 : Nat) : Int) = (st.s1 : Int) + st.s2 by simp], ?_, ?_⟩
      · have hS1 := Kd.S_set HS.out HBOX.out.b1 (by decide) 2 (.int .i64 ((st.s1 : Int) + st.s2))
        have hS2 := Kd.S_set hS1 (heap_set HBOX.out.b1) (by decide) 3 (.bool (decide (l1.length ≤ st.kn)))
        have h0 := BoxL.other (BoxL.other HBOX.out.b0 G hne2 2 (.int .i64 ((st.s1 : Int) + st.s2))) G hne2 3 (.bool (decide (l1.length ≤ st.kn)))
        exact Kd.S_set (Kd.S_set (Kd.S_set (Kd.S_set hS2 h0 (by decide) _ _) (heap_set h0) (by decide) _ _) (heap_set (heap_set h0)) (by decide) _ _) (heap_set (heap_set (heap_set h0))) (by decide) _ _
      · have hg0 := HG0.out
        exact below_set (below_set (below_set (below_set (below_set (below_set HB.out HWG.out) HWG.out) (by omega)) (by omega)) (by omega)) (by omega)
end Go.Proofs.Ytookabfmbimnoaa.Lk

namespace Go.Proofs.Ytookabfmbimnoaa.Lk
open Go.RowKit Go.Proofs.YtookabfmbimnoaaW.PrintWords Go.Proofs.YtookabfmbimnoaaW.PrintLast Go.Proofs.YtookabfmbimnoaaW.PrintMore
set_option linter.unusedVariables false
set_option linter.unusedSimpArgs false

theorem S_of_nil {α : Type} {d : Kd α} {e : Nat} {w : World} {base : Nat} {ok : Nat → Prop} {v : Value} (h : d.R e w base ok v []) : Kd.S d e w base ok v [] := by
  obtain ⟨h0, inner, ho, hr⟩ := h
  exact ⟨fun _ => 0, h0, inner, ho, hr.1, fun j p hj => by simp at hj⟩
set_option maxHeartbeats 8000000 in
set_option maxRecDepth 100000 in
theorem l5Run_ok (win : Nat) (A1 : Option Addr) (c1 : Nat) (l1 : List (List Int)) (A2 : Option Addr) (c2 : Nat) (l2 : List Int) (A3 : Option Addr) (c3 : Nat) (l3 : List Int) (m : Nat) (w : World)
    (hr1 : Kd.C (Kd.slice 5 (Kd.int .u8)) w A1 l1.length l1) (hc1 : l1.length ≤ c1) (hr2 : Kd.C (Kd.int .i64) w A2 l2.length l2) (hc2 : l2.length ≤ c2) (hr3 : Kd.C (Kd.int .i64) w A3 l3.length l3) (hc3 : l3.length ≤ c3) (h : impl_linkOk.f (win : Int) l1 l2 l3 (m : Int) = some true) (hbo : bytesOk l1 = true) :
    Calls Try.prog 37 #[.int .i64 (win : Int), .slice A1 l1.length c1, .slice A2 l2.length c2, .slice A3 l3.length c3, .int .i64 (m : Int)] w fun e w' => ∃ v0_ : Value, e = .returned (.agg #[v0_, .int .i64 ((runL win l1 l2 l3 m).rounds : Int), .int .i64 (((runL win l1 l2 l3 m).s1 + (runL win l1 l2 l3 m).s2 : Nat) : Int), .bool (decide (l1.length ≤ (runL win l1 l2 l3 m).kn))]) ∧ Kd.S (Kd.slice 5 (Kd.int .u8)) 22 w' w.heap.size (fun _ => True) v0_ (runL win l1 l2 l3 m).got ∧ Below w.heap.size w w' := by
  have h0 := Option.some.inj h
  simp only [Bool.and_eq_true, winOk, rndOk, decide_eq_true_eq] at h0
  obtain ⟨⟨hw1, hw2⟩, hl1, hsh, hf2, hf3, hm1, hm2⟩ := h0
  have HW1 := Aside0.mk (show 1 ≤ win by omega)
  have HW2 := Aside0.mk (show win ≤ 8 by omega)
  have HL := Aside0.mk hl1
  have HSH := Aside0.mk hsh
  have HF2 := Aside0.mk hf2
  have HF3 := Aside0.mk hf3
  have HM := Aside0.mk (show m ≤ 400 by omega)
  have HBO := Aside0.mk hbo
  have HR1 := Aside0.mk hr1
  have HR2 := Aside0.mk hr2
  have HR3 := Aside0.mk hr3
  have HC1 := Aside0.mk hc1
  have HC2 := Aside0.mk hc2
  have HC3 := Aside0.mk hc3
  clear hr1 hc1 hr2 hc2 hr3 hc3 h hw1 hw2 hl1 hsh hf2 hf3 hm1 hm2 hbo
  have HRUN := Aside0.mk (show runL win l1 l2 l3 m = loopL win l1 l2 l3 m ⟨[], 0, 0, 0, 0⟩ from rfl)
  generalize runL win l1 l2 l3 m = res at HRUN ⊢
  have HB := Aside0.mk (Below.refl w.heap.size w)
  go_enter Try.func37, Try.ntmps37
  go_wp2_with (first
      | ((with_reducible refine gate_dst (N := 14) rfl ?_); refine Kd.R_lit (Kd.slice 5 (Kd.int .u8)) _ 22 ?hg (N := 14) ?hd (xs := ([] : List _)) (inner := []) (ok := fun _ => True) (okp := fun _ => True) ?hr ?hp (fun _ hk => hk) trivial (Below.refl _ _) (Nat.le_refl _) (by simp) ?_; (case hd => rfl); (case hg => rfl); (case hr => first | (go_simp; done) | (go_simp; rfl)); (case hp => exact (Reps.none _ _)); intro v0 w6 ho7 hb hg_ hnew_; clear hg_ hnew_; have NB := Aside0.mk hb; have NO := Aside0.mk ho7; have n0_ := Aside0.mk (Kd.R_lower ho7 (below_size (by repeat (first | (with_reducible first | exact HB.out | apply below_alloc | apply pw_below_drewN | apply below_drew1) | exact HB.out)))); have n1_ := Aside0.mk (below_step (by repeat (first | (with_reducible first | exact HB.out | apply below_alloc | apply pw_below_drewN | apply below_drew1) | exact HB.out)) hb); clear HB; have HO0 := n0_; have HB := n1_; clear n0_ n1_; clear hb ho7; obtain ⟨Al, cl, el⟩ := Kd.R_slice HO0.out; subst el))
  clear HO0 HB
  obtain ⟨W1, hW1⟩ : ∃ W : World, W = w.alloc (.cells #[.slice none 0 0, .int .i64 0, .int .i64 0, .bool false] 28) := ⟨_, rfl⟩
  rw [← hW1] at NB NO
  have HBW := Aside0.mk (show Below w.heap.size w W1 by rw [hW1]; exact below_alloc (Below.refl _ _) _)
  have hx1 : W1.heap[w.heap.size]? = some (.cells #[.slice none 0 0, .int .i64 0, .int .i64 0, .bool false] 28 (0, 0)) := by rw [hW1]; exact blk_new _ _
  clear hW1
  generalize hg : w.heap.size = g at hx1
  have HGE := Aside0.mk (Nat.le_of_eq hg)
  have HX1 := Aside0.mk hx1
  clear hx1 hg
  have hS0 := S_of_nil NO.out
  have HXX : ∃ (W2 : World) (G : Nat), G = w6.heap.size ∧ W2 = w6.alloc (Obj.cells #[Value.slice Al 0 cl, Value.int IntKind.i64 0, Value.int IntKind.i64 0, Value.bool false, Value.int IntKind.i64 0, Value.slice A2 l2.length c2, Value.slice A3 l3.length c3] 76) ∧ g < G ∧ SBox W1 W2 G l2 l3 ⟨[], 0, 0, 0, 0⟩ := by
    refine ⟨_, _, rfl, rfl, heap_lt (blk_below HX1.out NB.out), ⟨⟨.slice Al 0 cl, .slice A2 l2.length c2, .slice A3 l3.length c3, blk_new _ _, Kd.S_alloc hS0 _, .inl ⟨A2, c2, rfl, HC2.out, Kd.C_below HR2.out HBW.out⟩, .inl ⟨A3, c3, rfl, HC3.out, Kd.C_below HR3.out HBW.out⟩⟩, NB.out.size, below_alloc NB.out _⟩⟩
  obtain ⟨W2, G, hG, hW2, hgG, hbox⟩ := HXX
  rw [← hG, ← hW2]
  have HR1W := Aside0.mk (Kd.C_below HR1.out HBW.out)
  clear hW2 hS0 NO NB HR1 HR2 HR3
  have HGG := Aside0.mk hgG
  have HBOX := Aside0.mk hbox
  clear hgG hbox hG w6
  go_loopg [33] m (fun kq v33 w' => ∃ (st : LSt), Aside0 (st.rounds + kq = m) ∧ Aside0 (loopL win l1 l2 l3 kq st = res) ∧ Aside0 (StOk st) ∧ Aside0 (SBox W1 w' G l2 l3 st))
  case atStart => exact ⟨⟨[], 0, 0, 0, 0⟩, ⟨by simp⟩, ⟨HRUN.out.symm⟩, ⟨⟨by simp, by simp, by simp, by simp⟩⟩, HBOX⟩
  case round =>
    clear HBOX HRUN
    obtain ⟨st, HK, HR, HOK, HBOX⟩ := hrel
    obtain ⟨⟨vg, vt, vb, hx, hS, hT, hV⟩, hge2, hbel⟩ := HBOX.out
    obtain ⟨⟨x0, x1, x2, x3, x4, x5, x6⟩, y0, y1, y2, y3, y4, y5, y6⟩ := cells76 hx
    have HX := Aside0.mk hx
    have HS := Aside0.mk hS
    have HT := Aside0.mk hT
    have HV := Aside0.mk hV
    have HGE2 := Aside0.mk hge2
    have HB := Aside0.mk hbel
    clear hx hS hT hV hge2 hbel HBOX
    cases gk with
    | zero =>
      have hr : loopL win l1 l2 l3 0 st = st := rfl
      have e2 : decide ((st.rounds : Int) < m) = false := decide_eq_false (by have := HK.out; omega)
      have e2n : decide (st.rounds < m) = false := decide_eq_false (by have := HK.out; omega)
      by_cases hlt : st.kn < l1.length
      · have e3 : decide ((st.kn : Int) ≥ l1.length) = false := decide_eq_false (by omega)
        have e4 : decide ((l1.length : Int) ≤ st.kn) = false := decide_eq_false (by omega)
        clear hlt
        obtain rfl : st = res := hr.symm.trans HR.out
        obtain ⟨Ag, cg, eg⟩ := Kd.S_slice HS.out
        subst eg
        have hne : g ≠ G := by have := HGG.out; omega
        have hne2 : G ≠ g := by have := HGG.out; omega
        have HXG := Aside0.mk (blk_below HX1.out HB.out)
        have z0 : wr.cell? ⟨g, 0, none⟩ = some (.slice none 0 0) := by simp [World.cell?, HXG.out]
        have z1 : wr.cell? ⟨g, 1, none⟩ = some (.int .i64 0) := by simp [World.cell?, HXG.out]
        have z2 : wr.cell? ⟨g, 2, none⟩ = some (.int .i64 0) := by simp [World.cell?, HXG.out]
        have z3 : wr.cell? ⟨g, 3, none⟩ = some (.bool false) := by simp [World.cell?, HXG.out]
        have q0 : wr.frozen? ⟨g, 0, none⟩ = false := by simp [World.frozen?, HXG.out]
        have q1 : wr.frozen? ⟨g, 1, none⟩ = false := by simp [World.frozen?, HXG.out]
        have q2 : wr.frozen? ⟨g, 2, none⟩ = false := by simp [World.frozen?, HXG.out]
        have q3 : wr.frozen? ⟨g, 3, none⟩ = false := by simp [World.frozen?, HXG.out]
        go_wp2_with fail
        refine bodyPost_ret (v := .agg #[.slice Ag st.got.length cg, .int .i64 st.rounds, .int .i64 ((st.s1 : Int) + st.s2), .bool (decide (l1.length ≤ st.kn))]) ?hres rfl ?_
        case hres => exact results_single (r := .cell 10 28) rfl (.cell g 28 #[.slice Ag st.got.length cg, .int .i64 st.rounds, .int .i64 ((st.s1 : Int) + st.s2), .bool (decide (l1.length ≤ st.kn))] (0, 0) _ rfl (heap_set (heap_set (heap_set (heap_set (BoxL.other HXG.out G hne2 _ _))))) Try.underlying28 rfl (by kernel_rfl) .nil)
        refine ⟨.slice Ag st.got.length cg, by rw [show ((st.s1 + st.s2 : Nat) : Int) = (st.s1 : Int) + st.s2 by simp], ?_, ?_⟩
        · have hS1 := Kd.S_set HS.out HX.out (by decide) 3 (.bool (decide (l1.length ≤ st.kn)))
          have h0 := BoxL.other HXG.out G hne2 3 (.bool (decide (l1.length ≤ st.kn)))
          exact Kd.S_lower (Kd.S_set (Kd.S_set (Kd.S_set (Kd.S_set hS1 h0 (by decide) _ _) (heap_set h0) (by decide) _ _) (heap_set (heap_set h0)) (by decide) _ _) (heap_set (heap_set (heap_set h0))) (by decide) _ _) HBW.out.size
        · have hB2 : Below w.heap.size w wr := below_step HBW.out HB.out
          have hgG2 := Nat.le_trans HBW.out.size HGE2.out
          exact below_set (below_set (below_set (below_set (below_set hB2 hgG2) HGE.out) HGE.out) HGE.out) HGE.out
      · have e3 : decide ((st.kn : Int) ≥ l1.length) = true := decide_eq_true (by omega)
        have e4 : decide ((l1.length : Int) ≤ st.kn) = true := decide_eq_true (by omega)
        clear hlt
        obtain rfl : st = res := hr.symm.trans HR.out
        obtain ⟨Ag, cg, eg⟩ := Kd.S_slice HS.out
        subst eg
        have hne : g ≠ G := by have := HGG.out; omega
        have hne2 : G ≠ g := by have := HGG.out; omega
        have HXG := Aside0.mk (blk_below HX1.out HB.out)
        have z0 : wr.cell? ⟨g, 0, none⟩ = some (.slice none 0 0) := by simp [World.cell?, HXG.out]
        have z1 : wr.cell? ⟨g, 1, none⟩ = some (.int .i64 0) := by simp [World.cell?, HXG.out]
        have z2 : wr.cell? ⟨g, 2, none⟩ = some (.int .i64 0) := by simp [World.cell?, HXG.out]
        have z3 : wr.cell? ⟨g, 3, none⟩ = some (.bool false) := by simp [World.cell?, HXG.out]
        have q0 : wr.frozen? ⟨g, 0, none⟩ = false := by simp [World.frozen?, HXG.out]
        have q1 : wr.frozen? ⟨g, 1, none⟩ = false := by simp [World.frozen?, HXG.out]
        have q2 : wr.frozen? ⟨g, 2, none⟩ = false := by simp [World.frozen?, HXG.out]
        have q3 : wr.frozen? ⟨g, 3, none⟩ = false := by simp [World.frozen?, HXG.out]
        go_wp2_with fail
        refine bodyPost_ret (v := .agg #[.slice Ag st.got.length cg, .int .i64 st.rounds, .int .i64 ((st.s1 : Int) + st.s2), .bool (decide (l1.length ≤ st.kn))]) ?hres rfl ?_
        case hres => exact results_single (r := .cell 10 28) rfl (.cell g 28 #[.slice Ag st.got.length cg, .int .i64 st.rounds, .int .i64 ((st.s1 : Int) + st.s2), .bool (decide (l1.length ≤ st.kn))] (0, 0) _ rfl (heap_set (heap_set (heap_set (heap_set (BoxL.other HXG.out G hne2 _ _))))) Try.underlying28 rfl (by kernel_rfl) .nil)
        refine ⟨.slice Ag st.got.length cg, by rw [show ((st.s1 + st.s2 : Nat) : Int) = (st.s1 : Int) + st.s2 by simp], ?_, ?_⟩
        · have hS1 := Kd.S_set HS.out HX.out (by decide) 3 (.bool (decide (l1.length ≤ st.kn)))
          have h0 := BoxL.other HXG.out G hne2 3 (.bool (decide (l1.length ≤ st.kn)))
          exact Kd.S_lower (Kd.S_set (Kd.S_set (Kd.S_set (Kd.S_set hS1 h0 (by decide) _ _) (heap_set h0) (by decide) _ _) (heap_set (heap_set h0)) (by decide) _ _) (heap_set (heap_set (heap_set h0))) (by decide) _ _) HBW.out.size
        · have hB2 : Below w.heap.size w wr := below_step HBW.out HB.out
          have hgG2 := Nat.le_trans HBW.out.size HGE2.out
          exact below_set (below_set (below_set (below_set (below_set hB2 hgG2) HGE.out) HGE.out) HGE.out) HGE.out
    | succ k1 =>
      have e2 : decide ((st.rounds : Int) < m) = true := decide_eq_true (by have := HK.out; omega)
      have e2n : decide (st.rounds < m) = true := decide_eq_true (by have := HK.out; omega)
      by_cases hlt : st.kn < l1.length
      · have e1 : decide ((st.kn : Int) < l1.length) = true := decide_eq_true (by omega)
        have e1n : decide (st.kn < l1.length) = true := decide_eq_true (by omega)
        have HLT := Aside0.mk hlt
        clear hlt
        have hw1 : wrap64 ((st.rounds : Int) + 1) = ((st.rounds + 1 : Nat) : Int) := by rw [w64 _ (by have := HK.out; have := HM.out; omega)]; simp
        go_wp2_with fail
        have hsb : SBox W1 (wr.setCell ⟨G, 1, none⟩ (.int .i64 ((st.rounds : Int) + 1))) G l2 l3 { st with rounds := st.rounds + 1 } := by
          refine ⟨⟨vg, vt, vb, ?_, Kd.S_set HS.out HX.out (by decide) _ _, HT.out.set HX.out (by decide) _ _, HV.out.set HX.out (by decide) _ _⟩, HGE2.out, below_set HB.out HGE2.out⟩
          rw [heap_set HX.out]
          show some (Obj.cells _ 76 (0, 0)) = _
          simp
        refine (send_ok G win A1 c1 l1 l2 l3 { st with rounds := st.rounds + 1 } W1 _ HR1W.out HC1.out hsb ⟨HLT.out, HL.out, HW1.out, HW2.out, by show st.rounds + 1 ≤ 400; have := HK.out; have := HM.out; omega, by show st.s1 ≤ _; have := HOK.out.s1; have := HK.out; have := HM.out; omega, by show st.s2 ≤ _; have := HOK.out.s2; have := HK.out; have := HM.out; omega, by show st.got.length ≤ _; have := HOK.out.got; have := HK.out; have := HM.out; omega⟩ HF2.out HSH.out HBO.out).mono ?_
        rintro e w' ⟨rfl, hsb2⟩
        clear hsb
        have HSB2 := Aside0.mk hsb2
        clear hsb2
        go_wp2_with fail
        refine (answer_ok G win l2 l3 _ W1 _ HSB2.out (by show st.kn ≤ 60; have := HLT.out; have := HL.out; omega) HW2.out (by show st.s1 + sentN win l1.length st.kn ≤ _; have : sentN win l1.length st.kn ≤ win := by { unfold sentN; omega }; have := HW2.out; have := HOK.out.s1; have := HK.out; have := HM.out; omega) (by show st.s2 ≤ _; have := HOK.out.s2; have := HK.out; have := HM.out; omega) HF3.out).mono ?_
        rintro e w2 ⟨rfl, hsb3⟩
        clear HSB2
        have HSB3 := Aside0.mk (show SBox W1 w2 G l2 l3 (stepL win l1 l2 l3 st) from hsb3)
        clear hsb3
        go_wp2_with fail
        go_roundg k1
        case measure => omega
        case rel => exact ⟨stepL win l1 l2 l3 st, ⟨by have := HK.out; show st.rounds + 1 + k1 = m; omega⟩, ⟨by rw [← loopL_go _ HLT.out]; exact HR.out⟩, ⟨stepL_ok HW2.out HL.out HLT.out HOK.out⟩, HSB3⟩
      · have e1 : decide ((st.kn : Int) < l1.length) = false := decide_eq_false (by omega)
        have e1n : decide (st.kn < l1.length) = false := decide_eq_false (by omega)
        have e3 : decide ((st.kn : Int) ≥ l1.length) = true := decide_eq_true (by omega)
        have e4 : decide ((l1.length : Int) ≤ st.kn) = true := decide_eq_true (by omega)
        have hr : loopL win l1 l2 l3 (k1 + 1) st = st := loopL_stop (k1 + 1) hlt
        clear hlt
        obtain rfl : st = res := hr.symm.trans HR.out
        obtain ⟨Ag, cg, eg⟩ := Kd.S_slice HS.out
        subst eg
        have hne : g ≠ G := by have := HGG.out; omega
        have hne2 : G ≠ g := by have := HGG.out; omega
        have HXG := Aside0.mk (blk_below HX1.out HB.out)
        have z0 : wr.cell? ⟨g, 0, none⟩ = some (.slice none 0 0) := by simp [World.cell?, HXG.out]
        have z1 : wr.cell? ⟨g, 1, none⟩ = some (.int .i64 0) := by simp [World.cell?, HXG.out]
        have z2 : wr.cell? ⟨g, 2, none⟩ = some (.int .i64 0) := by simp [World.cell?, HXG.out]
        have z3 : wr.cell? ⟨g, 3, none⟩ = some (.bool false) := by simp [World.cell?, HXG.out]
        have q0 : wr.frozen? ⟨g, 0, none⟩ = false := by simp [World.frozen?, HXG.out]
        have q1 : wr.frozen? ⟨g, 1, none⟩ = false := by simp [World.frozen?, HXG.out]
        have q2 : wr.frozen? ⟨g, 2, none⟩ = false := by simp [World.frozen?, HXG.out]
        have q3 : wr.frozen? ⟨g, 3, none⟩ = false := by simp [World.frozen?, HXG.out]
        go_wp2_with fail
        refine bodyPost_ret (v := .agg #[.slice Ag st.got.length cg, .int .i64 st.rounds, .int .i64 ((st.s1 : Int) + st.s2), .bool (decide (l1.length ≤ st.kn))]) ?hres rfl ?_
        case hres => exact results_single (r := .cell 10 28) rfl (.cell g 28 #[.slice Ag st.got.length cg, .int .i64 st.rounds, .int .i64 ((st.s1 : Int) + st.s2), .bool (decide (l1.length ≤ st.kn))] (0, 0) _ rfl (heap_set (heap_set (heap_set (heap_set (BoxL.other HXG.out G hne2 _ _))))) Try.underlying28 rfl (by kernel_rfl) .nil)
        refine ⟨.slice Ag st.got.length cg, by rw [show ((st.s1 + st.s2 : Nat) : Int) = (st.s1 : Int) + st.s2 by simp], ?_, ?_⟩
        · have hS1 := Kd.S_set HS.out HX.out (by decide) 3 (.bool (decide (l1.length ≤ st.kn)))
          have h0 := BoxL.other HXG.out G hne2 3 (.bool (decide (l1.length ≤ st.kn)))
          exact Kd.S_lower (Kd.S_set (Kd.S_set (Kd.S_set (Kd.S_set hS1 h0 (by decide) _ _) (heap_set h0) (by decide) _ _) (heap_set (heap_set h0)) (by decide) _ _) (heap_set (heap_set (heap_set h0))) (by decide) _ _) HBW.out.size
        · have hB2 : Below w.heap.size w wr := below_step HBW.out HB.out
          have hgG2 := Nat.le_trans HBW.out.size HGE2.out
          exact below_set (below_set (below_set (below_set (below_set hB2 hgG2) HGE.out) HGE.out) HGE.out) HGE.out
end Go.Proofs.Ytookabfmbimnoaa.Lk

namespace Go.Proofs.Ytookabfmbimnoaa.Lk
open Go.RowKit Go.Proofs.YtookabfmbimnoaaW.PrintWords Go.Proofs.YtookabfmbimnoaaW.PrintLast Go.Proofs.YtookabfmbimnoaaW.PrintMore
set_option linter.unusedVariables false
set_option linter.unusedSimpArgs false

def linkB (a0 : Int) (l1 : List (List Int)) (l2 l3 : List Int) (a4 : Int) : Bool := winOk a0 && (decide (l1.length ≤ 60) && (l1.all shortB && (fatesOk l2 && (fatesOk l3 && rndOk a4))))
def runR (a0 : Int) (l1 : List (List Int)) (l2 l3 : List Int) (a4 : Int) : LSt := runL a0.toNat l1 l2 l3 a4.toNat
def impl_RunLink.f (_k : Nat) (a0 : Int) (l1 : List (List Int)) (l2 l3 : List Int) (a4 : Int) : Option (List (List Int) × Int × Int × Bool × Bool) :=
  if bytesOk l1 = true then (if linkB a0 l1 l2 l3 a4 = true then some ((runR a0 l1 l2 l3 a4).got, ((runR a0 l1 l2 l3 a4).rounds : Int), (((runR a0 l1 l2 l3 a4).s1 + (runR a0 l1 l2 l3 a4).s2 : Nat) : Int), decide (l1.length ≤ (runR a0 l1 l2 l3 a4).kn), true) else some ([], 0, 0, false, false)) else none
theorem linkB_win {a0 : Int} {l1 : List (List Int)} {l2 l3 : List Int} {a4 : Int} (h : linkB a0 l1 l2 l3 a4 = true) : 0 ≤ a0 ∧ 0 ≤ a4 := by
  simp only [linkB, Bool.and_eq_true, winOk, rndOk, decide_eq_true_eq] at h
  omega
theorem impl_RunLink.calls (k : Nat) (a0 : Int) (A1 : Option Addr) (c1 : Nat) (l1 : List (List Int)) (A2 : Option Addr) (c2 : Nat) (l2 : List Int) (A3 : Option Addr) (c3 : Nat) (l3 : List Int) (a4 : Int) (r1 : List (List Int)) (r2 r3 : Int) (r4 r5 : Bool) (w : World)
    (hr1 : Kd.C (Kd.slice 5 (Kd.int .u8)) w A1 l1.length l1) (hc1 : l1.length ≤ c1) (hr2 : Kd.C (Kd.int .i64) w A2 l2.length l2) (hc2 : l2.length ≤ c2) (hr3 : Kd.C (Kd.int .i64) w A3 l3.length l3) (hc3 : l3.length ≤ c3) (h : impl_RunLink.f k a0 l1 l2 l3 a4 = some (r1, r2, r3, r4, r5)) :
    Calls Try.prog 10 #[.int .i64 a0, .slice A1 l1.length c1, .slice A2 l2.length c2, .slice A3 l3.length c3, .int .i64 a4] w fun e w' => ∃ v0_ : Value, e = .returned (.tuple #[.agg #[v0_, .int .i64 r2, .int .i64 r3, .bool r4], .bool r5]) ∧ Kd.S (Kd.slice 5 (Kd.int .u8)) 22 w' w.heap.size (fun _ => True) v0_ r1 ∧ Below w.heap.size w w' := by
  unfold impl_RunLink.f at h
  by_cases hb : bytesOk l1 = true
  case neg => rw [if_neg hb] at h; cases h
  rw [if_pos hb] at h
  by_cases hl : linkB a0 l1 l2 l3 a4 = true
  · rw [if_pos hl] at h
    have h := Option.some.inj h
    simp only [Prod.mk.injEq] at h
    obtain ⟨rfl, rfl, rfl, rfl, rfl⟩ := h
    obtain ⟨h0, h4⟩ := linkB_win hl
    obtain ⟨win, rfl⟩ := Int.eq_ofNat_of_zero_le h0
    obtain ⟨m, rfl⟩ := Int.eq_ofNat_of_zero_le h4
    exact RunLink_yes win A1 c1 l1 A2 c2 l2 A3 c3 l3 m w hr1 hc1 hr2 hc2 hr3 hc3 (congrArg some hl) hb
  · rw [if_neg hl] at h
    have h := Option.some.inj h
    simp only [Prod.mk.injEq] at h
    obtain ⟨rfl, rfl, rfl, rfl, rfl⟩ := h
    refine (RunLink_no a0 A1 c1 l1 A2 c2 l2 A3 c3 l3 a4 w hr1 hc1 hr2 hc2 hr3 hc3 (congrArg some (Bool.eq_false_iff.mpr hl))).mono ?_
    rintro e w' ⟨rfl, hbw⟩
    exact ⟨_, rfl, Kd.S_nil _ _ _ _ _, hbw⟩
def spec_l5Run.f (_k : Nat) (a0 : Int) (l1 : List (List Int)) (l2 l3 : List Int) (a4 : Int) : Option (List (List Int) × Int × Int × Bool) :=
  if bytesOk l1 = true ∧ linkB a0 l1 l2 l3 a4 = true then some ((runR a0 l1 l2 l3 a4).got, ((runR a0 l1 l2 l3 a4).rounds : Int), (((runR a0 l1 l2 l3 a4).s1 + (runR a0 l1 l2 l3 a4).s2 : Nat) : Int), decide (l1.length ≤ (runR a0 l1 l2 l3 a4).kn)) else none
theorem spec_l5Run.calls (k : Nat) (a0 : Int) (A1 : Option Addr) (c1 : Nat) (l1 : List (List Int)) (A2 : Option Addr) (c2 : Nat) (l2 : List Int) (A3 : Option Addr) (c3 : Nat) (l3 : List Int) (a4 : Int) (r1 : List (List Int)) (r2 r3 : Int) (r4 : Bool) (w : World)
    (hr1 : Kd.C (Kd.slice 5 (Kd.int .u8)) w A1 l1.length l1) (hc1 : l1.length ≤ c1) (hr2 : Kd.C (Kd.int .i64) w A2 l2.length l2) (hc2 : l2.length ≤ c2) (hr3 : Kd.C (Kd.int .i64) w A3 l3.length l3) (hc3 : l3.length ≤ c3) (h : spec_l5Run.f k a0 l1 l2 l3 a4 = some (r1, r2, r3, r4)) :
    Calls Try.prog 37 #[.int .i64 a0, .slice A1 l1.length c1, .slice A2 l2.length c2, .slice A3 l3.length c3, .int .i64 a4] w fun e w' => ∃ v0_ : Value, e = .returned (.agg #[v0_, .int .i64 r2, .int .i64 r3, .bool r4]) ∧ Kd.S (Kd.slice 5 (Kd.int .u8)) 22 w' w.heap.size (fun _ => True) v0_ r1 ∧ Below w.heap.size w w' := by
  unfold spec_l5Run.f at h
  by_cases hc : bytesOk l1 = true ∧ linkB a0 l1 l2 l3 a4 = true
  case neg => rw [if_neg hc] at h; cases h
  rw [if_pos hc] at h
  have h := Option.some.inj h
  simp only [Prod.mk.injEq] at h
  obtain ⟨rfl, rfl, rfl, rfl⟩ := h
  obtain ⟨h0, h4⟩ := linkB_win hc.2
  obtain ⟨win, rfl⟩ := Int.eq_ofNat_of_zero_le h0
  obtain ⟨m, rfl⟩ := Int.eq_ofNat_of_zero_le h4
  exact l5Run_ok win A1 c1 l1 A2 c2 l2 A3 c3 l3 m w hr1 hc1 hr2 hc2 hr3 hc3 (congrArg some hc.2) hc.1
end Go.Proofs.Ytookabfmbimnoaa.Lk

namespace Go.Proofs.Ytookabfmbimnoaa.Lk
open Go.RowKit Go.Proofs.YtookabfmbimnoaaW.PrintWords Go.Proofs.YtookabfmbimnoaaW.PrintLast Go.Proofs.YtookabfmbimnoaaW.PrintMore
set_option linter.unusedVariables false
set_option linter.unusedSimpArgs false

theorem specFatesG (l : List Int) (hl : l.length ≤ 9223372036854775807) : ∀ (m i k : Nat), i + m = l.length → m + 1 ≤ k → spec_FatesValid.l0 k l (i : Int) = some (decide (l.length ≤ 200) && (l.drop i).all fateOk)
  | m, i, 0, hi, hk => by omega
  | 0, i, k + 1, hi, hk => by
    rw [spec_FatesValid.l0, if_neg (by omega), List.drop_eq_nil_of_le (by omega)]
    simp only [List.all_nil, Bool.and_true, Option.some.injEq, decide_eq_decide]
    omega
  | m + 1, i, k + 1, hi, hk => by
    have e : wrap64 ((i : Int) + 1) = ((i + 1 : Nat) : Int) := by rw [w64 _ (by omega)]; simp
    have hil : i < l.length := by omega
    have hr : rd l (i : Int) = l[i] := by
      show l.getD _ 0 = _
      rw [List.getD_eq_getElem?_getD, Int.toNat_natCast, List.getElem?_eq_getElem hil]
      rfl
    have hd : l.drop i = l[i] :: l.drop (i + 1) := List.drop_eq_getElem_cons hil
    have e2 : spec_l1In.f l[i] 0 4 = some (fateOk l[i]) := by
      unfold spec_l1In.f fateOk
      by_cases h : l[i] ≥ 0
      · rw [if_pos h, decide_eq_true h]; rfl
      · rw [if_neg h, decide_eq_false h]; rfl
    rw [spec_FatesValid.l0, if_pos (by omega), if_pos (by omega), hr, e2, Option.bind_some, hd, List.all_cons]
    cases h : fateOk l[i] with
    | true => rw [if_pos rfl, e, specFatesG l hl m (i + 1) k (by omega) (by omega), Bool.true_and]
    | false => rw [if_neg (by simp), Bool.false_and, Bool.and_false]
theorem specFatesB (l : List Int) (hl : l.length ≤ 9223372036854775807) : spec_FatesValid.f (l.length + 1) l = some (fatesOk l) := by
  have := specFatesG l hl l.length 0 (l.length + 1) (by omega) (by omega)
  rw [List.drop_zero] at this
  exact this
def manyOk (n : Int) : Bool := decide (0 ≤ n) && decide (n ≤ 60)
def boundV (a0 a1 : Int) (l2 l3 : List Int) : Int := if winOk a0 && (manyOk a1 && (fatesOk l2 && fatesOk l3)) then max (l2.length : Int) (l3.length : Int) + (a1 + a0 - 1) / a0 else -1
theorem specIn_ok (n lo hi : Int) : spec_l1In.f n lo hi = some (decide (lo ≤ n) && decide (n ≤ hi)) := by
  unfold spec_l1In.f
  by_cases h : n ≥ lo
  · rw [if_pos h, decide_eq_true h]; rfl
  · rw [if_neg h, decide_eq_false h]; rfl

def impl_LinkBound.f (a0 a1 : Int) (l2 l3 : List Int) : Option Int := some (boundV a0 a1 l2 l3)

set_option maxHeartbeats 4000000 in
set_option maxRecDepth 100000 in
theorem impl_LinkBound.calls (a0 a1 : Int) (A2 : Option Addr) (c2 : Nat) (l2 : List Int) (A3 : Option Addr) (c3 : Nat) (l3 : List Int) (r : Int) (w : World)
    (hr2 : Kd.C (Kd.int .i64) w A2 l2.length l2) (hc2 : l2.length ≤ c2) (hr3 : Kd.C (Kd.int .i64) w A3 l3.length l3) (hc3 : l3.length ≤ c3) (h : impl_LinkBound.f  a0 a1 l2 l3 = some r) :
    Calls Try.prog 22 #[.int .i64 a0, .int .i64 a1, .slice A2 l2.length c2, .slice A3 l3.length c3] w fun e w' => e = .returned (.int .i64 r) ∧ Below w.heap.size w w' := by
  obtain rfl := Option.some.inj h
  clear h
  have H1 := Aside0.mk (within_ok a0 1 8)
  have H2 := Aside0.mk (within_ok a1 0 60)
  have HH4 := Aside0.mk (fun (W : World) (hb : Below w.heap.size w W) => impl_FatesValid.calls A2 c2 l2 (fatesOk l2) W (Kd.C_below hr2 hb) hc2 rfl)
  have HH5 := Aside0.mk (fun (W : World) (hb : Below w.heap.size w W) => impl_FatesValid.calls A3 c3 l3 (fatesOk l3) W (Kd.C_below hr3 hb) hc3 rfl)
  have hw1 : (decide ((1 : Int) ≤ a0) && decide (a0 ≤ 8)) = winOk a0 := rfl
  have hw2 : (decide ((0 : Int) ≤ a1) && decide (a1 ≤ 60)) = manyOk a1 := rfl
  rw [hw1] at H1
  rw [hw2] at H2
  have hval : ∀ b1 b2 b4 b5, winOk a0 = b1 → manyOk a1 = b2 → fatesOk l2 = b4 → fatesOk l3 = b5 → (b1 && (b2 && (b4 && b5))) = true → 1 ≤ a0 ∧ a0 ≤ 8 ∧ 0 ≤ a1 ∧ a1 ≤ 60 ∧ l2.length ≤ 200 ∧ l3.length ≤ 200 := by
    intro b1 b2 b4 b5 h1 h2 h4 h5 h
    subst h1 h2 h4 h5
    simp only [Bool.and_eq_true, winOk, manyOk, fatesOk, decide_eq_true_eq] at h
    omega
  have HBV := Aside0.mk (show boundV a0 a1 l2 l3 = if winOk a0 && (manyOk a1 && (fatesOk l2 && fatesOk l3)) then max (l2.length : Int) (l3.length : Int) + (a1 + a0 - 1) / a0 else -1 from rfl)
  have HVAL := Aside0.mk hval
  clear hw1 hw2 hval hr2 hr3
  generalize boundV a0 a1 l2 l3 = res at HBV ⊢
  generalize hb1 : winOk a0 = b1 at H1 HBV
  generalize hb2 : manyOk a1 = b2 at H2 HBV
  generalize hb4 : fatesOk l2 = b4 at HH4 HBV
  generalize hb5 : fatesOk l3 = b5 at HH5 HBV
  have HV := Aside0.mk (HVAL.out b1 b2 b4 b5 hb1 hb2 hb4 hb5)
  clear HVAL hb1 hb2 hb4 hb5
  have HB := Aside0.mk (Below.refl w.heap.size w)
  cases b1
  case false =>
    go_enter Try.func22, Try.ntmps22
    go_wp2_with (first
      | (go_at_call 42; (with_reducible refine (impl_within.calls a0 1 8 _ _ H1.out).mono ?_); rintro e w' ⟨rfl, hd⟩; have n_ := Aside0.mk (below_step HB.out hd.below); clear HB; have HB := n_; clear n_ hd)
      | (go_at_call 42; (with_reducible refine (impl_within.calls a1 0 60 _ _ H2.out).mono ?_); rintro e w' ⟨rfl, hd⟩; have n_ := Aside0.mk (below_step HB.out hd.below); clear HB; have HB := n_; clear n_ hd)
      | (go_at_call 43; (with_reducible refine ((HH4.out _ HB.out)).mono ?_); rintro e w' ⟨rfl, hb⟩; have n_ := Aside0.mk (below_step HB.out hb); clear HB; have HB := n_; clear n_ hb)
      | (go_at_call 43; (with_reducible refine ((HH5.out _ HB.out)).mono ?_); rintro e w' ⟨rfl, hb⟩; have n_ := Aside0.mk (below_step HB.out hb); clear HB; have HB := n_; clear n_ hb))
    go_ret
    exact ⟨by rw [HBV.out]; rfl, HB.out⟩
  cases b2
  case false =>
    go_enter Try.func22, Try.ntmps22
    go_wp2_with (first
      | (go_at_call 42; (with_reducible refine (impl_within.calls a0 1 8 _ _ H1.out).mono ?_); rintro e w' ⟨rfl, hd⟩; have n_ := Aside0.mk (below_step HB.out hd.below); clear HB; have HB := n_; clear n_ hd)
      | (go_at_call 42; (with_reducible refine (impl_within.calls a1 0 60 _ _ H2.out).mono ?_); rintro e w' ⟨rfl, hd⟩; have n_ := Aside0.mk (below_step HB.out hd.below); clear HB; have HB := n_; clear n_ hd)
      | (go_at_call 43; (with_reducible refine ((HH4.out _ HB.out)).mono ?_); rintro e w' ⟨rfl, hb⟩; have n_ := Aside0.mk (below_step HB.out hb); clear HB; have HB := n_; clear n_ hb)
      | (go_at_call 43; (with_reducible refine ((HH5.out _ HB.out)).mono ?_); rintro e w' ⟨rfl, hb⟩; have n_ := Aside0.mk (below_step HB.out hb); clear HB; have HB := n_; clear n_ hb))
    go_ret
    exact ⟨by rw [HBV.out]; rfl, HB.out⟩
  cases b4
  case false =>
    go_enter Try.func22, Try.ntmps22
    go_wp2_with (first
      | (go_at_call 42; (with_reducible refine (impl_within.calls a0 1 8 _ _ H1.out).mono ?_); rintro e w' ⟨rfl, hd⟩; have n_ := Aside0.mk (below_step HB.out hd.below); clear HB; have HB := n_; clear n_ hd)
      | (go_at_call 42; (with_reducible refine (impl_within.calls a1 0 60 _ _ H2.out).mono ?_); rintro e w' ⟨rfl, hd⟩; have n_ := Aside0.mk (below_step HB.out hd.below); clear HB; have HB := n_; clear n_ hd)
      | (go_at_call 43; (with_reducible refine ((HH4.out _ HB.out)).mono ?_); rintro e w' ⟨rfl, hb⟩; have n_ := Aside0.mk (below_step HB.out hb); clear HB; have HB := n_; clear n_ hb)
      | (go_at_call 43; (with_reducible refine ((HH5.out _ HB.out)).mono ?_); rintro e w' ⟨rfl, hb⟩; have n_ := Aside0.mk (below_step HB.out hb); clear HB; have HB := n_; clear n_ hb))
    go_ret
    exact ⟨by rw [HBV.out]; rfl, HB.out⟩
  cases b5
  case false =>
    go_enter Try.func22, Try.ntmps22
    go_wp2_with (first
      | (go_at_call 42; (with_reducible refine (impl_within.calls a0 1 8 _ _ H1.out).mono ?_); rintro e w' ⟨rfl, hd⟩; have n_ := Aside0.mk (below_step HB.out hd.below); clear HB; have HB := n_; clear n_ hd)
      | (go_at_call 42; (with_reducible refine (impl_within.calls a1 0 60 _ _ H2.out).mono ?_); rintro e w' ⟨rfl, hd⟩; have n_ := Aside0.mk (below_step HB.out hd.below); clear HB; have HB := n_; clear n_ hd)
      | (go_at_call 43; (with_reducible refine ((HH4.out _ HB.out)).mono ?_); rintro e w' ⟨rfl, hb⟩; have n_ := Aside0.mk (below_step HB.out hb); clear HB; have HB := n_; clear n_ hb)
      | (go_at_call 43; (with_reducible refine ((HH5.out _ HB.out)).mono ?_); rintro e w' ⟨rfl, hb⟩; have n_ := Aside0.mk (below_step HB.out hb); clear HB; have HB := n_; clear n_ hb))
    go_ret
    exact ⟨by rw [HBV.out]; rfl, HB.out⟩
  case true =>
    obtain ⟨h1, h2, h3, h4, h5, h6⟩ := HV.out rfl
    have e1 : wrap64 (a1 + a0) = a1 + a0 := w64 _ (by omega)
    have e2 : wrap64 (a1 + a0 - 1) = a1 + a0 - 1 := w64 _ (by omega)
    have e3 : Int.tdiv (a1 + a0 - 1) a0 = (a1 + a0 - 1) / a0 := Int.tdiv_eq_ediv_of_nonneg (by omega)
    have hd0 : 0 ≤ (a1 + a0 - 1) / a0 := Int.ediv_nonneg (by omega) (by omega)
    have hd1 : (a1 + a0 - 1) / a0 ≤ a1 + a0 - 1 := Int.ediv_le_self _ (by omega)
    have e4 : wrap64 ((a1 + a0 - 1) / a0) = (a1 + a0 - 1) / a0 := w64 _ (by omega)
    have e5 : wrap64 (max (l2.length : Int) (l3.length : Int) + (a1 + a0 - 1) / a0) = max (l2.length : Int) (l3.length : Int) + (a1 + a0 - 1) / a0 := w64 _ (by omega)
    have e6 : (a0 = 0) = False := eq_false (by omega)
    have e7 : (a0 == 0) = false := beq_eq_false_iff_ne.mpr (by omega)
    clear h1 h2 h3 h4 h5 h6 hd0 hd1
    go_enter Try.func22, Try.ntmps22
    go_wp2_with (first
      | (go_at_call 42; (with_reducible refine (impl_within.calls a0 1 8 _ _ H1.out).mono ?_); rintro e w' ⟨rfl, hd⟩; have n_ := Aside0.mk (below_step HB.out hd.below); clear HB; have HB := n_; clear n_ hd)
      | (go_at_call 42; (with_reducible refine (impl_within.calls a1 0 60 _ _ H2.out).mono ?_); rintro e w' ⟨rfl, hd⟩; have n_ := Aside0.mk (below_step HB.out hd.below); clear HB; have HB := n_; clear n_ hd)
      | (go_at_call 43; (with_reducible refine ((HH4.out _ HB.out)).mono ?_); rintro e w' ⟨rfl, hb⟩; have n_ := Aside0.mk (below_step HB.out hb); clear HB; have HB := n_; clear n_ hb)
      | (go_at_call 43; (with_reducible refine ((HH5.out _ HB.out)).mono ?_); rintro e w' ⟨rfl, hb⟩; have n_ := Aside0.mk (below_step HB.out hb); clear HB; have HB := n_; clear n_ hb))
    go_ret
    exact ⟨by rw [HBV.out]; show Ending.returned (.int .i64 (wrap64 (max (l2.length : Int) (l3.length : Int) + (a1 + a0 - 1) / a0))) = _; rw [e5]; rfl, HB.out⟩

def spec_LinkBound.f (_k : Nat) (a0 a1 : Int) (l2 l3 : List Int) : Option Int := some (boundV a0 a1 l2 l3)
set_option maxHeartbeats 4000000 in
set_option maxRecDepth 100000 in
theorem spec_LinkBound.calls (k : Nat) (a0 a1 : Int) (A2 : Option Addr) (c2 : Nat) (l2 : List Int) (A3 : Option Addr) (c3 : Nat) (l3 : List Int) (r : Int) (w : World)
    (hr2 : Kd.C (Kd.int .i64) w A2 l2.length l2) (hc2 : l2.length ≤ c2) (hr3 : Kd.C (Kd.int .i64) w A3 l3.length l3) (hc3 : l3.length ≤ c3) (h : spec_LinkBound.f k a0 a1 l2 l3 = some r) :
    Calls Try.prog 23 #[.int .i64 a0, .int .i64 a1, .slice A2 l2.length c2, .slice A3 l3.length c3] w fun e w' => e = .returned (.int .i64 r) ∧ Below w.heap.size w w' := by
  obtain rfl := Option.some.inj h
  clear h
  have H1 := Aside0.mk (specIn_ok a0 1 8)
  have H2 := Aside0.mk (specIn_ok a1 0 60)
  have HH4 := Aside0.mk (fun (W : World) (hb : Below w.heap.size w W) => spec_FatesValid.calls (l2.length + 1) A2 c2 l2 (fatesOk l2) W (Kd.C_below hr2 hb) hc2 (specFatesB l2 hr2.2.1))
  have HH5 := Aside0.mk (fun (W : World) (hb : Below w.heap.size w W) => spec_FatesValid.calls (l3.length + 1) A3 c3 l3 (fatesOk l3) W (Kd.C_below hr3 hb) hc3 (specFatesB l3 hr3.2.1))
  have hw1 : (decide ((1 : Int) ≤ a0) && decide (a0 ≤ 8)) = winOk a0 := rfl
  have hw2 : (decide ((0 : Int) ≤ a1) && decide (a1 ≤ 60)) = manyOk a1 := rfl
  rw [hw1] at H1
  rw [hw2] at H2
  have hval : ∀ b1 b2 b4 b5, winOk a0 = b1 → manyOk a1 = b2 → fatesOk l2 = b4 → fatesOk l3 = b5 → (b1 && (b2 && (b4 && b5))) = true → 1 ≤ a0 ∧ a0 ≤ 8 ∧ 0 ≤ a1 ∧ a1 ≤ 60 ∧ l2.length ≤ 200 ∧ l3.length ≤ 200 := by
    intro b1 b2 b4 b5 h1 h2 h4 h5 h
    subst h1 h2 h4 h5
    simp only [Bool.and_eq_true, winOk, manyOk, fatesOk, decide_eq_true_eq] at h
    omega
  have HBV := Aside0.mk (show boundV a0 a1 l2 l3 = if winOk a0 && (manyOk a1 && (fatesOk l2 && fatesOk l3)) then max (l2.length : Int) (l3.length : Int) + (a1 + a0 - 1) / a0 else -1 from rfl)
  have HVAL := Aside0.mk hval
  clear hw1 hw2 hval hr2 hr3
  generalize boundV a0 a1 l2 l3 = res at HBV ⊢
  generalize hb1 : winOk a0 = b1 at H1 HBV
  generalize hb2 : manyOk a1 = b2 at H2 HBV
  generalize hb4 : fatesOk l2 = b4 at HH4 HBV
  generalize hb5 : fatesOk l3 = b5 at HH5 HBV
  have HV := Aside0.mk (HVAL.out b1 b2 b4 b5 hb1 hb2 hb4 hb5)
  clear HVAL hb1 hb2 hb4 hb5
  have HB := Aside0.mk (Below.refl w.heap.size w)
  cases b1
  case false =>
    go_enter Try.func23, Try.ntmps23
    go_wp2_with (first
      | (go_at_call 36; (with_reducible refine (spec_l1In.calls a0 1 8 _ _ H1.out).mono ?_); rintro e w' ⟨rfl, hd⟩; have n_ := Aside0.mk (below_step HB.out hd.below); clear HB; have HB := n_; clear n_ hd)
      | (go_at_call 36; (with_reducible refine (spec_l1In.calls a1 0 60 _ _ H2.out).mono ?_); rintro e w' ⟨rfl, hd⟩; have n_ := Aside0.mk (below_step HB.out hd.below); clear HB; have HB := n_; clear n_ hd)
      | (go_at_call 44; (with_reducible refine ((HH4.out _ HB.out)).mono ?_); rintro e w' ⟨rfl, hd⟩; have n_ := Aside0.mk (below_step HB.out hd.below); clear HB; have HB := n_; clear n_ hd)
      | (go_at_call 44; (with_reducible refine ((HH5.out _ HB.out)).mono ?_); rintro e w' ⟨rfl, hd⟩; have n_ := Aside0.mk (below_step HB.out hd.below); clear HB; have HB := n_; clear n_ hd))
    go_ret
    exact ⟨by rw [HBV.out]; rfl, HB.out⟩
  cases b2
  case false =>
    go_enter Try.func23, Try.ntmps23
    go_wp2_with (first
      | (go_at_call 36; (with_reducible refine (spec_l1In.calls a0 1 8 _ _ H1.out).mono ?_); rintro e w' ⟨rfl, hd⟩; have n_ := Aside0.mk (below_step HB.out hd.below); clear HB; have HB := n_; clear n_ hd)
      | (go_at_call 36; (with_reducible refine (spec_l1In.calls a1 0 60 _ _ H2.out).mono ?_); rintro e w' ⟨rfl, hd⟩; have n_ := Aside0.mk (below_step HB.out hd.below); clear HB; have HB := n_; clear n_ hd)
      | (go_at_call 44; (with_reducible refine ((HH4.out _ HB.out)).mono ?_); rintro e w' ⟨rfl, hd⟩; have n_ := Aside0.mk (below_step HB.out hd.below); clear HB; have HB := n_; clear n_ hd)
      | (go_at_call 44; (with_reducible refine ((HH5.out _ HB.out)).mono ?_); rintro e w' ⟨rfl, hd⟩; have n_ := Aside0.mk (below_step HB.out hd.below); clear HB; have HB := n_; clear n_ hd))
    go_ret
    exact ⟨by rw [HBV.out]; rfl, HB.out⟩
  cases b4
  case false =>
    go_enter Try.func23, Try.ntmps23
    go_wp2_with (first
      | (go_at_call 36; (with_reducible refine (spec_l1In.calls a0 1 8 _ _ H1.out).mono ?_); rintro e w' ⟨rfl, hd⟩; have n_ := Aside0.mk (below_step HB.out hd.below); clear HB; have HB := n_; clear n_ hd)
      | (go_at_call 36; (with_reducible refine (spec_l1In.calls a1 0 60 _ _ H2.out).mono ?_); rintro e w' ⟨rfl, hd⟩; have n_ := Aside0.mk (below_step HB.out hd.below); clear HB; have HB := n_; clear n_ hd)
      | (go_at_call 44; (with_reducible refine ((HH4.out _ HB.out)).mono ?_); rintro e w' ⟨rfl, hd⟩; have n_ := Aside0.mk (below_step HB.out hd.below); clear HB; have HB := n_; clear n_ hd)
      | (go_at_call 44; (with_reducible refine ((HH5.out _ HB.out)).mono ?_); rintro e w' ⟨rfl, hd⟩; have n_ := Aside0.mk (below_step HB.out hd.below); clear HB; have HB := n_; clear n_ hd))
    go_ret
    exact ⟨by rw [HBV.out]; rfl, HB.out⟩
  cases b5
  case false =>
    go_enter Try.func23, Try.ntmps23
    go_wp2_with (first
      | (go_at_call 36; (with_reducible refine (spec_l1In.calls a0 1 8 _ _ H1.out).mono ?_); rintro e w' ⟨rfl, hd⟩; have n_ := Aside0.mk (below_step HB.out hd.below); clear HB; have HB := n_; clear n_ hd)
      | (go_at_call 36; (with_reducible refine (spec_l1In.calls a1 0 60 _ _ H2.out).mono ?_); rintro e w' ⟨rfl, hd⟩; have n_ := Aside0.mk (below_step HB.out hd.below); clear HB; have HB := n_; clear n_ hd)
      | (go_at_call 44; (with_reducible refine ((HH4.out _ HB.out)).mono ?_); rintro e w' ⟨rfl, hd⟩; have n_ := Aside0.mk (below_step HB.out hd.below); clear HB; have HB := n_; clear n_ hd)
      | (go_at_call 44; (with_reducible refine ((HH5.out _ HB.out)).mono ?_); rintro e w' ⟨rfl, hd⟩; have n_ := Aside0.mk (below_step HB.out hd.below); clear HB; have HB := n_; clear n_ hd))
    go_ret
    exact ⟨by rw [HBV.out]; rfl, HB.out⟩
  case true =>
    obtain ⟨h1, h2, h3, h4, h5, h6⟩ := HV.out rfl
    have e1 : wrap64 (a1 + a0) = a1 + a0 := w64 _ (by omega)
    have e2 : wrap64 (a1 + a0 - 1) = a1 + a0 - 1 := w64 _ (by omega)
    have e3 : Int.tdiv (a1 + a0 - 1) a0 = (a1 + a0 - 1) / a0 := Int.tdiv_eq_ediv_of_nonneg (by omega)
    have hd0 : 0 ≤ (a1 + a0 - 1) / a0 := Int.ediv_nonneg (by omega) (by omega)
    have hd1 : (a1 + a0 - 1) / a0 ≤ a1 + a0 - 1 := Int.ediv_le_self _ (by omega)
    have e4 : wrap64 ((a1 + a0 - 1) / a0) = (a1 + a0 - 1) / a0 := w64 _ (by omega)
    have e5 : wrap64 (max (l2.length : Int) (l3.length : Int) + (a1 + a0 - 1) / a0) = max (l2.length : Int) (l3.length : Int) + (a1 + a0 - 1) / a0 := w64 _ (by omega)
    have e6 : (a0 = 0) = False := eq_false (by omega)
    have e7 : (a0 == 0) = false := beq_eq_false_iff_ne.mpr (by omega)
    clear h1 h2 h3 h4 h5 h6 hd0 hd1
    go_enter Try.func23, Try.ntmps23
    go_wp2_with (first
      | (go_at_call 36; (with_reducible refine (spec_l1In.calls a0 1 8 _ _ H1.out).mono ?_); rintro e w' ⟨rfl, hd⟩; have n_ := Aside0.mk (below_step HB.out hd.below); clear HB; have HB := n_; clear n_ hd)
      | (go_at_call 36; (with_reducible refine (spec_l1In.calls a1 0 60 _ _ H2.out).mono ?_); rintro e w' ⟨rfl, hd⟩; have n_ := Aside0.mk (below_step HB.out hd.below); clear HB; have HB := n_; clear n_ hd)
      | (go_at_call 44; (with_reducible refine ((HH4.out _ HB.out)).mono ?_); rintro e w' ⟨rfl, hd⟩; have n_ := Aside0.mk (below_step HB.out hd.below); clear HB; have HB := n_; clear n_ hd)
      | (go_at_call 44; (with_reducible refine ((HH5.out _ HB.out)).mono ?_); rintro e w' ⟨rfl, hd⟩; have n_ := Aside0.mk (below_step HB.out hd.below); clear HB; have HB := n_; clear n_ hd))
    go_ret
    exact ⟨by rw [HBV.out]; show Ending.returned (.int .i64 (wrap64 (max (l2.length : Int) (l3.length : Int) + (a1 + a0 - 1) / a0))) = _; rw [e5]; rfl, HB.out⟩
end Go.Proofs.Ytookabfmbimnoaa.Lk

namespace Go.Proofs.Ytookabfmbimnoaa.Lk
open Go.RowKit Go.Proofs.YtookabfmbimnoaaW.PrintWords Go.Proofs.YtookabfmbimnoaaW.PrintLast Go.Proofs.YtookabfmbimnoaaW.PrintMore
attribute [local go_sem] max2_int min2_int max_two min_two max_three min_three max_four min_four   -- for this text's walks alone
set_option linter.unusedVariables false
set_option linter.unusedSimpArgs false

def spec_LinkRounds.f (k : Nat) (a0 : Int) (l1 : List (List Int)) (l2 : List Int) (l3 : List Int) : Option (Int) := (spec_l5Link.f k a0 l1 l2 l3).bind fun t454 => (if t454 = true then ((spec_l5Run.f k a0 l1 l2 l3 400).bind fun bt455 => (if bt455.2.2.2 = true then (some bt455.2.1) else (some (-1)))) else (some (-1)))
set_option maxHeartbeats 8000000 in
set_option maxRecDepth 100000 in
theorem spec_LinkRounds.calls (k : Nat) (a0 : Int) (A1 : Option Addr) (c1 : Nat) (l1 : List (List Int)) (A2 : Option Addr) (c2 : Nat) (l2 : List Int) (A3 : Option Addr) (c3 : Nat) (l3 : List Int) (r : Int) (w : World) (hr1 : Kd.C (Kd.slice 5 (Kd.int .u8)) w A1 l1.length l1) (hc1 : l1.length ≤ c1) (hr2 : Kd.C (Kd.int .i64) w A2 l2.length l2) (hc2 : l2.length ≤ c2) (hr3 : Kd.C (Kd.int .i64) w A3 l3.length l3) (hc3 : l3.length ≤ c3) (h : spec_LinkRounds.f k a0 l1 l2 l3 = some r) :
    Calls Try.prog 13 #[.int .i64 a0, .slice A1 l1.length c1, .slice A2 l2.length c2, .slice A3 l3.length c3] w fun e w' => e = .returned (.int .i64 r) ∧ Below w.heap.size w w' := by
  have hu28 := Try.underlying28
  have HR1 := Aside0.mk hr1
  have HC1 := Aside0.mk hc1
  clear hr1 hc1
  have HR2 := Aside0.mk hr2
  have HC2 := Aside0.mk hc2
  clear hr2 hc2
  have HR3 := Aside0.mk hr3
  have HC3 := Aside0.mk hc3
  clear hr3 hc3
  have HB := Aside0.mk (Below.refl w.heap.size w)
  have H : ((spec_l5Link.f k a0 l1 l2 l3).bind fun t454 => (if t454 = true then ((spec_l5Run.f k a0 l1 l2 l3 400).bind fun bt455 => (if bt455.2.2.2 = true then (some bt455.2.1) else (some (-1)))) else (some (-1)))) = some r := h
  clear h
  replace H := Option.bind_eq_some_iff.mp H
  obtain ⟨t454, A50, H⟩ := H
  replace H : (if t454 = true then ((spec_l5Run.f k a0 l1 l2 l3 400).bind fun bt455 => (if bt455.2.2.2 = true then (some bt455.2.1) else (some (-1)))) else (some (-1))) = some r := H
  have A5 := Aside0.mk A50
  clear A50
  by_cases c6 : t454 = true
  · subst c6
    have H1 : ((spec_l5Run.f k a0 l1 l2 l3 400).bind fun bt455 => (if bt455.2.2.2 = true then (some bt455.2.1) else (some (-1)))) = some r := by rw [if_pos rfl] at H; exact H
    clear H
    have H := H1
    clear H1
    replace H := Option.bind_eq_some_iff.mp H
    obtain ⟨⟨t455, t458, t459, t460⟩, A70, H⟩ := H
    replace H : (if t460 = true then (some t458) else (some (-1))) = some r := H
    have A7 := Aside0.mk A70
    clear A70
    by_cases c8 : t460 = true
    · subst c8
      have H1 : (some t458) = some r := by rw [if_pos rfl] at H; exact H
      clear H
      have H := H1
      clear H1
      obtain rfl := Option.some.inj H
      go_enter Try.func13, Try.ntmps13
      go_wp2_with (first | ((with_reducible refine gate_callee (f := 35) rfl ?_); refine goesL_ (some 14) rfl rfl Try.func35 (by kernel_rfl) rfl #[.int .i64 a0, .slice A1 l1.length c1, .slice A2 l2.length c2, .slice A3 l3.length c3] rfl (by (try simp only [List.map_toArray, List.map_cons, List.map_nil]); first | done | rfl | (simp only [List.length_drop, List.length_take]; rfl)) ?_; (with_reducible refine (spec_l5Link.calls k a0 _ _ l1 _ _ l2 _ _ l3 true _ ?side1 ?side2 ?side3 ?side4 ?side5 ?side6 A5.out).mono ?_); (case side1 => repeat (first | exact HR1.out | (with_reducible refine Kd.C_alloc ?_ _) | (with_reducible refine Kd.C_drewN ?_ _) | (with_reducible refine Kd.C_drew ?_))); (case side2 => exact HC1.out); (case side3 => repeat (first | exact HR2.out | (with_reducible refine Kd.C_alloc ?_ _) | (with_reducible refine Kd.C_drewN ?_ _) | (with_reducible refine Kd.C_drew ?_))); (case side4 => exact HC2.out); (case side5 => repeat (first | exact HR3.out | (with_reducible refine Kd.C_alloc ?_ _) | (with_reducible refine Kd.C_drewN ?_ _) | (with_reducible refine Kd.C_drew ?_))); (case side6 => exact HC3.out); rintro e w' ⟨rfl, ⟨nd, rfl⟩⟩; refine ⟨_, rfl, ?_⟩) | ((with_reducible refine gate_callee (f := 37) rfl ?_); refine goesL_ (some 20) rfl rfl Try.func37 (by kernel_rfl) rfl #[.int .i64 a0, .slice A1 l1.length c1, .slice A2 l2.length c2, .slice A3 l3.length c3, .int .i64 400] rfl (by (try simp only [List.map_toArray, List.map_cons, List.map_nil]); first | done | rfl | (simp only [List.length_drop, List.length_take]; rfl)) ?_; (with_reducible refine (spec_l5Run.calls k a0 _ _ l1 _ _ l2 _ _ l3 400 t455 t458 t459 true _ ?side1 ?side2 ?side3 ?side4 ?side5 ?side6 A7.out).mono ?_); (case side1 => repeat (first | exact HR1.out | (with_reducible refine Kd.C_alloc ?_ _) | (with_reducible refine Kd.C_drewN ?_ _) | (with_reducible refine Kd.C_drew ?_))); (case side2 => exact HC1.out); (case side3 => repeat (first | exact HR2.out | (with_reducible refine Kd.C_alloc ?_ _) | (with_reducible refine Kd.C_drewN ?_ _) | (with_reducible refine Kd.C_drew ?_))); (case side4 => exact HC2.out); (case side5 => repeat (first | exact HR3.out | (with_reducible refine Kd.C_alloc ?_ _) | (with_reducible refine Kd.C_drewN ?_ _) | (with_reducible refine Kd.C_drew ?_))); (case side6 => exact HC3.out); rintro e w9 ⟨v456, rfl, ho0, hb⟩; refine ⟨_, rfl, ?_⟩; have n0_ := Aside0.mk (Kd.S_lower ho0 (below_size (by repeat (first | (with_reducible first | exact HB.out | apply below_alloc | apply pw_below_drewN | apply below_drew1) | exact HB.out)))); have n1_ := Aside0.mk (below_step (by repeat (first | (with_reducible first | exact HB.out | apply below_alloc | apply pw_below_drewN | apply below_drew1) | exact HB.out)) hb); clear HB; have HO457 := n0_; have HB := n1_; clear n0_ n1_; (try clear hb); (try clear hb2); (try clear hk); (try clear hi); (try clear ho0)) | ((with_reducible refine gate_dst (N := 9) rfl ?_); refine box_event ?hg (N := 9) ?hd (cs := #[.slice none 0 0, .int .i64 0, .int .i64 0, .bool false]) (t := 28) ?hr ?_; (case hd => rfl); (case hg => rfl); (case hr => first | (go_simp; done) | (go_simp; rfl)); intro gb461 hg w10 hbox hb; have n0_ := Aside0.mk (Kd.S_below (by (with_reducible repeat (first | apply Kd.S_alloc | apply Kd.S_drewN | apply Kd.S_drew)); exact HO457.out) hb); have n1_ := Aside0.mk (below_step (by repeat (first | (with_reducible first | exact HB.out | apply below_alloc | apply pw_below_drewN | apply below_drew1) | exact HB.out)) hb); have n2_ := Aside0.mk (hbox); have n3_ := Aside0.mk ((by rw [hg]; exact (below_size (by repeat (first | (with_reducible first | exact HB.out | apply below_alloc | apply pw_below_drewN | apply below_drew1) | exact HB.out))) : w.heap.size ≤ gb461)); have n4_ := Aside0.mk ((by rw [hg]; exact (below_size (by repeat (first | (with_reducible first | exact HB.out | apply below_alloc | apply pw_below_drewN | apply below_drew1) | exact HB.out))) : w.heap.size ≤ gb461)); clear HO457; clear HB; have HO457 := n0_; have HB := n1_; have BK461 := n2_; have GW461 := n3_; have GE461 := n4_; clear n0_ n1_ n2_ n3_ n4_; clear hb hbox hg; obtain ⟨Ao11, co11, eo11⟩ := Kd.S_slice HO457.out; subst eo11; have hcz12_0 : w10.cell? ⟨gb461, 0, none⟩ = some (.slice none 0 0) := (blk_cell BK461.out 0).trans rfl; have hcz12_1 : w10.cell? ⟨gb461, 1, none⟩ = some (.int .i64 0) := (blk_cell BK461.out 1).trans rfl; have hcz12_2 : w10.cell? ⟨gb461, 2, none⟩ = some (.int .i64 0) := (blk_cell BK461.out 2).trans rfl; have hcz12_3 : w10.cell? ⟨gb461, 3, none⟩ = some (.bool false) := (blk_cell BK461.out 3).trans rfl; have hfz12_0 := blk_frozen BK461.out 0; have hfz12_1 := blk_frozen BK461.out 1; have hfz12_2 := blk_frozen BK461.out 2; have hfz12_3 := blk_frozen BK461.out 3))
      go_ret
      exact ⟨by first | rfl | (simp [errW_none, errW_some] <;> rfl) | (simp [*, errW_none, errW_some] <;> rfl), by repeat (first | (with_reducible first | exact HB.out | apply below_alloc | apply pw_below_drewN | apply below_drew1 | refine below_set ?_ GE461.out) | exact HB.out)⟩
    · replace c8 := Bool.eq_false_iff.mpr c8
      subst c8
      have H1 : (some (-1)) = some r := by rw [if_neg (show ¬ (false = true) by decide)] at H; exact H
      clear H
      have H := H1
      clear H1
      obtain rfl := Option.some.inj H
      go_enter Try.func13, Try.ntmps13
      go_wp2_with (first | ((with_reducible refine gate_callee (f := 35) rfl ?_); refine goesL_ (some 14) rfl rfl Try.func35 (by kernel_rfl) rfl #[.int .i64 a0, .slice A1 l1.length c1, .slice A2 l2.length c2, .slice A3 l3.length c3] rfl (by (try simp only [List.map_toArray, List.map_cons, List.map_nil]); first | done | rfl | (simp only [List.length_drop, List.length_take]; rfl)) ?_; (with_reducible refine (spec_l5Link.calls k a0 _ _ l1 _ _ l2 _ _ l3 true _ ?side1 ?side2 ?side3 ?side4 ?side5 ?side6 A5.out).mono ?_); (case side1 => repeat (first | exact HR1.out | (with_reducible refine Kd.C_alloc ?_ _) | (with_reducible refine Kd.C_drewN ?_ _) | (with_reducible refine Kd.C_drew ?_))); (case side2 => exact HC1.out); (case side3 => repeat (first | exact HR2.out | (with_reducible refine Kd.C_alloc ?_ _) | (with_reducible refine Kd.C_drewN ?_ _) | (with_reducible refine Kd.C_drew ?_))); (case side4 => exact HC2.out); (case side5 => repeat (first | exact HR3.out | (with_reducible refine Kd.C_alloc ?_ _) | (with_reducible refine Kd.C_drewN ?_ _) | (with_reducible refine Kd.C_drew ?_))); (case side6 => exact HC3.out); rintro e w' ⟨rfl, ⟨nd, rfl⟩⟩; refine ⟨_, rfl, ?_⟩) | ((with_reducible refine gate_callee (f := 37) rfl ?_); refine goesL_ (some 20) rfl rfl Try.func37 (by kernel_rfl) rfl #[.int .i64 a0, .slice A1 l1.length c1, .slice A2 l2.length c2, .slice A3 l3.length c3, .int .i64 400] rfl (by (try simp only [List.map_toArray, List.map_cons, List.map_nil]); first | done | rfl | (simp only [List.length_drop, List.length_take]; rfl)) ?_; (with_reducible refine (spec_l5Run.calls k a0 _ _ l1 _ _ l2 _ _ l3 400 t455 t458 t459 false _ ?side1 ?side2 ?side3 ?side4 ?side5 ?side6 A7.out).mono ?_); (case side1 => repeat (first | exact HR1.out | (with_reducible refine Kd.C_alloc ?_ _) | (with_reducible refine Kd.C_drewN ?_ _) | (with_reducible refine Kd.C_drew ?_))); (case side2 => exact HC1.out); (case side3 => repeat (first | exact HR2.out | (with_reducible refine Kd.C_alloc ?_ _) | (with_reducible refine Kd.C_drewN ?_ _) | (with_reducible refine Kd.C_drew ?_))); (case side4 => exact HC2.out); (case side5 => repeat (first | exact HR3.out | (with_reducible refine Kd.C_alloc ?_ _) | (with_reducible refine Kd.C_drewN ?_ _) | (with_reducible refine Kd.C_drew ?_))); (case side6 => exact HC3.out); rintro e w13 ⟨v456, rfl, ho0, hb⟩; refine ⟨_, rfl, ?_⟩; have n0_ := Aside0.mk (Kd.S_lower ho0 (below_size (by repeat (first | (with_reducible first | exact HB.out | apply below_alloc | apply pw_below_drewN | apply below_drew1) | exact HB.out)))); have n1_ := Aside0.mk (below_step (by repeat (first | (with_reducible first | exact HB.out | apply below_alloc | apply pw_below_drewN | apply below_drew1) | exact HB.out)) hb); clear HB; have HO457 := n0_; have HB := n1_; clear n0_ n1_; (try clear hb); (try clear hb2); (try clear hk); (try clear hi); (try clear ho0)) | ((with_reducible refine gate_dst (N := 9) rfl ?_); refine box_event ?hg (N := 9) ?hd (cs := #[.slice none 0 0, .int .i64 0, .int .i64 0, .bool false]) (t := 28) ?hr ?_; (case hd => rfl); (case hg => rfl); (case hr => first | (go_simp; done) | (go_simp; rfl)); intro gb461 hg w14 hbox hb; have n0_ := Aside0.mk (Kd.S_below (by (with_reducible repeat (first | apply Kd.S_alloc | apply Kd.S_drewN | apply Kd.S_drew)); exact HO457.out) hb); have n1_ := Aside0.mk (below_step (by repeat (first | (with_reducible first | exact HB.out | apply below_alloc | apply pw_below_drewN | apply below_drew1) | exact HB.out)) hb); have n2_ := Aside0.mk (hbox); have n3_ := Aside0.mk ((by rw [hg]; exact (below_size (by repeat (first | (with_reducible first | exact HB.out | apply below_alloc | apply pw_below_drewN | apply below_drew1) | exact HB.out))) : w.heap.size ≤ gb461)); have n4_ := Aside0.mk ((by rw [hg]; exact (below_size (by repeat (first | (with_reducible first | exact HB.out | apply below_alloc | apply pw_below_drewN | apply below_drew1) | exact HB.out))) : w.heap.size ≤ gb461)); clear HO457; clear HB; have HO457 := n0_; have HB := n1_; have BK461 := n2_; have GW461 := n3_; have GE461 := n4_; clear n0_ n1_ n2_ n3_ n4_; clear hb hbox hg; obtain ⟨Ao15, co15, eo15⟩ := Kd.S_slice HO457.out; subst eo15; have hcz16_0 : w14.cell? ⟨gb461, 0, none⟩ = some (.slice none 0 0) := (blk_cell BK461.out 0).trans rfl; have hcz16_1 : w14.cell? ⟨gb461, 1, none⟩ = some (.int .i64 0) := (blk_cell BK461.out 1).trans rfl; have hcz16_2 : w14.cell? ⟨gb461, 2, none⟩ = some (.int .i64 0) := (blk_cell BK461.out 2).trans rfl; have hcz16_3 : w14.cell? ⟨gb461, 3, none⟩ = some (.bool false) := (blk_cell BK461.out 3).trans rfl; have hfz16_0 := blk_frozen BK461.out 0; have hfz16_1 := blk_frozen BK461.out 1; have hfz16_2 := blk_frozen BK461.out 2; have hfz16_3 := blk_frozen BK461.out 3))
      go_ret
      exact ⟨by first | rfl | (simp [errW_none, errW_some] <;> rfl) | (simp [*, errW_none, errW_some] <;> rfl), by repeat (first | (with_reducible first | exact HB.out | apply below_alloc | apply pw_below_drewN | apply below_drew1 | refine below_set ?_ GE461.out) | exact HB.out)⟩
  · replace c6 := Bool.eq_false_iff.mpr c6
    subst c6
    have H1 : (some (-1)) = some r := by rw [if_neg (show ¬ (false = true) by decide)] at H; exact H
    clear H
    have H := H1
    clear H1
    obtain rfl := Option.some.inj H
    go_enter Try.func13, Try.ntmps13
    go_wp2_with (first | ((with_reducible refine gate_callee (f := 35) rfl ?_); refine goesL_ (some 14) rfl rfl Try.func35 (by kernel_rfl) rfl #[.int .i64 a0, .slice A1 l1.length c1, .slice A2 l2.length c2, .slice A3 l3.length c3] rfl (by (try simp only [List.map_toArray, List.map_cons, List.map_nil]); first | done | rfl | (simp only [List.length_drop, List.length_take]; rfl)) ?_; (with_reducible refine (spec_l5Link.calls k a0 _ _ l1 _ _ l2 _ _ l3 false _ ?side1 ?side2 ?side3 ?side4 ?side5 ?side6 A5.out).mono ?_); (case side1 => repeat (first | exact HR1.out | (with_reducible refine Kd.C_alloc ?_ _) | (with_reducible refine Kd.C_drewN ?_ _) | (with_reducible refine Kd.C_drew ?_))); (case side2 => exact HC1.out); (case side3 => repeat (first | exact HR2.out | (with_reducible refine Kd.C_alloc ?_ _) | (with_reducible refine Kd.C_drewN ?_ _) | (with_reducible refine Kd.C_drew ?_))); (case side4 => exact HC2.out); (case side5 => repeat (first | exact HR3.out | (with_reducible refine Kd.C_alloc ?_ _) | (with_reducible refine Kd.C_drewN ?_ _) | (with_reducible refine Kd.C_drew ?_))); (case side6 => exact HC3.out); rintro e w' ⟨rfl, ⟨nd, rfl⟩⟩; refine ⟨_, rfl, ?_⟩))
    go_ret
    exact ⟨by first | rfl | (simp [errW_none, errW_some] <;> rfl) | (simp [*, errW_none, errW_some] <;> rfl), by repeat (first | (with_reducible first | exact HB.out | apply below_alloc | apply pw_below_drewN | apply below_drew1) | exact HB.out)⟩

def impl_LinkRounds.f (k : Nat) (a0 : Int) (l1 : List (List Int)) (l2 : List Int) (l3 : List Int) : Option (Int) := (impl_RunLink.f k a0 l1 l2 l3 400).bind fun bt472 => (if bt472.2.2.2.2 = true then (if bt472.2.2.2.1 = true then (some bt472.2.1) else (some (-1))) else (some (-1)))
set_option maxHeartbeats 8000000 in
set_option maxRecDepth 100000 in
theorem impl_LinkRounds.calls (k : Nat) (a0 : Int) (A1 : Option Addr) (c1 : Nat) (l1 : List (List Int)) (A2 : Option Addr) (c2 : Nat) (l2 : List Int) (A3 : Option Addr) (c3 : Nat) (l3 : List Int) (r : Int) (w : World) (hr1 : Kd.C (Kd.slice 5 (Kd.int .u8)) w A1 l1.length l1) (hc1 : l1.length ≤ c1) (hr2 : Kd.C (Kd.int .i64) w A2 l2.length l2) (hc2 : l2.length ≤ c2) (hr3 : Kd.C (Kd.int .i64) w A3 l3.length l3) (hc3 : l3.length ≤ c3) (h : impl_LinkRounds.f k a0 l1 l2 l3 = some r) :
    Calls Try.prog 16 #[.int .i64 a0, .slice A1 l1.length c1, .slice A2 l2.length c2, .slice A3 l3.length c3] w fun e w' => e = .returned (.int .i64 r) ∧ Below w.heap.size w w' := by
  have hu28 := Try.underlying28
  have HR1 := Aside0.mk hr1
  have HC1 := Aside0.mk hc1
  clear hr1 hc1
  have HR2 := Aside0.mk hr2
  have HC2 := Aside0.mk hc2
  clear hr2 hc2
  have HR3 := Aside0.mk hr3
  have HC3 := Aside0.mk hc3
  clear hr3 hc3
  have HB := Aside0.mk (Below.refl w.heap.size w)
  have H : ((impl_RunLink.f k a0 l1 l2 l3 400).bind fun bt472 => (if bt472.2.2.2.2 = true then (if bt472.2.2.2.1 = true then (some bt472.2.1) else (some (-1))) else (some (-1)))) = some r := h
  clear h
  replace H := Option.bind_eq_some_iff.mp H
  obtain ⟨⟨t472, t475, t476, t477, t478⟩, A50, H⟩ := H
  replace H : (if t478 = true then (if t477 = true then (some t475) else (some (-1))) else (some (-1))) = some r := H
  have A5 := Aside0.mk A50
  clear A50
  by_cases c6 : t478 = true
  · subst c6
    have H1 : (if t477 = true then (some t475) else (some (-1))) = some r := by rw [if_pos rfl] at H; exact H
    clear H
    have H := H1
    clear H1
    by_cases c7 : t477 = true
    · subst c7
      have H1 : (some t475) = some r := by rw [if_pos rfl] at H; exact H
      clear H
      have H := H1
      clear H1
      obtain rfl := Option.some.inj H
      go_enter Try.func16, Try.ntmps16
      go_wp2_with (first | ((with_reducible refine gate_callee (f := 10) rfl ?_); refine goesL_ (some 16) rfl rfl Try.func10 (by kernel_rfl) rfl #[.int .i64 a0, .slice A1 l1.length c1, .slice A2 l2.length c2, .slice A3 l3.length c3, .int .i64 400] rfl (by (try simp only [List.map_toArray, List.map_cons, List.map_nil]); first | done | rfl | (simp only [List.length_drop, List.length_take]; rfl)) ?_; (with_reducible refine (impl_RunLink.calls k a0 _ _ l1 _ _ l2 _ _ l3 400 t472 t475 t476 true true _ ?side1 ?side2 ?side3 ?side4 ?side5 ?side6 A5.out).mono ?_); (case side1 => repeat (first | exact HR1.out | (with_reducible refine Kd.C_alloc ?_ _) | (with_reducible refine Kd.C_drewN ?_ _) | (with_reducible refine Kd.C_drew ?_))); (case side2 => exact HC1.out); (case side3 => repeat (first | exact HR2.out | (with_reducible refine Kd.C_alloc ?_ _) | (with_reducible refine Kd.C_drewN ?_ _) | (with_reducible refine Kd.C_drew ?_))); (case side4 => exact HC2.out); (case side5 => repeat (first | exact HR3.out | (with_reducible refine Kd.C_alloc ?_ _) | (with_reducible refine Kd.C_drewN ?_ _) | (with_reducible refine Kd.C_drew ?_))); (case side6 => exact HC3.out); rintro e w8 ⟨v473, rfl, ho0, hb⟩; refine ⟨_, rfl, ?_⟩; have n0_ := Aside0.mk (Kd.S_lower ho0 (below_size (by repeat (first | (with_reducible first | exact HB.out | apply below_alloc | apply pw_below_drewN | apply below_drew1) | exact HB.out)))); have n1_ := Aside0.mk (below_step (by repeat (first | (with_reducible first | exact HB.out | apply below_alloc | apply pw_below_drewN | apply below_drew1) | exact HB.out)) hb); clear HB; have HO474 := n0_; have HB := n1_; clear n0_ n1_; (try clear hb); (try clear hb2); (try clear hk); (try clear hi); (try clear ho0)) | ((with_reducible refine gate_dst (N := 9) rfl ?_); refine box_event ?hg (N := 9) ?hd (cs := #[.slice none 0 0, .int .i64 0, .int .i64 0, .bool false]) (t := 28) ?hr ?_; (case hd => rfl); (case hg => rfl); (case hr => first | (go_simp; done) | (go_simp; rfl)); intro gb479 hg w9 hbox hb; have n0_ := Aside0.mk (Kd.S_below (by (with_reducible repeat (first | apply Kd.S_alloc | apply Kd.S_drewN | apply Kd.S_drew)); exact HO474.out) hb); have n1_ := Aside0.mk (below_step (by repeat (first | (with_reducible first | exact HB.out | apply below_alloc | apply pw_below_drewN | apply below_drew1) | exact HB.out)) hb); have n2_ := Aside0.mk (hbox); have n3_ := Aside0.mk ((by rw [hg]; exact (below_size (by repeat (first | (with_reducible first | exact HB.out | apply below_alloc | apply pw_below_drewN | apply below_drew1) | exact HB.out))) : w.heap.size ≤ gb479)); have n4_ := Aside0.mk ((by rw [hg]; exact (below_size (by repeat (first | (with_reducible first | exact HB.out | apply below_alloc | apply pw_below_drewN | apply below_drew1) | exact HB.out))) : w.heap.size ≤ gb479)); clear HO474; clear HB; have HO474 := n0_; have HB := n1_; have BK479 := n2_; have GW479 := n3_; have GE479 := n4_; clear n0_ n1_ n2_ n3_ n4_; clear hb hbox hg; obtain ⟨Ao10, co10, eo10⟩ := Kd.S_slice HO474.out; subst eo10; have hcz11_0 : w9.cell? ⟨gb479, 0, none⟩ = some (.slice none 0 0) := (blk_cell BK479.out 0).trans rfl; have hcz11_1 : w9.cell? ⟨gb479, 1, none⟩ = some (.int .i64 0) := (blk_cell BK479.out 1).trans rfl; have hcz11_2 : w9.cell? ⟨gb479, 2, none⟩ = some (.int .i64 0) := (blk_cell BK479.out 2).trans rfl; have hcz11_3 : w9.cell? ⟨gb479, 3, none⟩ = some (.bool false) := (blk_cell BK479.out 3).trans rfl; have hfz11_0 := blk_frozen BK479.out 0; have hfz11_1 := blk_frozen BK479.out 1; have hfz11_2 := blk_frozen BK479.out 2; have hfz11_3 := blk_frozen BK479.out 3))
      go_ret
      exact ⟨by first | rfl | (simp [errW_none, errW_some] <;> rfl) | (simp [*, errW_none, errW_some] <;> rfl), by repeat (first | (with_reducible first | exact HB.out | apply below_alloc | apply pw_below_drewN | apply below_drew1 | refine below_set ?_ GE479.out) | exact HB.out)⟩
    · replace c7 := Bool.eq_false_iff.mpr c7
      subst c7
      have H1 : (some (-1)) = some r := by rw [if_neg (show ¬ (false = true) by decide)] at H; exact H
      clear H
      have H := H1
      clear H1
      obtain rfl := Option.some.inj H
      go_enter Try.func16, Try.ntmps16
      go_wp2_with (first | ((with_reducible refine gate_callee (f := 10) rfl ?_); refine goesL_ (some 16) rfl rfl Try.func10 (by kernel_rfl) rfl #[.int .i64 a0, .slice A1 l1.length c1, .slice A2 l2.length c2, .slice A3 l3.length c3, .int .i64 400] rfl (by (try simp only [List.map_toArray, List.map_cons, List.map_nil]); first | done | rfl | (simp only [List.length_drop, List.length_take]; rfl)) ?_; (with_reducible refine (impl_RunLink.calls k a0 _ _ l1 _ _ l2 _ _ l3 400 t472 t475 t476 false true _ ?side1 ?side2 ?side3 ?side4 ?side5 ?side6 A5.out).mono ?_); (case side1 => repeat (first | exact HR1.out | (with_reducible refine Kd.C_alloc ?_ _) | (with_reducible refine Kd.C_drewN ?_ _) | (with_reducible refine Kd.C_drew ?_))); (case side2 => exact HC1.out); (case side3 => repeat (first | exact HR2.out | (with_reducible refine Kd.C_alloc ?_ _) | (with_reducible refine Kd.C_drewN ?_ _) | (with_reducible refine Kd.C_drew ?_))); (case side4 => exact HC2.out); (case side5 => repeat (first | exact HR3.out | (with_reducible refine Kd.C_alloc ?_ _) | (with_reducible refine Kd.C_drewN ?_ _) | (with_reducible refine Kd.C_drew ?_))); (case side6 => exact HC3.out); rintro e w12 ⟨v473, rfl, ho0, hb⟩; refine ⟨_, rfl, ?_⟩; have n0_ := Aside0.mk (Kd.S_lower ho0 (below_size (by repeat (first | (with_reducible first | exact HB.out | apply below_alloc | apply pw_below_drewN | apply below_drew1) | exact HB.out)))); have n1_ := Aside0.mk (below_step (by repeat (first | (with_reducible first | exact HB.out | apply below_alloc | apply pw_below_drewN | apply below_drew1) | exact HB.out)) hb); clear HB; have HO474 := n0_; have HB := n1_; clear n0_ n1_; (try clear hb); (try clear hb2); (try clear hk); (try clear hi); (try clear ho0)) | ((with_reducible refine gate_dst (N := 9) rfl ?_); refine box_event ?hg (N := 9) ?hd (cs := #[.slice none 0 0, .int .i64 0, .int .i64 0, .bool false]) (t := 28) ?hr ?_; (case hd => rfl); (case hg => rfl); (case hr => first | (go_simp; done) | (go_simp; rfl)); intro gb479 hg w13 hbox hb; have n0_ := Aside0.mk (Kd.S_below (by (with_reducible repeat (first | apply Kd.S_alloc | apply Kd.S_drewN | apply Kd.S_drew)); exact HO474.out) hb); have n1_ := Aside0.mk (below_step (by repeat (first | (with_reducible first | exact HB.out | apply below_alloc | apply pw_below_drewN | apply below_drew1) | exact HB.out)) hb); have n2_ := Aside0.mk (hbox); have n3_ := Aside0.mk ((by rw [hg]; exact (below_size (by repeat (first | (with_reducible first | exact HB.out | apply below_alloc | apply pw_below_drewN | apply below_drew1) | exact HB.out))) : w.heap.size ≤ gb479)); have n4_ := Aside0.mk ((by rw [hg]; exact (below_size (by repeat (first | (with_reducible first | exact HB.out | apply below_alloc | apply pw_below_drewN | apply below_drew1) | exact HB.out))) : w.heap.size ≤ gb479)); clear HO474; clear HB; have HO474 := n0_; have HB := n1_; have BK479 := n2_; have GW479 := n3_; have GE479 := n4_; clear n0_ n1_ n2_ n3_ n4_; clear hb hbox hg; obtain ⟨Ao14, co14, eo14⟩ := Kd.S_slice HO474.out; subst eo14; have hcz15_0 : w13.cell? ⟨gb479, 0, none⟩ = some (.slice none 0 0) := (blk_cell BK479.out 0).trans rfl; have hcz15_1 : w13.cell? ⟨gb479, 1, none⟩ = some (.int .i64 0) := (blk_cell BK479.out 1).trans rfl; have hcz15_2 : w13.cell? ⟨gb479, 2, none⟩ = some (.int .i64 0) := (blk_cell BK479.out 2).trans rfl; have hcz15_3 : w13.cell? ⟨gb479, 3, none⟩ = some (.bool false) := (blk_cell BK479.out 3).trans rfl; have hfz15_0 := blk_frozen BK479.out 0; have hfz15_1 := blk_frozen BK479.out 1; have hfz15_2 := blk_frozen BK479.out 2; have hfz15_3 := blk_frozen BK479.out 3))
      go_ret
      exact ⟨by first | rfl | (simp [errW_none, errW_some] <;> rfl) | (simp [*, errW_none, errW_some] <;> rfl), by repeat (first | (with_reducible first | exact HB.out | apply below_alloc | apply pw_below_drewN | apply below_drew1 | refine below_set ?_ GE479.out) | exact HB.out)⟩
  · replace c6 := Bool.eq_false_iff.mpr c6
    subst c6
    have H1 : (some (-1)) = some r := by rw [if_neg (show ¬ (false = true) by decide)] at H; exact H
    clear H
    have H := H1
    clear H1
    obtain rfl := Option.some.inj H
    go_enter Try.func16, Try.ntmps16
    go_wp2_with (first | ((with_reducible refine gate_callee (f := 10) rfl ?_); refine goesL_ (some 16) rfl rfl Try.func10 (by kernel_rfl) rfl #[.int .i64 a0, .slice A1 l1.length c1, .slice A2 l2.length c2, .slice A3 l3.length c3, .int .i64 400] rfl (by (try simp only [List.map_toArray, List.map_cons, List.map_nil]); first | done | rfl | (simp only [List.length_drop, List.length_take]; rfl)) ?_; (with_reducible refine (impl_RunLink.calls k a0 _ _ l1 _ _ l2 _ _ l3 400 t472 t475 t476 t477 false _ ?side1 ?side2 ?side3 ?side4 ?side5 ?side6 A5.out).mono ?_); (case side1 => repeat (first | exact HR1.out | (with_reducible refine Kd.C_alloc ?_ _) | (with_reducible refine Kd.C_drewN ?_ _) | (with_reducible refine Kd.C_drew ?_))); (case side2 => exact HC1.out); (case side3 => repeat (first | exact HR2.out | (with_reducible refine Kd.C_alloc ?_ _) | (with_reducible refine Kd.C_drewN ?_ _) | (with_reducible refine Kd.C_drew ?_))); (case side4 => exact HC2.out); (case side5 => repeat (first | exact HR3.out | (with_reducible refine Kd.C_alloc ?_ _) | (with_reducible refine Kd.C_drewN ?_ _) | (with_reducible refine Kd.C_drew ?_))); (case side6 => exact HC3.out); rintro e w16 ⟨v473, rfl, ho0, hb⟩; refine ⟨_, rfl, ?_⟩; have n0_ := Aside0.mk (Kd.S_lower ho0 (below_size (by repeat (first | (with_reducible first | exact HB.out | apply below_alloc | apply pw_below_drewN | apply below_drew1) | exact HB.out)))); have n1_ := Aside0.mk (below_step (by repeat (first | (with_reducible first | exact HB.out | apply below_alloc | apply pw_below_drewN | apply below_drew1) | exact HB.out)) hb); clear HB; have HO474 := n0_; have HB := n1_; clear n0_ n1_; (try clear hb); (try clear hb2); (try clear hk); (try clear hi); (try clear ho0)) | ((with_reducible refine gate_dst (N := 9) rfl ?_); refine box_event ?hg (N := 9) ?hd (cs := #[.slice none 0 0, .int .i64 0, .int .i64 0, .bool false]) (t := 28) ?hr ?_; (case hd => rfl); (case hg => rfl); (case hr => first | (go_simp; done) | (go_simp; rfl)); intro gb479 hg w17 hbox hb; have n0_ := Aside0.mk (Kd.S_below (by (with_reducible repeat (first | apply Kd.S_alloc | apply Kd.S_drewN | apply Kd.S_drew)); exact HO474.out) hb); have n1_ := Aside0.mk (below_step (by repeat (first | (with_reducible first | exact HB.out | apply below_alloc | apply pw_below_drewN | apply below_drew1) | exact HB.out)) hb); have n2_ := Aside0.mk (hbox); have n3_ := Aside0.mk ((by rw [hg]; exact (below_size (by repeat (first | (with_reducible first | exact HB.out | apply below_alloc | apply pw_below_drewN | apply below_drew1) | exact HB.out))) : w.heap.size ≤ gb479)); have n4_ := Aside0.mk ((by rw [hg]; exact (below_size (by repeat (first | (with_reducible first | exact HB.out | apply below_alloc | apply pw_below_drewN | apply below_drew1) | exact HB.out))) : w.heap.size ≤ gb479)); clear HO474; clear HB; have HO474 := n0_; have HB := n1_; have BK479 := n2_; have GW479 := n3_; have GE479 := n4_; clear n0_ n1_ n2_ n3_ n4_; clear hb hbox hg; obtain ⟨Ao18, co18, eo18⟩ := Kd.S_slice HO474.out; subst eo18; have hcz19_0 : w17.cell? ⟨gb479, 0, none⟩ = some (.slice none 0 0) := (blk_cell BK479.out 0).trans rfl; have hcz19_1 : w17.cell? ⟨gb479, 1, none⟩ = some (.int .i64 0) := (blk_cell BK479.out 1).trans rfl; have hcz19_2 : w17.cell? ⟨gb479, 2, none⟩ = some (.int .i64 0) := (blk_cell BK479.out 2).trans rfl; have hcz19_3 : w17.cell? ⟨gb479, 3, none⟩ = some (.bool false) := (blk_cell BK479.out 3).trans rfl; have hfz19_0 := blk_frozen BK479.out 0; have hfz19_1 := blk_frozen BK479.out 1; have hfz19_2 := blk_frozen BK479.out 2; have hfz19_3 := blk_frozen BK479.out 3))
    go_ret
    exact ⟨by first | rfl | (simp [errW_none, errW_some] <;> rfl) | (simp [*, errW_none, errW_some] <;> rfl), by repeat (first | (with_reducible first | exact HB.out | apply below_alloc | apply pw_below_drewN | apply below_drew1 | refine below_set ?_ GE479.out) | exact HB.out)⟩

end Go.Proofs.Ytookabfmbimnoaa.Lk

namespace Go.Proofs.Ytookabfmbimnoaa.Lk
open Go.RowKit Go.Proofs.YtookabfmbimnoaaW.PrintWords Go.Proofs.YtookabfmbimnoaaW.PrintLast Go.Proofs.YtookabfmbimnoaaW.PrintMore
attribute [local go_sem] max2_int min2_int max_two min_two max_three min_three max_four min_four   -- for this text's walks alone
set_option linter.unusedVariables false
set_option linter.unusedSimpArgs false

def laws_FnLinkLive.l0 : Nat → Int → Int → List (List Int) → Int → Int → Option (Bool)
  | 0, _, _, _, _, _ => none
  | k + 1, x12, x13, x65, x66, x67 => if x67 < x66 then (if 0 ≤ x67 then (if x67 < (x65.length : Int) then (if ((rd_L2 x65 x67).length : Int) > 597 then (some (x12 == (-1))) else (laws_FnLinkLive.l0 k x12 x13 x65 x66 (wrap64 (x67 + 1)))) else (none)) else (none)) else (if x13 > 400 then (some true) else (if x12 ≥ 0 then (some (decide (x12 ≤ x13))) else (some false)))
def laws_FnLinkLive.f (k : Nat) (l0 : List Int) : Option (Bool) := if (l0.length : Int) > 1048576 then (some true) else ((spec_DrawLinkBound.f k l0).bind fun bt628 => ((impl_LinkBound.f bt628.1 bt628.2.1 bt628.2.2.1 bt628.2.2.2).bind fun t636 => ((spec_LinkBound.f k bt628.1 bt628.2.1 bt628.2.2.1 bt628.2.2.2).bind fun t637 => (if t636 = t637 then ((spec_DrawLinkRounds.f k l0).bind fun bt638 => ((impl_LinkRounds.f k bt638.1 bt638.2.1 bt638.2.2.1 bt638.2.2.2).bind fun t648 => ((spec_LinkRounds.f k bt638.1 bt638.2.1 bt638.2.2.1 bt638.2.2.2).bind fun t649 => (if t648 = t649 then ((impl_LinkBound.f bt638.1 (bt638.2.1.length : Int) bt638.2.2.1 bt638.2.2.2).bind fun t650 => (if t650 < 0 then (some true) else (laws_FnLinkLive.l0 k t648 t650 bt638.2.1 (bt638.2.1.length : Int) 0))) else (some false))))) else (some false)))))
set_option maxHeartbeats 8000000 in
set_option maxRecDepth 100000 in
theorem laws_FnLinkLive.calls (k : Nat) (A0 : Option Addr) (c0 : Nat) (l0 : List Int) (r : Bool) (w : World) (hr0 : Kd.C (Kd.int .u8) w A0 l0.length l0) (hc0 : l0.length ≤ c0) (h : laws_FnLinkLive.f k l0 = some r) :
    Calls Try.prog 7 #[.slice A0 l0.length c0] w fun e w' => e = .returned (.bool r) ∧ Below w.heap.size w w' := by
  have HR0 := Aside0.mk hr0
  have HC0 := Aside0.mk hc0
  clear hr0 hc0
  have HB := Aside0.mk (Below.refl w.heap.size w)
  have H : (if (l0.length : Int) > 1048576 then (some true) else ((spec_DrawLinkBound.f k l0).bind fun bt628 => ((impl_LinkBound.f bt628.1 bt628.2.1 bt628.2.2.1 bt628.2.2.2).bind fun t636 => ((spec_LinkBound.f k bt628.1 bt628.2.1 bt628.2.2.1 bt628.2.2.2).bind fun t637 => (if t636 = t637 then ((spec_DrawLinkRounds.f k l0).bind fun bt638 => ((impl_LinkRounds.f k bt638.1 bt638.2.1 bt638.2.2.1 bt638.2.2.2).bind fun t648 => ((spec_LinkRounds.f k bt638.1 bt638.2.1 bt638.2.2.1 bt638.2.2.2).bind fun t649 => (if t648 = t649 then ((impl_LinkBound.f bt638.1 (bt638.2.1.length : Int) bt638.2.2.1 bt638.2.2.2).bind fun t650 => (if t650 < 0 then (some true) else (laws_FnLinkLive.l0 k t648 t650 bt638.2.1 (bt638.2.1.length : Int) 0))) else (some false))))) else (some false)))))) = some r := h
  clear h
  by_cases c2 : (l0.length : Int) > 1048576
  · rw [if_pos c2] at H
    have c2b0 : decide (1048576 < (l0.length : Int)) = true := decide_eq_true c2
    have c2b1 : decide (1048576 < l0.length) = true := decide_eq_true (by omega)
    clear c2
    obtain rfl := Option.some.inj H
    go_enter Try.func7, Try.ntmps7
    go_wp2
    go_ret
    exact ⟨by first | rfl | (simp [errW_none, errW_some] <;> rfl) | (simp [*, errW_none, errW_some] <;> rfl), by repeat (first | (with_reducible first | exact HB.out | apply below_alloc | apply pw_below_drewN | apply below_drew1) | exact HB.out)⟩
  · rw [if_neg c2] at H
    have c2b0 : decide (1048576 < (l0.length : Int)) = false := decide_eq_false c2
    have c2b1 : decide (1048576 < l0.length) = false := decide_eq_false (by omega)
    clear c2
    replace H := Option.bind_eq_some_iff.mp H
    obtain ⟨⟨t628, t629, t630, t631⟩, A30, H⟩ := H
    replace H : ((impl_LinkBound.f t628 t629 t630 t631).bind fun t636 => ((spec_LinkBound.f k t628 t629 t630 t631).bind fun t637 => (if t636 = t637 then ((spec_DrawLinkRounds.f k l0).bind fun bt638 => ((impl_LinkRounds.f k bt638.1 bt638.2.1 bt638.2.2.1 bt638.2.2.2).bind fun t648 => ((spec_LinkRounds.f k bt638.1 bt638.2.1 bt638.2.2.1 bt638.2.2.2).bind fun t649 => (if t648 = t649 then ((impl_LinkBound.f bt638.1 (bt638.2.1.length : Int) bt638.2.2.1 bt638.2.2.2).bind fun t650 => (if t650 < 0 then (some true) else (laws_FnLinkLive.l0 k t648 t650 bt638.2.1 (bt638.2.1.length : Int) 0))) else (some false))))) else (some false)))) = some r := H
    have A3 := Aside0.mk A30
    clear A30
    replace H := Option.bind_eq_some_iff.mp H
    obtain ⟨t636, A40, H⟩ := H
    replace H : ((spec_LinkBound.f k t628 t629 t630 t631).bind fun t637 => (if t636 = t637 then ((spec_DrawLinkRounds.f k l0).bind fun bt638 => ((impl_LinkRounds.f k bt638.1 bt638.2.1 bt638.2.2.1 bt638.2.2.2).bind fun t648 => ((spec_LinkRounds.f k bt638.1 bt638.2.1 bt638.2.2.1 bt638.2.2.2).bind fun t649 => (if t648 = t649 then ((impl_LinkBound.f bt638.1 (bt638.2.1.length : Int) bt638.2.2.1 bt638.2.2.2).bind fun t650 => (if t650 < 0 then (some true) else (laws_FnLinkLive.l0 k t648 t650 bt638.2.1 (bt638.2.1.length : Int) 0))) else (some false))))) else (some false))) = some r := H
    have A4 := Aside0.mk A40
    clear A40
    replace H := Option.bind_eq_some_iff.mp H
    obtain ⟨t637, A50, H⟩ := H
    replace H : (if t636 = t637 then ((spec_DrawLinkRounds.f k l0).bind fun bt638 => ((impl_LinkRounds.f k bt638.1 bt638.2.1 bt638.2.2.1 bt638.2.2.2).bind fun t648 => ((spec_LinkRounds.f k bt638.1 bt638.2.1 bt638.2.2.1 bt638.2.2.2).bind fun t649 => (if t648 = t649 then ((impl_LinkBound.f bt638.1 (bt638.2.1.length : Int) bt638.2.2.1 bt638.2.2.2).bind fun t650 => (if t650 < 0 then (some true) else (laws_FnLinkLive.l0 k t648 t650 bt638.2.1 (bt638.2.1.length : Int) 0))) else (some false))))) else (some false)) = some r := H
    have A5 := Aside0.mk A50
    clear A50
    by_cases c6 : t636 = t637
    · rw [if_pos c6] at H
      have c6b0 : (t636 == t637) = true := beq_iff_eq.mpr c6
      have c6b1 : (t636 != t637) = false := bne_eq_false_iff_eq.mpr c6
      clear c6
      replace H := Option.bind_eq_some_iff.mp H
      obtain ⟨⟨t638, t639, t640, t641⟩, A70, H⟩ := H
      replace H : ((impl_LinkRounds.f k t638 t639 t640 t641).bind fun t648 => ((spec_LinkRounds.f k t638 t639 t640 t641).bind fun t649 => (if t648 = t649 then ((impl_LinkBound.f t638 (t639.length : Int) t640 t641).bind fun t650 => (if t650 < 0 then (some true) else (laws_FnLinkLive.l0 k t648 t650 t639 (t639.length : Int) 0))) else (some false)))) = some r := H
      have A7 := Aside0.mk A70
      clear A70
      replace H := Option.bind_eq_some_iff.mp H
      obtain ⟨t648, A80, H⟩ := H
      replace H : ((spec_LinkRounds.f k t638 t639 t640 t641).bind fun t649 => (if t648 = t649 then ((impl_LinkBound.f t638 (t639.length : Int) t640 t641).bind fun t650 => (if t650 < 0 then (some true) else (laws_FnLinkLive.l0 k t648 t650 t639 (t639.length : Int) 0))) else (some false))) = some r := H
      have A8 := Aside0.mk A80
      clear A80
      replace H := Option.bind_eq_some_iff.mp H
      obtain ⟨t649, A90, H⟩ := H
      replace H : (if t648 = t649 then ((impl_LinkBound.f t638 (t639.length : Int) t640 t641).bind fun t650 => (if t650 < 0 then (some true) else (laws_FnLinkLive.l0 k t648 t650 t639 (t639.length : Int) 0))) else (some false)) = some r := H
      have A9 := Aside0.mk A90
      clear A90
      by_cases c10 : t648 = t649
      · rw [if_pos c10] at H
        have c10b0 : (t648 == t649) = true := beq_iff_eq.mpr c10
        have c10b1 : (t648 != t649) = false := bne_eq_false_iff_eq.mpr c10
        clear c10
        replace H := Option.bind_eq_some_iff.mp H
        obtain ⟨t650, A110, H⟩ := H
        replace H : (if t650 < 0 then (some true) else (laws_FnLinkLive.l0 k t648 t650 t639 (t639.length : Int) 0)) = some r := H
        have A11 := Aside0.mk A110
        clear A110
        by_cases c12 : t650 < 0
        · rw [if_pos c12] at H
          have c12b0 : decide (t650 < 0) = true := decide_eq_true c12
          clear c12
          obtain rfl := Option.some.inj H
          go_enter Try.func7, Try.ntmps7
          go_wp2_with (first | ((with_reducible refine gate_callee (f := 21) rfl ?_); refine goesL_ (some 21) rfl rfl Try.func21 (by kernel_rfl) rfl #[.slice A0 l0.length c0] rfl (by (try simp only [List.map_toArray, List.map_cons, List.map_nil]); first | done | rfl | (simp only [List.length_drop, List.length_take]; rfl)) ?_; (with_reducible refine (spec_DrawLinkBound.calls k _ _ l0 t628 t629 t630 t631 _ ?side1 ?side2 A3.out).mono ?_); (case side1 => repeat (first | exact HR0.out | (with_reducible refine Kd.C_alloc ?_ _) | (with_reducible refine Kd.C_drewN ?_ _) | (with_reducible refine Kd.C_drew ?_))); (case side2 => exact HC0.out); rintro e w13 ⟨v632, v634, rfl, ho0, ho1, hb⟩; refine ⟨_, rfl, ?_⟩; have n0_ := Aside0.mk (Kd.R_lower ho0 (below_size (by repeat (first | (with_reducible first | exact HB.out | apply below_alloc | apply pw_below_drewN | apply below_drew1) | exact HB.out)))); have n1_ := Aside0.mk (Kd.R_lower ho1 (below_size (by repeat (first | (with_reducible first | exact HB.out | apply below_alloc | apply pw_below_drewN | apply below_drew1) | exact HB.out)))); have n2_ := Aside0.mk (below_step (by repeat (first | (with_reducible first | exact HB.out | apply below_alloc | apply pw_below_drewN | apply below_drew1) | exact HB.out)) hb); clear HB; have HO633 := n0_; have HO635 := n1_; have HB := n2_; clear n0_ n1_ n2_; (try clear hb); (try clear hb2); (try clear hk); (try clear hi); (try clear ho0); (try clear ho1); obtain ⟨Ao14, co14, eo14⟩ := Kd.R_slice HO633.out; subst eo14; obtain ⟨Ao15, co15, eo15⟩ := Kd.R_slice HO635.out; subst eo15) | ((with_reducible refine gate_callee (f := 22) rfl ?_); refine goesL_ (some 30) rfl rfl Try.func22 (by kernel_rfl) rfl #[.int .i64 t628, .int .i64 t629, .slice Ao14 t630.length co14, .slice Ao15 t631.length co15] rfl (by (try simp only [List.map_toArray, List.map_cons, List.map_nil]); first | done | rfl | (simp only [List.length_drop, List.length_take]; rfl)) ?_; (with_reducible refine (impl_LinkBound.calls t628 t629 _ _ t630 _ _ t631 t636 _ ?side1 ?side2 ?side3 ?side4 A4.out).mono ?_); (case side1 => repeat (first | exact (Kd.R_reads' HO633.out).2.2 | (with_reducible refine Kd.C_alloc ?_ _) | (with_reducible refine Kd.C_drewN ?_ _) | (with_reducible refine Kd.C_drew ?_))); (case side2 => exact (Kd.R_reads' HO633.out).2.1); (case side3 => repeat (first | exact (Kd.R_reads' HO635.out).2.2 | (with_reducible refine Kd.C_alloc ?_ _) | (with_reducible refine Kd.C_drewN ?_ _) | (with_reducible refine Kd.C_drew ?_))); (case side4 => exact (Kd.R_reads' HO635.out).2.1); rintro e w16 ⟨rfl, hb⟩; refine ⟨_, rfl, ?_⟩; have n0_ := Aside0.mk (Kd.R_below (by (with_reducible repeat (first | apply Kd.R_alloc | apply Kd.R_drewN | apply Kd.R_drew)); exact HO633.out) hb); have n1_ := Aside0.mk (Kd.R_below (by (with_reducible repeat (first | apply Kd.R_alloc | apply Kd.R_drewN | apply Kd.R_drew)); exact HO635.out) hb); have n2_ := Aside0.mk (below_step (by repeat (first | (with_reducible first | exact HB.out | apply below_alloc | apply pw_below_drewN | apply below_drew1) | exact HB.out)) hb); clear HO633; clear HO635; clear HB; have HO633 := n0_; have HO635 := n1_; have HB := n2_; clear n0_ n1_ n2_; (try clear hb); (try clear hb2); (try clear hk); (try clear hi)) | ((with_reducible refine gate_callee (f := 23) rfl ?_); refine goesL_ (some 36) rfl rfl Try.func23 (by kernel_rfl) rfl #[.int .i64 t628, .int .i64 t629, .slice Ao14 t630.length co14, .slice Ao15 t631.length co15] rfl (by (try simp only [List.map_toArray, List.map_cons, List.map_nil]); first | done | rfl | (simp only [List.length_drop, List.length_take]; rfl)) ?_; (with_reducible refine (spec_LinkBound.calls k t628 t629 _ _ t630 _ _ t631 t637 _ ?side1 ?side2 ?side3 ?side4 A5.out).mono ?_); (case side1 => repeat (first | exact (Kd.R_reads' HO633.out).2.2 | (with_reducible refine Kd.C_alloc ?_ _) | (with_reducible refine Kd.C_drewN ?_ _) | (with_reducible refine Kd.C_drew ?_))); (case side2 => exact (Kd.R_reads' HO633.out).2.1); (case side3 => repeat (first | exact (Kd.R_reads' HO635.out).2.2 | (with_reducible refine Kd.C_alloc ?_ _) | (with_reducible refine Kd.C_drewN ?_ _) | (with_reducible refine Kd.C_drew ?_))); (case side4 => exact (Kd.R_reads' HO635.out).2.1); rintro e w17 ⟨rfl, hb⟩; refine ⟨_, rfl, ?_⟩; have n0_ := Aside0.mk (Kd.R_below (by (with_reducible repeat (first | apply Kd.R_alloc | apply Kd.R_drewN | apply Kd.R_drew)); exact HO633.out) hb); have n1_ := Aside0.mk (Kd.R_below (by (with_reducible repeat (first | apply Kd.R_alloc | apply Kd.R_drewN | apply Kd.R_drew)); exact HO635.out) hb); have n2_ := Aside0.mk (below_step (by repeat (first | (with_reducible first | exact HB.out | apply below_alloc | apply pw_below_drewN | apply below_drew1) | exact HB.out)) hb); clear HO633; clear HO635; clear HB; have HO633 := n0_; have HO635 := n1_; have HB := n2_; clear n0_ n1_ n2_; (try clear hb); (try clear hb2); (try clear hk); (try clear hi)) | ((with_reducible refine gate_callee (f := 9) rfl ?_); refine goesL_ (some 40) rfl rfl Try.func9 (by kernel_rfl) rfl #[.slice A0 l0.length c0] rfl (by (try simp only [List.map_toArray, List.map_cons, List.map_nil]); first | done | rfl | (simp only [List.length_drop, List.length_take]; rfl)) ?_; (with_reducible refine (spec_DrawLinkRounds.calls k _ _ l0 t638 t639 t640 t641 _ ?side1 ?side2 A7.out).mono ?_); (case side1 => repeat (first | exact (Kd.C_below HR0.out HB.out) | (with_reducible refine Kd.C_alloc ?_ _) | (with_reducible refine Kd.C_drewN ?_ _) | (with_reducible refine Kd.C_drew ?_))); (case side2 => exact HC0.out); rintro e w18 ⟨v642, v644, v646, rfl, ho0, ho1, ho2, hb⟩; refine ⟨_, rfl, ?_⟩; have n0_ := Aside0.mk (Kd.R_mono (Kd.R_told (Kd.R_told (Kd.R_old (by (with_reducible repeat (first | apply Kd.R_alloc | apply Kd.R_drewN | apply Kd.R_drew)); exact HO633.out) hb) (Kd.R_base ho1)) (Kd.R_base ho2)) (fun _ h_ => h_.1)); have n1_ := Aside0.mk (Kd.R_mono (Kd.R_told (Kd.R_told (Kd.R_old (by (with_reducible repeat (first | apply Kd.R_alloc | apply Kd.R_drewN | apply Kd.R_drew)); exact HO635.out) hb) (Kd.R_base ho1)) (Kd.R_base ho2)) (fun _ h_ => h_.1)); have n2_ := Aside0.mk (Kd.S_lower ho0 (below_size (by repeat (first | (with_reducible first | exact HB.out | apply below_alloc | apply pw_below_drewN | apply below_drew1) | exact HB.out)))); have n3_ := Aside0.mk (Kd.R_lower (Kd.R_new' (Kd.R_new' ho1 (Kd.R_lt (by (with_reducible repeat (first | apply Kd.R_alloc | apply Kd.R_drewN | apply Kd.R_drew)); exact HO633.out))) (Kd.R_lt (by (with_reducible repeat (first | apply Kd.R_alloc | apply Kd.R_drewN | apply Kd.R_drew)); exact HO635.out))) (below_size (by repeat (first | (with_reducible first | exact HB.out | apply below_alloc | apply pw_below_drewN | apply below_drew1) | exact HB.out)))); have n4_ := Aside0.mk (Kd.R_lower (Kd.R_new' (Kd.R_new' ho2 (Kd.R_lt (by (with_reducible repeat (first | apply Kd.R_alloc | apply Kd.R_drewN | apply Kd.R_drew)); exact HO633.out))) (Kd.R_lt (by (with_reducible repeat (first | apply Kd.R_alloc | apply Kd.R_drewN | apply Kd.R_drew)); exact HO635.out))) (below_size (by repeat (first | (with_reducible first | exact HB.out | apply below_alloc | apply pw_below_drewN | apply below_drew1) | exact HB.out)))); have n5_ := Aside0.mk (below_step (by repeat (first | (with_reducible first | exact HB.out | apply below_alloc | apply pw_below_drewN | apply below_drew1) | exact HB.out)) hb); clear HO633; clear HO635; clear HB; have HO633 := n0_; have HO635 := n1_; have HO643 := n2_; have HO645 := n3_; have HO647 := n4_; have HB := n5_; clear n0_ n1_ n2_ n3_ n4_ n5_; (try clear hb); (try clear hb2); (try clear hk); (try clear hi); (try clear ho0); (try clear ho1); (try clear ho2); obtain ⟨Ao19, co19, eo19⟩ := Kd.S_slice HO643.out; subst eo19; obtain ⟨Ao20, co20, eo20⟩ := Kd.R_slice HO645.out; subst eo20; obtain ⟨Ao21, co21, eo21⟩ := Kd.R_slice HO647.out; subst eo21) | ((with_reducible refine gate_callee (f := 16) rfl ?_); refine goesL_ (some 49) rfl rfl Try.func16 (by kernel_rfl) rfl #[.int .i64 t638, .slice Ao19 t639.length co19, .slice Ao20 t640.length co20, .slice Ao21 t641.length co21] rfl (by (try simp only [List.map_toArray, List.map_cons, List.map_nil]); first | done | rfl | (simp only [List.length_drop, List.length_take]; rfl)) ?_; (with_reducible refine (impl_LinkRounds.calls k t638 _ _ t639 _ _ t640 _ _ t641 t648 _ ?side1 ?side2 ?side3 ?side4 ?side5 ?side6 A8.out).mono ?_); (case side1 => repeat (first | exact (Kd.S_reads' HO643.out).2.2 | (with_reducible refine Kd.C_alloc ?_ _) | (with_reducible refine Kd.C_drewN ?_ _) | (with_reducible refine Kd.C_drew ?_))); (case side2 => exact (Kd.S_reads' HO643.out).2.1); (case side3 => repeat (first | exact (Kd.R_reads' HO645.out).2.2 | (with_reducible refine Kd.C_alloc ?_ _) | (with_reducible refine Kd.C_drewN ?_ _) | (with_reducible refine Kd.C_drew ?_))); (case side4 => exact (Kd.R_reads' HO645.out).2.1); (case side5 => repeat (first | exact (Kd.R_reads' HO647.out).2.2 | (with_reducible refine Kd.C_alloc ?_ _) | (with_reducible refine Kd.C_drewN ?_ _) | (with_reducible refine Kd.C_drew ?_))); (case side6 => exact (Kd.R_reads' HO647.out).2.1); rintro e w22 ⟨rfl, hb⟩; refine ⟨_, rfl, ?_⟩; have n0_ := Aside0.mk (Kd.R_below (by (with_reducible repeat (first | apply Kd.R_alloc | apply Kd.R_drewN | apply Kd.R_drew)); exact HO633.out) hb); have n1_ := Aside0.mk (Kd.R_below (by (with_reducible repeat (first | apply Kd.R_alloc | apply Kd.R_drewN | apply Kd.R_drew)); exact HO635.out) hb); have n2_ := Aside0.mk (Kd.S_below (by (with_reducible repeat (first | apply Kd.S_alloc | apply Kd.S_drewN | apply Kd.S_drew)); exact HO643.out) hb); have n3_ := Aside0.mk (Kd.R_below (by (with_reducible repeat (first | apply Kd.R_alloc | apply Kd.R_drewN | apply Kd.R_drew)); exact HO645.out) hb); have n4_ := Aside0.mk (Kd.R_below (by (with_reducible repeat (first | apply Kd.R_alloc | apply Kd.R_drewN | apply Kd.R_drew)); exact HO647.out) hb); have n5_ := Aside0.mk (below_step (by repeat (first | (with_reducible first | exact HB.out | apply below_alloc | apply pw_below_drewN | apply below_drew1) | exact HB.out)) hb); clear HO633; clear HO635; clear HO643; clear HO645; clear HO647; clear HB; have HO633 := n0_; have HO635 := n1_; have HO643 := n2_; have HO645 := n3_; have HO647 := n4_; have HB := n5_; clear n0_ n1_ n2_ n3_ n4_ n5_; (try clear hb); (try clear hb2); (try clear hk); (try clear hi)) | ((with_reducible refine gate_callee (f := 13) rfl ?_); refine goesL_ (some 55) rfl rfl Try.func13 (by kernel_rfl) rfl #[.int .i64 t638, .slice Ao19 t639.length co19, .slice Ao20 t640.length co20, .slice Ao21 t641.length co21] rfl (by (try simp only [List.map_toArray, List.map_cons, List.map_nil]); first | done | rfl | (simp only [List.length_drop, List.length_take]; rfl)) ?_; (with_reducible refine (spec_LinkRounds.calls k t638 _ _ t639 _ _ t640 _ _ t641 t649 _ ?side1 ?side2 ?side3 ?side4 ?side5 ?side6 A9.out).mono ?_); (case side1 => repeat (first | exact (Kd.S_reads' HO643.out).2.2 | (with_reducible refine Kd.C_alloc ?_ _) | (with_reducible refine Kd.C_drewN ?_ _) | (with_reducible refine Kd.C_drew ?_))); (case side2 => exact (Kd.S_reads' HO643.out).2.1); (case side3 => repeat (first | exact (Kd.R_reads' HO645.out).2.2 | (with_reducible refine Kd.C_alloc ?_ _) | (with_reducible refine Kd.C_drewN ?_ _) | (with_reducible refine Kd.C_drew ?_))); (case side4 => exact (Kd.R_reads' HO645.out).2.1); (case side5 => repeat (first | exact (Kd.R_reads' HO647.out).2.2 | (with_reducible refine Kd.C_alloc ?_ _) | (with_reducible refine Kd.C_drewN ?_ _) | (with_reducible refine Kd.C_drew ?_))); (case side6 => exact (Kd.R_reads' HO647.out).2.1); rintro e w23 ⟨rfl, hb⟩; refine ⟨_, rfl, ?_⟩; have n0_ := Aside0.mk (Kd.R_below (by (with_reducible repeat (first | apply Kd.R_alloc | apply Kd.R_drewN | apply Kd.R_drew)); exact HO633.out) hb); have n1_ := Aside0.mk (Kd.R_below (by (with_reducible repeat (first | apply Kd.R_alloc | apply Kd.R_drewN | apply Kd.R_drew)); exact HO635.out) hb); have n2_ := Aside0.mk (Kd.S_below (by (with_reducible repeat (first | apply Kd.S_alloc | apply Kd.S_drewN | apply Kd.S_drew)); exact HO643.out) hb); have n3_ := Aside0.mk (Kd.R_below (by (with_reducible repeat (first | apply Kd.R_alloc | apply Kd.R_drewN | apply Kd.R_drew)); exact HO645.out) hb); have n4_ := Aside0.mk (Kd.R_below (by (with_reducible repeat (first | apply Kd.R_alloc | apply Kd.R_drewN | apply Kd.R_drew)); exact HO647.out) hb); have n5_ := Aside0.mk (below_step (by repeat (first | (with_reducible first | exact HB.out | apply below_alloc | apply pw_below_drewN | apply below_drew1) | exact HB.out)) hb); clear HO633; clear HO635; clear HO643; clear HO645; clear HO647; clear HB; have HO633 := n0_; have HO635 := n1_; have HO643 := n2_; have HO645 := n3_; have HO647 := n4_; have HB := n5_; clear n0_ n1_ n2_ n3_ n4_ n5_; (try clear hb); (try clear hb2); (try clear hk); (try clear hi)) | ((with_reducible refine gate_callee (f := 22) rfl ?_); refine goesL_ (some 62) rfl rfl Try.func22 (by kernel_rfl) rfl #[.int .i64 t638, .int .i64 (t639.length : Int), .slice Ao20 t640.length co20, .slice Ao21 t641.length co21] rfl (by (try simp only [List.map_toArray, List.map_cons, List.map_nil]); first | done | rfl | (simp only [List.length_drop, List.length_take]; rfl)) ?_; (with_reducible refine (impl_LinkBound.calls t638 (t639.length : Int) _ _ t640 _ _ t641 t650 _ ?side1 ?side2 ?side3 ?side4 A11.out).mono ?_); (case side1 => repeat (first | exact (Kd.R_reads' HO645.out).2.2 | (with_reducible refine Kd.C_alloc ?_ _) | (with_reducible refine Kd.C_drewN ?_ _) | (with_reducible refine Kd.C_drew ?_))); (case side2 => exact (Kd.R_reads' HO645.out).2.1); (case side3 => repeat (first | exact (Kd.R_reads' HO647.out).2.2 | (with_reducible refine Kd.C_alloc ?_ _) | (with_reducible refine Kd.C_drewN ?_ _) | (with_reducible refine Kd.C_drew ?_))); (case side4 => exact (Kd.R_reads' HO647.out).2.1); rintro e w24 ⟨rfl, hb⟩; refine ⟨_, rfl, ?_⟩; have n0_ := Aside0.mk (Kd.R_below (by (with_reducible repeat (first | apply Kd.R_alloc | apply Kd.R_drewN | apply Kd.R_drew)); exact HO633.out) hb); have n1_ := Aside0.mk (Kd.R_below (by (with_reducible repeat (first | apply Kd.R_alloc | apply Kd.R_drewN | apply Kd.R_drew)); exact HO635.out) hb); have n2_ := Aside0.mk (Kd.S_below (by (with_reducible repeat (first | apply Kd.S_alloc | apply Kd.S_drewN | apply Kd.S_drew)); exact HO643.out) hb); have n3_ := Aside0.mk (Kd.R_below (by (with_reducible repeat (first | apply Kd.R_alloc | apply Kd.R_drewN | apply Kd.R_drew)); exact HO645.out) hb); have n4_ := Aside0.mk (Kd.R_below (by (with_reducible repeat (first | apply Kd.R_alloc | apply Kd.R_drewN | apply Kd.R_drew)); exact HO647.out) hb); have n5_ := Aside0.mk (below_step (by repeat (first | (with_reducible first | exact HB.out | apply below_alloc | apply pw_below_drewN | apply below_drew1) | exact HB.out)) hb); clear HO633; clear HO635; clear HO643; clear HO645; clear HO647; clear HB; have HO633 := n0_; have HO635 := n1_; have HO643 := n2_; have HO645 := n3_; have HO647 := n4_; have HB := n5_; clear n0_ n1_ n2_ n3_ n4_ n5_; (try clear hb); (try clear hb2); (try clear hk); (try clear hi)))
          go_ret
          exact ⟨by first | rfl | (simp [errW_none, errW_some] <;> rfl) | (simp [*, errW_none, errW_some] <;> rfl), by repeat (first | (with_reducible first | exact HB.out | apply below_alloc | apply pw_below_drewN | apply below_drew1) | exact HB.out)⟩
        · rw [if_neg c12] at H
          have c12b0 : decide (t650 < 0) = false := decide_eq_false c12
          clear c12
          have H' := Aside0.mk H
          clear H
          go_enter Try.func7, Try.ntmps7
          go_wp2_with (first | ((with_reducible refine gate_callee (f := 21) rfl ?_); refine goesL_ (some 21) rfl rfl Try.func21 (by kernel_rfl) rfl #[.slice A0 l0.length c0] rfl (by (try simp only [List.map_toArray, List.map_cons, List.map_nil]); first | done | rfl | (simp only [List.length_drop, List.length_take]; rfl)) ?_; (with_reducible refine (spec_DrawLinkBound.calls k _ _ l0 t628 t629 t630 t631 _ ?side1 ?side2 A3.out).mono ?_); (case side1 => repeat (first | exact HR0.out | (with_reducible refine Kd.C_alloc ?_ _) | (with_reducible refine Kd.C_drewN ?_ _) | (with_reducible refine Kd.C_drew ?_))); (case side2 => exact HC0.out); rintro e w25 ⟨v632, v634, rfl, ho0, ho1, hb⟩; refine ⟨_, rfl, ?_⟩; have n0_ := Aside0.mk (Kd.R_lower ho0 (below_size (by repeat (first | (with_reducible first | exact HB.out | apply below_alloc | apply pw_below_drewN | apply below_drew1) | exact HB.out)))); have n1_ := Aside0.mk (Kd.R_lower ho1 (below_size (by repeat (first | (with_reducible first | exact HB.out | apply below_alloc | apply pw_below_drewN | apply below_drew1) | exact HB.out)))); have n2_ := Aside0.mk (below_step (by repeat (first | (with_reducible first | exact HB.out | apply below_alloc | apply pw_below_drewN | apply below_drew1) | exact HB.out)) hb); clear HB; have HO633 := n0_; have HO635 := n1_; have HB := n2_; clear n0_ n1_ n2_; (try clear hb); (try clear hb2); (try clear hk); (try clear hi); (try clear ho0); (try clear ho1); obtain ⟨Ao26, co26, eo26⟩ := Kd.R_slice HO633.out; subst eo26; obtain ⟨Ao27, co27, eo27⟩ := Kd.R_slice HO635.out; subst eo27) | ((with_reducible refine gate_callee (f := 22) rfl ?_); refine goesL_ (some 30) rfl rfl Try.func22 (by kernel_rfl) rfl #[.int .i64 t628, .int .i64 t629, .slice Ao26 t630.length co26, .slice Ao27 t631.length co27] rfl (by (try simp only [List.map_toArray, List.map_cons, List.map_nil]); first | done | rfl | (simp only [List.length_drop, List.length_take]; rfl)) ?_; (with_reducible refine (impl_LinkBound.calls t628 t629 _ _ t630 _ _ t631 t636 _ ?side1 ?side2 ?side3 ?side4 A4.out).mono ?_); (case side1 => repeat (first | exact (Kd.R_reads' HO633.out).2.2 | (with_reducible refine Kd.C_alloc ?_ _) | (with_reducible refine Kd.C_drewN ?_ _) | (with_reducible refine Kd.C_drew ?_))); (case side2 => exact (Kd.R_reads' HO633.out).2.1); (case side3 => repeat (first | exact (Kd.R_reads' HO635.out).2.2 | (with_reducible refine Kd.C_alloc ?_ _) | (with_reducible refine Kd.C_drewN ?_ _) | (with_reducible refine Kd.C_drew ?_))); (case side4 => exact (Kd.R_reads' HO635.out).2.1); rintro e w28 ⟨rfl, hb⟩; refine ⟨_, rfl, ?_⟩; have n0_ := Aside0.mk (Kd.R_below (by (with_reducible repeat (first | apply Kd.R_alloc | apply Kd.R_drewN | apply Kd.R_drew)); exact HO633.out) hb); have n1_ := Aside0.mk (Kd.R_below (by (with_reducible repeat (first | apply Kd.R_alloc | apply Kd.R_drewN | apply Kd.R_drew)); exact HO635.out) hb); have n2_ := Aside0.mk (below_step (by repeat (first | (with_reducible first | exact HB.out | apply below_alloc | apply pw_below_drewN | apply below_drew1) | exact HB.out)) hb); clear HO633; clear HO635; clear HB; have HO633 := n0_; have HO635 := n1_; have HB := n2_; clear n0_ n1_ n2_; (try clear hb); (try clear hb2); (try clear hk); (try clear hi)) | ((with_reducible refine gate_callee (f := 23) rfl ?_); refine goesL_ (some 36) rfl rfl Try.func23 (by kernel_rfl) rfl #[.int .i64 t628, .int .i64 t629, .slice Ao26 t630.length co26, .slice Ao27 t631.length co27] rfl (by (try simp only [List.map_toArray, List.map_cons, List.map_nil]); first | done | rfl | (simp only [List.length_drop, List.length_take]; rfl)) ?_; (with_reducible refine (spec_LinkBound.calls k t628 t629 _ _ t630 _ _ t631 t637 _ ?side1 ?side2 ?side3 ?side4 A5.out).mono ?_); (case side1 => repeat (first | exact (Kd.R_reads' HO633.out).2.2 | (with_reducible refine Kd.C_alloc ?_ _) | (with_reducible refine Kd.C_drewN ?_ _) | (with_reducible refine Kd.C_drew ?_))); (case side2 => exact (Kd.R_reads' HO633.out).2.1); (case side3 => repeat (first | exact (Kd.R_reads' HO635.out).2.2 | (with_reducible refine Kd.C_alloc ?_ _) | (with_reducible refine Kd.C_drewN ?_ _) | (with_reducible refine Kd.C_drew ?_))); (case side4 => exact (Kd.R_reads' HO635.out).2.1); rintro e w29 ⟨rfl, hb⟩; refine ⟨_, rfl, ?_⟩; have n0_ := Aside0.mk (Kd.R_below (by (with_reducible repeat (first | apply Kd.R_alloc | apply Kd.R_drewN | apply Kd.R_drew)); exact HO633.out) hb); have n1_ := Aside0.mk (Kd.R_below (by (with_reducible repeat (first | apply Kd.R_alloc | apply Kd.R_drewN | apply Kd.R_drew)); exact HO635.out) hb); have n2_ := Aside0.mk (below_step (by repeat (first | (with_reducible first | exact HB.out | apply below_alloc | apply pw_below_drewN | apply below_drew1) | exact HB.out)) hb); clear HO633; clear HO635; clear HB; have HO633 := n0_; have HO635 := n1_; have HB := n2_; clear n0_ n1_ n2_; (try clear hb); (try clear hb2); (try clear hk); (try clear hi)) | ((with_reducible refine gate_callee (f := 9) rfl ?_); refine goesL_ (some 40) rfl rfl Try.func9 (by kernel_rfl) rfl #[.slice A0 l0.length c0] rfl (by (try simp only [List.map_toArray, List.map_cons, List.map_nil]); first | done | rfl | (simp only [List.length_drop, List.length_take]; rfl)) ?_; (with_reducible refine (spec_DrawLinkRounds.calls k _ _ l0 t638 t639 t640 t641 _ ?side1 ?side2 A7.out).mono ?_); (case side1 => repeat (first | exact (Kd.C_below HR0.out HB.out) | (with_reducible refine Kd.C_alloc ?_ _) | (with_reducible refine Kd.C_drewN ?_ _) | (with_reducible refine Kd.C_drew ?_))); (case side2 => exact HC0.out); rintro e w30 ⟨v642, v644, v646, rfl, ho0, ho1, ho2, hb⟩; refine ⟨_, rfl, ?_⟩; have n0_ := Aside0.mk (Kd.R_mono (Kd.R_told (Kd.R_told (Kd.R_old (by (with_reducible repeat (first | apply Kd.R_alloc | apply Kd.R_drewN | apply Kd.R_drew)); exact HO633.out) hb) (Kd.R_base ho1)) (Kd.R_base ho2)) (fun _ h_ => h_.1)); have n1_ := Aside0.mk (Kd.R_mono (Kd.R_told (Kd.R_told (Kd.R_old (by (with_reducible repeat (first | apply Kd.R_alloc | apply Kd.R_drewN | apply Kd.R_drew)); exact HO635.out) hb) (Kd.R_base ho1)) (Kd.R_base ho2)) (fun _ h_ => h_.1)); have n2_ := Aside0.mk (Kd.S_lower ho0 (below_size (by repeat (first | (with_reducible first | exact HB.out | apply below_alloc | apply pw_below_drewN | apply below_drew1) | exact HB.out)))); have n3_ := Aside0.mk (Kd.R_lower (Kd.R_new' (Kd.R_new' ho1 (Kd.R_lt (by (with_reducible repeat (first | apply Kd.R_alloc | apply Kd.R_drewN | apply Kd.R_drew)); exact HO633.out))) (Kd.R_lt (by (with_reducible repeat (first | apply Kd.R_alloc | apply Kd.R_drewN | apply Kd.R_drew)); exact HO635.out))) (below_size (by repeat (first | (with_reducible first | exact HB.out | apply below_alloc | apply pw_below_drewN | apply below_drew1) | exact HB.out)))); have n4_ := Aside0.mk (Kd.R_lower (Kd.R_new' (Kd.R_new' ho2 (Kd.R_lt (by (with_reducible repeat (first | apply Kd.R_alloc | apply Kd.R_drewN | apply Kd.R_drew)); exact HO633.out))) (Kd.R_lt (by (with_reducible repeat (first | apply Kd.R_alloc | apply Kd.R_drewN | apply Kd.R_drew)); exact HO635.out))) (below_size (by repeat (first | (with_reducible first | exact HB.out | apply below_alloc | apply pw_below_drewN | apply below_drew1) | exact HB.out)))); have n5_ := Aside0.mk (below_step (by repeat (first | (with_reducible first | exact HB.out | apply below_alloc | apply pw_below_drewN | apply below_drew1) | exact HB.out)) hb); clear HO633; clear HO635; clear HB; have HO633 := n0_; have HO635 := n1_; have HO643 := n2_; have HO645 := n3_; have HO647 := n4_; have HB := n5_; clear n0_ n1_ n2_ n3_ n4_ n5_; (try clear hb); (try clear hb2); (try clear hk); (try clear hi); (try clear ho0); (try clear ho1); (try clear ho2); obtain ⟨Ao31, co31, eo31⟩ := Kd.S_slice HO643.out; subst eo31; obtain ⟨Ao32, co32, eo32⟩ := Kd.R_slice HO645.out; subst eo32; obtain ⟨Ao33, co33, eo33⟩ := Kd.R_slice HO647.out; subst eo33) | ((with_reducible refine gate_callee (f := 16) rfl ?_); refine goesL_ (some 49) rfl rfl Try.func16 (by kernel_rfl) rfl #[.int .i64 t638, .slice Ao31 t639.length co31, .slice Ao32 t640.length co32, .slice Ao33 t641.length co33] rfl (by (try simp only [List.map_toArray, List.map_cons, List.map_nil]); first | done | rfl | (simp only [List.length_drop, List.length_take]; rfl)) ?_; (with_reducible refine (impl_LinkRounds.calls k t638 _ _ t639 _ _ t640 _ _ t641 t648 _ ?side1 ?side2 ?side3 ?side4 ?side5 ?side6 A8.out).mono ?_); (case side1 => repeat (first | exact (Kd.S_reads' HO643.out).2.2 | (with_reducible refine Kd.C_alloc ?_ _) | (with_reducible refine Kd.C_drewN ?_ _) | (with_reducible refine Kd.C_drew ?_))); (case side2 => exact (Kd.S_reads' HO643.out).2.1); (case side3 => repeat (first | exact (Kd.R_reads' HO645.out).2.2 | (with_reducible refine Kd.C_alloc ?_ _) | (with_reducible refine Kd.C_drewN ?_ _) | (with_reducible refine Kd.C_drew ?_))); (case side4 => exact (Kd.R_reads' HO645.out).2.1); (case side5 => repeat (first | exact (Kd.R_reads' HO647.out).2.2 | (with_reducible refine Kd.C_alloc ?_ _) | (with_reducible refine Kd.C_drewN ?_ _) | (with_reducible refine Kd.C_drew ?_))); (case side6 => exact (Kd.R_reads' HO647.out).2.1); rintro e w34 ⟨rfl, hb⟩; refine ⟨_, rfl, ?_⟩; have n0_ := Aside0.mk (Kd.R_below (by (with_reducible repeat (first | apply Kd.R_alloc | apply Kd.R_drewN | apply Kd.R_drew)); exact HO633.out) hb); have n1_ := Aside0.mk (Kd.R_below (by (with_reducible repeat (first | apply Kd.R_alloc | apply Kd.R_drewN | apply Kd.R_drew)); exact HO635.out) hb); have n2_ := Aside0.mk (Kd.S_below (by (with_reducible repeat (first | apply Kd.S_alloc | apply Kd.S_drewN | apply Kd.S_drew)); exact HO643.out) hb); have n3_ := Aside0.mk (Kd.R_below (by (with_reducible repeat (first | apply Kd.R_alloc | apply Kd.R_drewN | apply Kd.R_drew)); exact HO645.out) hb); have n4_ := Aside0.mk (Kd.R_below (by (with_reducible repeat (first | apply Kd.R_alloc | apply Kd.R_drewN | apply Kd.R_drew)); exact HO647.out) hb); have n5_ := Aside0.mk (below_step (by repeat (first | (with_reducible first | exact HB.out | apply below_alloc | apply pw_below_drewN | apply below_drew1) | exact HB.out)) hb); clear HO633; clear HO635; clear HO643; clear HO645; clear HO647; clear HB; have HO633 := n0_; have HO635 := n1_; have HO643 := n2_; have HO645 := n3_; have HO647 := n4_; have HB := n5_; clear n0_ n1_ n2_ n3_ n4_ n5_; (try clear hb); (try clear hb2); (try clear hk); (try clear hi)) | ((with_reducible refine gate_callee (f := 13) rfl ?_); refine goesL_ (some 55) rfl rfl Try.func13 (by kernel_rfl) rfl #[.int .i64 t638, .slice Ao31 t639.length co31, .slice Ao32 t640.length co32, .slice Ao33 t641.length co33] rfl (by (try simp only [List.map_toArray, List.map_cons, List.map_nil]); first | done | rfl | (simp only [List.length_drop, List.length_take]; rfl)) ?_; (with_reducible refine (spec_LinkRounds.calls k t638 _ _ t639 _ _ t640 _ _ t641 t649 _ ?side1 ?side2 ?side3 ?side4 ?side5 ?side6 A9.out).mono ?_); (case side1 => repeat (first | exact (Kd.S_reads' HO643.out).2.2 | (with_reducible refine Kd.C_alloc ?_ _) | (with_reducible refine Kd.C_drewN ?_ _) | (with_reducible refine Kd.C_drew ?_))); (case side2 => exact (Kd.S_reads' HO643.out).2.1); (case side3 => repeat (first | exact (Kd.R_reads' HO645.out).2.2 | (with_reducible refine Kd.C_alloc ?_ _) | (with_reducible refine Kd.C_drewN ?_ _) | (with_reducible refine Kd.C_drew ?_))); (case side4 => exact (Kd.R_reads' HO645.out).2.1); (case side5 => repeat (first | exact (Kd.R_reads' HO647.out).2.2 | (with_reducible refine Kd.C_alloc ?_ _) | (with_reducible refine Kd.C_drewN ?_ _) | (with_reducible refine Kd.C_drew ?_))); (case side6 => exact (Kd.R_reads' HO647.out).2.1); rintro e w35 ⟨rfl, hb⟩; refine ⟨_, rfl, ?_⟩; have n0_ := Aside0.mk (Kd.R_below (by (with_reducible repeat (first | apply Kd.R_alloc | apply Kd.R_drewN | apply Kd.R_drew)); exact HO633.out) hb); have n1_ := Aside0.mk (Kd.R_below (by (with_reducible repeat (first | apply Kd.R_alloc | apply Kd.R_drewN | apply Kd.R_drew)); exact HO635.out) hb); have n2_ := Aside0.mk (Kd.S_below (by (with_reducible repeat (first | apply Kd.S_alloc | apply Kd.S_drewN | apply Kd.S_drew)); exact HO643.out) hb); have n3_ := Aside0.mk (Kd.R_below (by (with_reducible repeat (first | apply Kd.R_alloc | apply Kd.R_drewN | apply Kd.R_drew)); exact HO645.out) hb); have n4_ := Aside0.mk (Kd.R_below (by (with_reducible repeat (first | apply Kd.R_alloc | apply Kd.R_drewN | apply Kd.R_drew)); exact HO647.out) hb); have n5_ := Aside0.mk (below_step (by repeat (first | (with_reducible first | exact HB.out | apply below_alloc | apply pw_below_drewN | apply below_drew1) | exact HB.out)) hb); clear HO633; clear HO635; clear HO643; clear HO645; clear HO647; clear HB; have HO633 := n0_; have HO635 := n1_; have HO643 := n2_; have HO645 := n3_; have HO647 := n4_; have HB := n5_; clear n0_ n1_ n2_ n3_ n4_ n5_; (try clear hb); (try clear hb2); (try clear hk); (try clear hi)) | ((with_reducible refine gate_callee (f := 22) rfl ?_); refine goesL_ (some 62) rfl rfl Try.func22 (by kernel_rfl) rfl #[.int .i64 t638, .int .i64 (t639.length : Int), .slice Ao32 t640.length co32, .slice Ao33 t641.length co33] rfl (by (try simp only [List.map_toArray, List.map_cons, List.map_nil]); first | done | rfl | (simp only [List.length_drop, List.length_take]; rfl)) ?_; (with_reducible refine (impl_LinkBound.calls t638 (t639.length : Int) _ _ t640 _ _ t641 t650 _ ?side1 ?side2 ?side3 ?side4 A11.out).mono ?_); (case side1 => repeat (first | exact (Kd.R_reads' HO645.out).2.2 | (with_reducible refine Kd.C_alloc ?_ _) | (with_reducible refine Kd.C_drewN ?_ _) | (with_reducible refine Kd.C_drew ?_))); (case side2 => exact (Kd.R_reads' HO645.out).2.1); (case side3 => repeat (first | exact (Kd.R_reads' HO647.out).2.2 | (with_reducible refine Kd.C_alloc ?_ _) | (with_reducible refine Kd.C_drewN ?_ _) | (with_reducible refine Kd.C_drew ?_))); (case side4 => exact (Kd.R_reads' HO647.out).2.1); rintro e w36 ⟨rfl, hb⟩; refine ⟨_, rfl, ?_⟩; have n0_ := Aside0.mk (Kd.R_below (by (with_reducible repeat (first | apply Kd.R_alloc | apply Kd.R_drewN | apply Kd.R_drew)); exact HO633.out) hb); have n1_ := Aside0.mk (Kd.R_below (by (with_reducible repeat (first | apply Kd.R_alloc | apply Kd.R_drewN | apply Kd.R_drew)); exact HO635.out) hb); have n2_ := Aside0.mk (Kd.S_below (by (with_reducible repeat (first | apply Kd.S_alloc | apply Kd.S_drewN | apply Kd.S_drew)); exact HO643.out) hb); have n3_ := Aside0.mk (Kd.R_below (by (with_reducible repeat (first | apply Kd.R_alloc | apply Kd.R_drewN | apply Kd.R_drew)); exact HO645.out) hb); have n4_ := Aside0.mk (Kd.R_below (by (with_reducible repeat (first | apply Kd.R_alloc | apply Kd.R_drewN | apply Kd.R_drew)); exact HO647.out) hb); have n5_ := Aside0.mk (below_step (by repeat (first | (with_reducible first | exact HB.out | apply below_alloc | apply pw_below_drewN | apply below_drew1) | exact HB.out)) hb); clear HO633; clear HO635; clear HO643; clear HO645; clear HO647; clear HB; have HO633 := n0_; have HO635 := n1_; have HO643 := n2_; have HO645 := n3_; have HO647 := n4_; have HB := n5_; clear n0_ n1_ n2_ n3_ n4_ n5_; (try clear hb); (try clear hb2); (try clear hk); (try clear hi)))
          go_loopg [67] k (fun kq v67 w' => ∃ (x67_1 : Int), v67 = .int .i64 x67_1 ∧ Aside0 (laws_FnLinkLive.l0 kq t648 t650 t639 (t639.length : Int) x67_1 = some r) ∧ Aside0 (kq ≤ k) ∧ Aside0 (Kd.S (Kd.slice 5 (Kd.int .u8)) 22 w' w.heap.size (fun _ => True) (.slice Ao31 t639.length co31) t639) ∧ Aside0 (Below w.heap.size w w'))
          case atStart => exact ⟨(0), (by first | rfl | (simp; done) | (simp [*]; done)), H', ⟨Nat.le_refl _⟩, ⟨by (with_reducible repeat (first | apply Kd.S_alloc | apply Kd.S_drewN | apply Kd.S_drew)); exact HO643.out⟩, ⟨by repeat (first | (with_reducible first | exact HB.out | apply below_alloc | apply pw_below_drewN | apply below_drew1) | exact HB.out)⟩⟩
          case round =>
            clear H'
            try clear c1
            try clear c2
            try clear c2b0
            try clear c2b1
            try clear p2
            try clear c6
            try clear c6b0
            try clear c6b1
            try clear c7
            try clear c9
            try clear c10
            try clear c10b0
            try clear c10b1
            try clear c12
            try clear c12b0
            try clear c13
            try clear c16
            try clear c21
            try clear c22
            try clear c23
            obtain ⟨x67_1, rfl, HA, HK1, HO_65, HB⟩ := hrel
            cases gk with
            | zero => exact absurd HA.out (by simp [laws_FnLinkLive.l0])
            | succ k1 =>
              have H := HA.out
              clear HA
              simp only [laws_FnLinkLive.l0] at H
              by_cases c37 : x67_1 < (t639.length : Int)
              · rw [if_pos c37] at H
                have c37b0 : decide (x67_1 < (t639.length : Int)) = true := decide_eq_true c37
                clear c37
                by_cases c38 : 0 ≤ x67_1
                · rw [if_pos c38] at H
                  have c38b0 : decide (0 ≤ x67_1) = true := decide_eq_true c38
                  clear c38
                  by_cases c39 : x67_1 < (t639.length : Int)
                  · rw [if_pos c39] at H
                    have c39b0 : decide (x67_1 < (t639.length : Int)) = true := decide_eq_true c39
                    clear c39
                    by_cases c40 : ((rd_L2 t639 x67_1).length : Int) > 597
                    · rw [if_pos c40] at H
                      have c40b0 : decide (597 < ((rd_L2 t639 x67_1).length : Int)) = true := decide_eq_true c40
                      have c40b1 : decide (597 < (rd_L2 t639 x67_1).length) = true := decide_eq_true (by omega)
                      clear c40
                      obtain rfl := Option.some.inj H
                      have p651 : 0 ≤ (x67_1 : Int) := of_decide_eq_true (by first | (with_reducible assumption) | assumption)
                      have q651 : x67_1 < (t639.length : Int) := of_decide_eq_true (by first | (with_reducible assumption) | assumption)
                      obtain ⟨ad651, A651_0, c651_0, e651, hx651_0, hl651_0, hi651_0⟩ := at_L2 (Kd.S_reads' HO_65.out).2.2 x67_1 p651 q651
                      cases e651
                      obtain ⟨ce651, hce651, hMe651, hcc651⟩ := Kd.S_get HO_65.out [] x67_1 p651 (by first | exact q651 | exact of_decide_eq_true (by first | (with_reducible assumption) | assumption) | (have e_ := (Kd.S_reads' HO_65.out).1; omega))
                      obtain ⟨ve651_0, rfl, ge651_0⟩ := hMe651
                      have hv651_0 := hcc651 0 _ rfl
                      rw [Nat.add_zero, show ((Kd.slice 5 (Kd.int .u8))).sz = 1 from rfl, Nat.mul_one] at hv651_0
                      replace hv651_0 := Option.some.inj (hv651_0.symm.trans hx651_0)
                      rw [hv651_0] at ge651_0
                      have HL651_0 := Aside0.mk (show Kd.R (Kd.int .u8) 5 _ _ _ _ (rd_L2 t639 x67_1) from ge651_0)
                      clear hv651_0 ge651_0
                      clear hcc651 hce651
                      have HR651_0 := Aside0.mk hi651_0
                      have HC651_0 := Aside0.mk hl651_0
                      clear hi651_0 hl651_0
                      replace p651 := eq_true p651
                      replace q651 := eq_true q651
                      go_wp2
                      go_ret
                      exact ⟨by first | rfl | (simp [errW_none, errW_some] <;> rfl) | (simp [*, errW_none, errW_some] <;> rfl), by repeat (first | (with_reducible first | exact HB.out | apply below_alloc | apply pw_below_drewN | apply below_drew1) | exact HB.out)⟩
                    · rw [if_neg c40] at H
                      have c40b0 : decide (597 < ((rd_L2 t639 x67_1).length : Int)) = false := decide_eq_false c40
                      have c40b1 : decide (597 < (rd_L2 t639 x67_1).length) = false := decide_eq_false (by omega)
                      clear c40
                      have H' := Aside0.mk H
                      clear H
                      have p651 : 0 ≤ (x67_1 : Int) := of_decide_eq_true (by first | (with_reducible assumption) | assumption)
                      have q651 : x67_1 < (t639.length : Int) := of_decide_eq_true (by first | (with_reducible assumption) | assumption)
                      obtain ⟨ad651, A651_0, c651_0, e651, hx651_0, hl651_0, hi651_0⟩ := at_L2 (Kd.S_reads' HO_65.out).2.2 x67_1 p651 q651
                      cases e651
                      obtain ⟨ce651, hce651, hMe651, hcc651⟩ := Kd.S_get HO_65.out [] x67_1 p651 (by first | exact q651 | exact of_decide_eq_true (by first | (with_reducible assumption) | assumption) | (have e_ := (Kd.S_reads' HO_65.out).1; omega))
                      obtain ⟨ve651_0, rfl, ge651_0⟩ := hMe651
                      have hv651_0 := hcc651 0 _ rfl
                      rw [Nat.add_zero, show ((Kd.slice 5 (Kd.int .u8))).sz = 1 from rfl, Nat.mul_one] at hv651_0
                      replace hv651_0 := Option.some.inj (hv651_0.symm.trans hx651_0)
                      rw [hv651_0] at ge651_0
                      have HL651_0 := Aside0.mk (show Kd.R (Kd.int .u8) 5 _ _ _ _ (rd_L2 t639 x67_1) from ge651_0)
                      clear hv651_0 ge651_0
                      clear hcc651 hce651
                      have HR651_0 := Aside0.mk hi651_0
                      have HC651_0 := Aside0.mk hl651_0
                      clear hi651_0 hl651_0
                      replace p651 := eq_true p651
                      replace q651 := eq_true q651
                      go_wp2
                      go_roundg k1
                      case measure => have := HK1.out; omega
                      case rel => exact ⟨(wrap64 (x67_1 + 1)), (by first | rfl | (simp; done) | (simp [*]; done)), H', ⟨by have := HK1.out; omega⟩, ⟨by (with_reducible repeat (first | apply Kd.S_alloc | apply Kd.S_drewN | apply Kd.S_drew)); exact HO_65.out⟩, ⟨by repeat (first | (with_reducible first | exact HB.out | apply below_alloc | apply pw_below_drewN | apply below_drew1) | exact HB.out)⟩⟩
                  · rw [if_neg c39] at H
                    exact absurd H (by simp)
                · rw [if_neg c38] at H
                  exact absurd H (by simp)
              · rw [if_neg c37] at H
                have c37b0 : decide (x67_1 < (t639.length : Int)) = false := decide_eq_false c37
                clear c37
                by_cases c41 : t650 > 400
                · rw [if_pos c41] at H
                  have c41b0 : decide (400 < t650) = true := decide_eq_true c41
                  clear c41
                  obtain rfl := Option.some.inj H
                  go_wp2
                  go_ret
                  exact ⟨by first | rfl | (simp [errW_none, errW_some] <;> rfl) | (simp [*, errW_none, errW_some] <;> rfl), by repeat (first | (with_reducible first | exact HB.out | apply below_alloc | apply pw_below_drewN | apply below_drew1) | exact HB.out)⟩
                · rw [if_neg c41] at H
                  have c41b0 : decide (400 < t650) = false := decide_eq_false c41
                  clear c41
                  by_cases c42 : t648 ≥ 0
                  · rw [if_pos c42] at H
                    have c42b0 : decide (0 ≤ t648) = true := decide_eq_true c42
                    clear c42
                    obtain rfl := Option.some.inj H
                    go_wp2
                    go_ret
                    exact ⟨by first | rfl | (simp [errW_none, errW_some] <;> rfl) | (simp [*, errW_none, errW_some] <;> rfl), by repeat (first | (with_reducible first | exact HB.out | apply below_alloc | apply pw_below_drewN | apply below_drew1) | exact HB.out)⟩
                  · rw [if_neg c42] at H
                    have c42b0 : decide (0 ≤ t648) = false := decide_eq_false c42
                    clear c42
                    obtain rfl := Option.some.inj H
                    go_wp2
                    go_ret
                    exact ⟨by first | rfl | (simp [errW_none, errW_some] <;> rfl) | (simp [*, errW_none, errW_some] <;> rfl), by repeat (first | (with_reducible first | exact HB.out | apply below_alloc | apply pw_below_drewN | apply below_drew1) | exact HB.out)⟩
      · rw [if_neg c10] at H
        have c10b0 : (t648 == t649) = false := beq_eq_false_iff_ne.mpr c10
        have c10b1 : (t648 != t649) = true := bne_iff_ne.mpr c10
        obtain rfl := Option.some.inj H
        go_enter Try.func7, Try.ntmps7
        go_wp2_with (first | ((with_reducible refine gate_callee (f := 21) rfl ?_); refine goesL_ (some 21) rfl rfl Try.func21 (by kernel_rfl) rfl #[.slice A0 l0.length c0] rfl (by (try simp only [List.map_toArray, List.map_cons, List.map_nil]); first | done | rfl | (simp only [List.length_drop, List.length_take]; rfl)) ?_; (with_reducible refine (spec_DrawLinkBound.calls k _ _ l0 t628 t629 t630 t631 _ ?side1 ?side2 A3.out).mono ?_); (case side1 => repeat (first | exact HR0.out | (with_reducible refine Kd.C_alloc ?_ _) | (with_reducible refine Kd.C_drewN ?_ _) | (with_reducible refine Kd.C_drew ?_))); (case side2 => exact HC0.out); rintro e w43 ⟨v632, v634, rfl, ho0, ho1, hb⟩; refine ⟨_, rfl, ?_⟩; have n0_ := Aside0.mk (Kd.R_lower ho0 (below_size (by repeat (first | (with_reducible first | exact HB.out | apply below_alloc | apply pw_below_drewN | apply below_drew1) | exact HB.out)))); have n1_ := Aside0.mk (Kd.R_lower ho1 (below_size (by repeat (first | (with_reducible first | exact HB.out | apply below_alloc | apply pw_below_drewN | apply below_drew1) | exact HB.out)))); have n2_ := Aside0.mk (below_step (by repeat (first | (with_reducible first | exact HB.out | apply below_alloc | apply pw_below_drewN | apply below_drew1) | exact HB.out)) hb); clear HB; have HO633 := n0_; have HO635 := n1_; have HB := n2_; clear n0_ n1_ n2_; (try clear hb); (try clear hb2); (try clear hk); (try clear hi); (try clear ho0); (try clear ho1); obtain ⟨Ao44, co44, eo44⟩ := Kd.R_slice HO633.out; subst eo44; obtain ⟨Ao45, co45, eo45⟩ := Kd.R_slice HO635.out; subst eo45) | ((with_reducible refine gate_callee (f := 22) rfl ?_); refine goesL_ (some 30) rfl rfl Try.func22 (by kernel_rfl) rfl #[.int .i64 t628, .int .i64 t629, .slice Ao44 t630.length co44, .slice Ao45 t631.length co45] rfl (by (try simp only [List.map_toArray, List.map_cons, List.map_nil]); first | done | rfl | (simp only [List.length_drop, List.length_take]; rfl)) ?_; (with_reducible refine (impl_LinkBound.calls t628 t629 _ _ t630 _ _ t631 t636 _ ?side1 ?side2 ?side3 ?side4 A4.out).mono ?_); (case side1 => repeat (first | exact (Kd.R_reads' HO633.out).2.2 | (with_reducible refine Kd.C_alloc ?_ _) | (with_reducible refine Kd.C_drewN ?_ _) | (with_reducible refine Kd.C_drew ?_))); (case side2 => exact (Kd.R_reads' HO633.out).2.1); (case side3 => repeat (first | exact (Kd.R_reads' HO635.out).2.2 | (with_reducible refine Kd.C_alloc ?_ _) | (with_reducible refine Kd.C_drewN ?_ _) | (with_reducible refine Kd.C_drew ?_))); (case side4 => exact (Kd.R_reads' HO635.out).2.1); rintro e w46 ⟨rfl, hb⟩; refine ⟨_, rfl, ?_⟩; have n0_ := Aside0.mk (Kd.R_below (by (with_reducible repeat (first | apply Kd.R_alloc | apply Kd.R_drewN | apply Kd.R_drew)); exact HO633.out) hb); have n1_ := Aside0.mk (Kd.R_below (by (with_reducible repeat (first | apply Kd.R_alloc | apply Kd.R_drewN | apply Kd.R_drew)); exact HO635.out) hb); have n2_ := Aside0.mk (below_step (by repeat (first | (with_reducible first | exact HB.out | apply below_alloc | apply pw_below_drewN | apply below_drew1) | exact HB.out)) hb); clear HO633; clear HO635; clear HB; have HO633 := n0_; have HO635 := n1_; have HB := n2_; clear n0_ n1_ n2_; (try clear hb); (try clear hb2); (try clear hk); (try clear hi)) | ((with_reducible refine gate_callee (f := 23) rfl ?_); refine goesL_ (some 36) rfl rfl Try.func23 (by kernel_rfl) rfl #[.int .i64 t628, .int .i64 t629, .slice Ao44 t630.length co44, .slice Ao45 t631.length co45] rfl (by (try simp only [List.map_toArray, List.map_cons, List.map_nil]); first | done | rfl | (simp only [List.length_drop, List.length_take]; rfl)) ?_; (with_reducible refine (spec_LinkBound.calls k t628 t629 _ _ t630 _ _ t631 t637 _ ?side1 ?side2 ?side3 ?side4 A5.out).mono ?_); (case side1 => repeat (first | exact (Kd.R_reads' HO633.out).2.2 | (with_reducible refine Kd.C_alloc ?_ _) | (with_reducible refine Kd.C_drewN ?_ _) | (with_reducible refine Kd.C_drew ?_))); (case side2 => exact (Kd.R_reads' HO633.out).2.1); (case side3 => repeat (first | exact (Kd.R_reads' HO635.out).2.2 | (with_reducible refine Kd.C_alloc ?_ _) | (with_reducible refine Kd.C_drewN ?_ _) | (with_reducible refine Kd.C_drew ?_))); (case side4 => exact (Kd.R_reads' HO635.out).2.1); rintro e w47 ⟨rfl, hb⟩; refine ⟨_, rfl, ?_⟩; have n0_ := Aside0.mk (Kd.R_below (by (with_reducible repeat (first | apply Kd.R_alloc | apply Kd.R_drewN | apply Kd.R_drew)); exact HO633.out) hb); have n1_ := Aside0.mk (Kd.R_below (by (with_reducible repeat (first | apply Kd.R_alloc | apply Kd.R_drewN | apply Kd.R_drew)); exact HO635.out) hb); have n2_ := Aside0.mk (below_step (by repeat (first | (with_reducible first | exact HB.out | apply below_alloc | apply pw_below_drewN | apply below_drew1) | exact HB.out)) hb); clear HO633; clear HO635; clear HB; have HO633 := n0_; have HO635 := n1_; have HB := n2_; clear n0_ n1_ n2_; (try clear hb); (try clear hb2); (try clear hk); (try clear hi)) | ((with_reducible refine gate_callee (f := 9) rfl ?_); refine goesL_ (some 40) rfl rfl Try.func9 (by kernel_rfl) rfl #[.slice A0 l0.length c0] rfl (by (try simp only [List.map_toArray, List.map_cons, List.map_nil]); first | done | rfl | (simp only [List.length_drop, List.length_take]; rfl)) ?_; (with_reducible refine (spec_DrawLinkRounds.calls k _ _ l0 t638 t639 t640 t641 _ ?side1 ?side2 A7.out).mono ?_); (case side1 => repeat (first | exact (Kd.C_below HR0.out HB.out) | (with_reducible refine Kd.C_alloc ?_ _) | (with_reducible refine Kd.C_drewN ?_ _) | (with_reducible refine Kd.C_drew ?_))); (case side2 => exact HC0.out); rintro e w48 ⟨v642, v644, v646, rfl, ho0, ho1, ho2, hb⟩; refine ⟨_, rfl, ?_⟩; have n0_ := Aside0.mk (Kd.R_mono (Kd.R_told (Kd.R_told (Kd.R_old (by (with_reducible repeat (first | apply Kd.R_alloc | apply Kd.R_drewN | apply Kd.R_drew)); exact HO633.out) hb) (Kd.R_base ho1)) (Kd.R_base ho2)) (fun _ h_ => h_.1)); have n1_ := Aside0.mk (Kd.R_mono (Kd.R_told (Kd.R_told (Kd.R_old (by (with_reducible repeat (first | apply Kd.R_alloc | apply Kd.R_drewN | apply Kd.R_drew)); exact HO635.out) hb) (Kd.R_base ho1)) (Kd.R_base ho2)) (fun _ h_ => h_.1)); have n2_ := Aside0.mk (Kd.S_lower ho0 (below_size (by repeat (first | (with_reducible first | exact HB.out | apply below_alloc | apply pw_below_drewN | apply below_drew1) | exact HB.out)))); have n3_ := Aside0.mk (Kd.R_lower (Kd.R_new' (Kd.R_new' ho1 (Kd.R_lt (by (with_reducible repeat (first | apply Kd.R_alloc | apply Kd.R_drewN | apply Kd.R_drew)); exact HO633.out))) (Kd.R_lt (by (with_reducible repeat (first | apply Kd.R_alloc | apply Kd.R_drewN | apply Kd.R_drew)); exact HO635.out))) (below_size (by repeat (first | (with_reducible first | exact HB.out | apply below_alloc | apply pw_below_drewN | apply below_drew1) | exact HB.out)))); have n4_ := Aside0.mk (Kd.R_lower (Kd.R_new' (Kd.R_new' ho2 (Kd.R_lt (by (with_reducible repeat (first | apply Kd.R_alloc | apply Kd.R_drewN | apply Kd.R_drew)); exact HO633.out))) (Kd.R_lt (by (with_reducible repeat (first | apply Kd.R_alloc | apply Kd.R_drewN | apply Kd.R_drew)); exact HO635.out))) (below_size (by repeat (first | (with_reducible first | exact HB.out | apply below_alloc | apply pw_below_drewN | apply below_drew1) | exact HB.out)))); have n5_ := Aside0.mk (below_step (by repeat (first | (with_reducible first | exact HB.out | apply below_alloc | apply pw_below_drewN | apply below_drew1) | exact HB.out)) hb); clear HO633; clear HO635; clear HB; have HO633 := n0_; have HO635 := n1_; have HO643 := n2_; have HO645 := n3_; have HO647 := n4_; have HB := n5_; clear n0_ n1_ n2_ n3_ n4_ n5_; (try clear hb); (try clear hb2); (try clear hk); (try clear hi); (try clear ho0); (try clear ho1); (try clear ho2); obtain ⟨Ao49, co49, eo49⟩ := Kd.S_slice HO643.out; subst eo49; obtain ⟨Ao50, co50, eo50⟩ := Kd.R_slice HO645.out; subst eo50; obtain ⟨Ao51, co51, eo51⟩ := Kd.R_slice HO647.out; subst eo51) | ((with_reducible refine gate_callee (f := 16) rfl ?_); refine goesL_ (some 49) rfl rfl Try.func16 (by kernel_rfl) rfl #[.int .i64 t638, .slice Ao49 t639.length co49, .slice Ao50 t640.length co50, .slice Ao51 t641.length co51] rfl (by (try simp only [List.map_toArray, List.map_cons, List.map_nil]); first | done | rfl | (simp only [List.length_drop, List.length_take]; rfl)) ?_; (with_reducible refine (impl_LinkRounds.calls k t638 _ _ t639 _ _ t640 _ _ t641 t648 _ ?side1 ?side2 ?side3 ?side4 ?side5 ?side6 A8.out).mono ?_); (case side1 => repeat (first | exact (Kd.S_reads' HO643.out).2.2 | (with_reducible refine Kd.C_alloc ?_ _) | (with_reducible refine Kd.C_drewN ?_ _) | (with_reducible refine Kd.C_drew ?_))); (case side2 => exact (Kd.S_reads' HO643.out).2.1); (case side3 => repeat (first | exact (Kd.R_reads' HO645.out).2.2 | (with_reducible refine Kd.C_alloc ?_ _) | (with_reducible refine Kd.C_drewN ?_ _) | (with_reducible refine Kd.C_drew ?_))); (case side4 => exact (Kd.R_reads' HO645.out).2.1); (case side5 => repeat (first | exact (Kd.R_reads' HO647.out).2.2 | (with_reducible refine Kd.C_alloc ?_ _) | (with_reducible refine Kd.C_drewN ?_ _) | (with_reducible refine Kd.C_drew ?_))); (case side6 => exact (Kd.R_reads' HO647.out).2.1); rintro e w52 ⟨rfl, hb⟩; refine ⟨_, rfl, ?_⟩; have n0_ := Aside0.mk (Kd.R_below (by (with_reducible repeat (first | apply Kd.R_alloc | apply Kd.R_drewN | apply Kd.R_drew)); exact HO633.out) hb); have n1_ := Aside0.mk (Kd.R_below (by (with_reducible repeat (first | apply Kd.R_alloc | apply Kd.R_drewN | apply Kd.R_drew)); exact HO635.out) hb); have n2_ := Aside0.mk (Kd.S_below (by (with_reducible repeat (first | apply Kd.S_alloc | apply Kd.S_drewN | apply Kd.S_drew)); exact HO643.out) hb); have n3_ := Aside0.mk (Kd.R_below (by (with_reducible repeat (first | apply Kd.R_alloc | apply Kd.R_drewN | apply Kd.R_drew)); exact HO645.out) hb); have n4_ := Aside0.mk (Kd.R_below (by (with_reducible repeat (first | apply Kd.R_alloc | apply Kd.R_drewN | apply Kd.R_drew)); exact HO647.out) hb); have n5_ := Aside0.mk (below_step (by repeat (first | (with_reducible first | exact HB.out | apply below_alloc | apply pw_below_drewN | apply below_drew1) | exact HB.out)) hb); clear HO633; clear HO635; clear HO643; clear HO645; clear HO647; clear HB; have HO633 := n0_; have HO635 := n1_; have HO643 := n2_; have HO645 := n3_; have HO647 := n4_; have HB := n5_; clear n0_ n1_ n2_ n3_ n4_ n5_; (try clear hb); (try clear hb2); (try clear hk); (try clear hi)) | ((with_reducible refine gate_callee (f := 13) rfl ?_); refine goesL_ (some 55) rfl rfl Try.func13 (by kernel_rfl) rfl #[.int .i64 t638, .slice Ao49 t639.length co49, .slice Ao50 t640.length co50, .slice Ao51 t641.length co51] rfl (by (try simp only [List.map_toArray, List.map_cons, List.map_nil]); first | done | rfl | (simp only [List.length_drop, List.length_take]; rfl)) ?_; (with_reducible refine (spec_LinkRounds.calls k t638 _ _ t639 _ _ t640 _ _ t641 t649 _ ?side1 ?side2 ?side3 ?side4 ?side5 ?side6 A9.out).mono ?_); (case side1 => repeat (first | exact (Kd.S_reads' HO643.out).2.2 | (with_reducible refine Kd.C_alloc ?_ _) | (with_reducible refine Kd.C_drewN ?_ _) | (with_reducible refine Kd.C_drew ?_))); (case side2 => exact (Kd.S_reads' HO643.out).2.1); (case side3 => repeat (first | exact (Kd.R_reads' HO645.out).2.2 | (with_reducible refine Kd.C_alloc ?_ _) | (with_reducible refine Kd.C_drewN ?_ _) | (with_reducible refine Kd.C_drew ?_))); (case side4 => exact (Kd.R_reads' HO645.out).2.1); (case side5 => repeat (first | exact (Kd.R_reads' HO647.out).2.2 | (with_reducible refine Kd.C_alloc ?_ _) | (with_reducible refine Kd.C_drewN ?_ _) | (with_reducible refine Kd.C_drew ?_))); (case side6 => exact (Kd.R_reads' HO647.out).2.1); rintro e w53 ⟨rfl, hb⟩; refine ⟨_, rfl, ?_⟩; have n0_ := Aside0.mk (Kd.R_below (by (with_reducible repeat (first | apply Kd.R_alloc | apply Kd.R_drewN | apply Kd.R_drew)); exact HO633.out) hb); have n1_ := Aside0.mk (Kd.R_below (by (with_reducible repeat (first | apply Kd.R_alloc | apply Kd.R_drewN | apply Kd.R_drew)); exact HO635.out) hb); have n2_ := Aside0.mk (Kd.S_below (by (with_reducible repeat (first | apply Kd.S_alloc | apply Kd.S_drewN | apply Kd.S_drew)); exact HO643.out) hb); have n3_ := Aside0.mk (Kd.R_below (by (with_reducible repeat (first | apply Kd.R_alloc | apply Kd.R_drewN | apply Kd.R_drew)); exact HO645.out) hb); have n4_ := Aside0.mk (Kd.R_below (by (with_reducible repeat (first | apply Kd.R_alloc | apply Kd.R_drewN | apply Kd.R_drew)); exact HO647.out) hb); have n5_ := Aside0.mk (below_step (by repeat (first | (with_reducible first | exact HB.out | apply below_alloc | apply pw_below_drewN | apply below_drew1) | exact HB.out)) hb); clear HO633; clear HO635; clear HO643; clear HO645; clear HO647; clear HB; have HO633 := n0_; have HO635 := n1_; have HO643 := n2_; have HO645 := n3_; have HO647 := n4_; have HB := n5_; clear n0_ n1_ n2_ n3_ n4_ n5_; (try clear hb); (try clear hb2); (try clear hk); (try clear hi)))
        go_ret
        exact ⟨by first | rfl | (simp [errW_none, errW_some] <;> rfl) | (simp [*, errW_none, errW_some] <;> rfl), by repeat (first | (with_reducible first | exact HB.out | apply below_alloc | apply pw_below_drewN | apply below_drew1) | exact HB.out)⟩
    · rw [if_neg c6] at H
      have c6b0 : (t636 == t637) = false := beq_eq_false_iff_ne.mpr c6
      have c6b1 : (t636 != t637) = true := bne_iff_ne.mpr c6
      obtain rfl := Option.some.inj H
      go_enter Try.func7, Try.ntmps7
      go_wp2_with (first | ((with_reducible refine gate_callee (f := 21) rfl ?_); refine goesL_ (some 21) rfl rfl Try.func21 (by kernel_rfl) rfl #[.slice A0 l0.length c0] rfl (by (try simp only [List.map_toArray, List.map_cons, List.map_nil]); first | done | rfl | (simp only [List.length_drop, List.length_take]; rfl)) ?_; (with_reducible refine (spec_DrawLinkBound.calls k _ _ l0 t628 t629 t630 t631 _ ?side1 ?side2 A3.out).mono ?_); (case side1 => repeat (first | exact HR0.out | (with_reducible refine Kd.C_alloc ?_ _) | (with_reducible refine Kd.C_drewN ?_ _) | (with_reducible refine Kd.C_drew ?_))); (case side2 => exact HC0.out); rintro e w54 ⟨v632, v634, rfl, ho0, ho1, hb⟩; refine ⟨_, rfl, ?_⟩; have n0_ := Aside0.mk (Kd.R_lower ho0 (below_size (by repeat (first | (with_reducible first | exact HB.out | apply below_alloc | apply pw_below_drewN | apply below_drew1) | exact HB.out)))); have n1_ := Aside0.mk (Kd.R_lower ho1 (below_size (by repeat (first | (with_reducible first | exact HB.out | apply below_alloc | apply pw_below_drewN | apply below_drew1) | exact HB.out)))); have n2_ := Aside0.mk (below_step (by repeat (first | (with_reducible first | exact HB.out | apply below_alloc | apply pw_below_drewN | apply below_drew1) | exact HB.out)) hb); clear HB; have HO633 := n0_; have HO635 := n1_; have HB := n2_; clear n0_ n1_ n2_; (try clear hb); (try clear hb2); (try clear hk); (try clear hi); (try clear ho0); (try clear ho1); obtain ⟨Ao55, co55, eo55⟩ := Kd.R_slice HO633.out; subst eo55; obtain ⟨Ao56, co56, eo56⟩ := Kd.R_slice HO635.out; subst eo56) | ((with_reducible refine gate_callee (f := 22) rfl ?_); refine goesL_ (some 30) rfl rfl Try.func22 (by kernel_rfl) rfl #[.int .i64 t628, .int .i64 t629, .slice Ao55 t630.length co55, .slice Ao56 t631.length co56] rfl (by (try simp only [List.map_toArray, List.map_cons, List.map_nil]); first | done | rfl | (simp only [List.length_drop, List.length_take]; rfl)) ?_; (with_reducible refine (impl_LinkBound.calls t628 t629 _ _ t630 _ _ t631 t636 _ ?side1 ?side2 ?side3 ?side4 A4.out).mono ?_); (case side1 => repeat (first | exact (Kd.R_reads' HO633.out).2.2 | (with_reducible refine Kd.C_alloc ?_ _) | (with_reducible refine Kd.C_drewN ?_ _) | (with_reducible refine Kd.C_drew ?_))); (case side2 => exact (Kd.R_reads' HO633.out).2.1); (case side3 => repeat (first | exact (Kd.R_reads' HO635.out).2.2 | (with_reducible refine Kd.C_alloc ?_ _) | (with_reducible refine Kd.C_drewN ?_ _) | (with_reducible refine Kd.C_drew ?_))); (case side4 => exact (Kd.R_reads' HO635.out).2.1); rintro e w57 ⟨rfl, hb⟩; refine ⟨_, rfl, ?_⟩; have n0_ := Aside0.mk (Kd.R_below (by (with_reducible repeat (first | apply Kd.R_alloc | apply Kd.R_drewN | apply Kd.R_drew)); exact HO633.out) hb); have n1_ := Aside0.mk (Kd.R_below (by (with_reducible repeat (first | apply Kd.R_alloc | apply Kd.R_drewN | apply Kd.R_drew)); exact HO635.out) hb); have n2_ := Aside0.mk (below_step (by repeat (first | (with_reducible first | exact HB.out | apply below_alloc | apply pw_below_drewN | apply below_drew1) | exact HB.out)) hb); clear HO633; clear HO635; clear HB; have HO633 := n0_; have HO635 := n1_; have HB := n2_; clear n0_ n1_ n2_; (try clear hb); (try clear hb2); (try clear hk); (try clear hi)) | ((with_reducible refine gate_callee (f := 23) rfl ?_); refine goesL_ (some 36) rfl rfl Try.func23 (by kernel_rfl) rfl #[.int .i64 t628, .int .i64 t629, .slice Ao55 t630.length co55, .slice Ao56 t631.length co56] rfl (by (try simp only [List.map_toArray, List.map_cons, List.map_nil]); first | done | rfl | (simp only [List.length_drop, List.length_take]; rfl)) ?_; (with_reducible refine (spec_LinkBound.calls k t628 t629 _ _ t630 _ _ t631 t637 _ ?side1 ?side2 ?side3 ?side4 A5.out).mono ?_); (case side1 => repeat (first | exact (Kd.R_reads' HO633.out).2.2 | (with_reducible refine Kd.C_alloc ?_ _) | (with_reducible refine Kd.C_drewN ?_ _) | (with_reducible refine Kd.C_drew ?_))); (case side2 => exact (Kd.R_reads' HO633.out).2.1); (case side3 => repeat (first | exact (Kd.R_reads' HO635.out).2.2 | (with_reducible refine Kd.C_alloc ?_ _) | (with_reducible refine Kd.C_drewN ?_ _) | (with_reducible refine Kd.C_drew ?_))); (case side4 => exact (Kd.R_reads' HO635.out).2.1); rintro e w58 ⟨rfl, hb⟩; refine ⟨_, rfl, ?_⟩; have n0_ := Aside0.mk (Kd.R_below (by (with_reducible repeat (first | apply Kd.R_alloc | apply Kd.R_drewN | apply Kd.R_drew)); exact HO633.out) hb); have n1_ := Aside0.mk (Kd.R_below (by (with_reducible repeat (first | apply Kd.R_alloc | apply Kd.R_drewN | apply Kd.R_drew)); exact HO635.out) hb); have n2_ := Aside0.mk (below_step (by repeat (first | (with_reducible first | exact HB.out | apply below_alloc | apply pw_below_drewN | apply below_drew1) | exact HB.out)) hb); clear HO633; clear HO635; clear HB; have HO633 := n0_; have HO635 := n1_; have HB := n2_; clear n0_ n1_ n2_; (try clear hb); (try clear hb2); (try clear hk); (try clear hi)))
      go_ret
      exact ⟨by first | rfl | (simp [errW_none, errW_some] <;> rfl) | (simp [*, errW_none, errW_some] <;> rfl), by repeat (first | (with_reducible first | exact HB.out | apply below_alloc | apply pw_below_drewN | apply below_drew1) | exact HB.out)⟩

/-- THE ONE PURE STATEMENT of laws_FnLinkLive: yours. -/
def laws_FnLinkLive.Pure : Prop := ∀ (l0 : List Int), l0.length ≤ maxLen → l0.length * 1 ≤ 140737488351232 → (∀ x ∈ l0, (Lit.int .u8 x).wf = true) → ∃ k, laws_FnLinkLive.f k l0 = some true
theorem laws_FnLinkLive.walk (P : laws_FnLinkLive.Pure) (a0 : Option Addr) (len0 cap0 : Nat) (z0 : List Int) (w : World) (w0 : (a0 = none ∧ len0 = 0 ∧ cap0 = 0 ∧ z0 = []) ∨ ∃ x, a0 = some x ∧ len0 ≤ cap0 ∧ cap0 ≤ maxLen ∧ z0.length = cap0 ∧ (∀ i, i < z0.length → w.cell? (x.add i) = some (.int .u8 (z0.getD i 0))) ∧ ∀ n ∈ z0, (Lit.int .u8 n).wf = true) (y0 : len0 * 1 ≤ 140737488351232) :
    Calls Try.prog 7 #[.slice a0 len0 cap0] w fun e w' => e = .returned (.bool true) ∧ Below w.heap.size w w' := by
  obtain ⟨l0, rfl, hr0, hm0, hw0, hc0⟩ := ReadsInt.ofRowC w0
  obtain ⟨k, h⟩ := P l0 hm0 y0 hw0
  refine (laws_FnLinkLive.calls k _ _ l0 true w (Kd.C_of_reads (d := (0 : Int)) (h1 := fun _ => rfl) hr0) hc0 h).mono ?_
  rintro e w' ⟨rfl, hd⟩
  exact ⟨rfl, hd⟩

end Go.Proofs.Ytookabfmbimnoaa.Lk

namespace Go.Proofs.Ytookabfmbimnoaa.Lk
open Go.RowKit Go.Proofs.YtookabfmbimnoaaW.PrintWords Go.Proofs.YtookabfmbimnoaaW.PrintLast Go.Proofs.YtookabfmbimnoaaW.PrintMore
set_option linter.unusedVariables false
set_option linter.unusedSimpArgs false

/-- Ahead of a round (and behind it): what came is the front of the list, and reaches from what the sender knows to a window further at most. -/
structure LInv (w : Nat) (list : List (List Int)) (st : LSt) : Prop where
  lo : st.kn ≤ st.got.length
  hi : st.got.length ≤ min list.length (st.kn + w)
  front : st.got = list.take st.got.length
  r1 : st.rounds ≤ st.s1
  r2 : st.s2 = st.rounds
/-- In the midst of a round's arrivals. -/
theorem recv1_front {w : Nat} (hw : w ≤ 8) {list : List (List Int)} {kn : Nat} {fs : List Int} {got : List (List Int)} {j : Int} (h0 : 0 ≤ j) (h1 : j < (sentN w list.length kn : Nat)) (hlo : kn ≤ got.length) (hhi : got.length ≤ min list.length (kn + w)) (hf : got = list.take got.length) :
    got.length ≤ (recv1 list kn fs got j).length ∧ (recv1 list kn fs got j).length ≤ min list.length (kn + w) ∧ recv1 list kn fs got j = list.take (recv1 list kn fs got j).length ∧ (fateN fs j.toNat ≠ 4 → got.length = kn + j.toNat → (recv1 list kn fs got j).length = got.length + 1) := by
  obtain ⟨i, rfl⟩ := Int.eq_ofNat_of_zero_le h0
  unfold sentN at h1
  unfold recv1
  simp only [Int.toNat_natCast]
  by_cases h4 : fateN fs i = 4
  · rw [if_pos h4]
    exact ⟨Nat.le_refl _, hhi, hf, fun h => absurd h4 h⟩
  · rw [if_neg h4]
    by_cases hq : (kn + i) % 16 = got.length % 16
    · rw [if_pos hq]
      have hi : kn + i = got.length := by omega
      have hlt : got.length < list.length := by omega
      refine ⟨by simp, by simp; omega, ?_, fun _ _ => by simp⟩
      rw [List.length_append, List.length_singleton, List.take_succ_eq_append_getElem hlt, ← hf, hi, List.getD_eq_getElem?_getD, List.getElem?_eq_getElem hlt]
      rfl
    · rw [if_neg hq]
      exact ⟨Nat.le_refl _, hhi, hf, fun _ he => absurd (by rw [he]) hq⟩
theorem recvs_front {w : Nat} (hw : w ≤ 8) {list : List (List Int)} {kn : Nat} {fs : List Int} : ∀ (l : List Int) (got : List (List Int)), (∀ j ∈ l, 0 ≤ j ∧ j < (sentN w list.length kn : Nat)) → kn ≤ got.length → got.length ≤ min list.length (kn + w) → got = list.take got.length →
    got.length ≤ (l.foldl (recv1 list kn fs) got).length ∧ (l.foldl (recv1 list kn fs) got).length ≤ min list.length (kn + w) ∧ l.foldl (recv1 list kn fs) got = list.take (l.foldl (recv1 list kn fs) got).length
  | [], got, hj, hlo, hhi, hf => ⟨Nat.le_refl _, hhi, hf⟩
  | j :: l, got, hj, hlo, hhi, hf => by
    obtain ⟨a, b, c, _⟩ := recv1_front hw (fs := fs) (hj j (by simp)).1 (hj j (by simp)).2 hlo hhi hf
    have ih := recvs_front hw (fs := fs) l (recv1 list kn fs got j) (fun j h => hj j (by simp [h])) (by omega) b c
    rw [List.foldl_cons]
    exact ⟨by omega, ih.2⟩
theorem ackFind_hits {w : Nat} (hw : w ≤ 8) {kn g : Nat} (h0 : kn ≤ g) (h1 : g ≤ kn + w) : ackFind kn w (g % 16) = g := by
  have := ackFind_hit (kn := kn) (w := w) (q := g % 16) (d := g - kn) (by omega) (by rw [show kn + (g - kn) = g by omega]) (fun e he => by omega)
  omega
theorem acks_known {w : Nat} (hw : w ≤ 8) {g : Nat} {gs : List Int} : ∀ (l : List Int) (kn : Nat), kn ≤ g → g ≤ kn + w → l.foldl (ack1 w (g % 16) gs) kn = kn ∨ l.foldl (ack1 w (g % 16) gs) kn = g
  | [], kn, h0, h1 => .inl rfl
  | j :: l, kn, h0, h1 => by
    rw [List.foldl_cons]
    by_cases h4 : fateN gs j.toNat = 4
    · rw [show ack1 w (g % 16) gs kn j = kn by unfold ack1; rw [if_pos h4]]
      exact acks_known hw l kn h0 h1
    · rw [show ack1 w (g % 16) gs kn j = g by unfold ack1; rw [if_neg h4]; exact ackFind_hits hw h0 h1]
      rcases acks_known hw (gs := gs) l g (Nat.le_refl _) (by omega) with h | h <;> exact .inr h
theorem stepL_inv {w : Nat} (hw : w ≤ 8) (hw1 : 1 ≤ w) {list : List (List Int)} {there back : List Int} {st : LSt} (hk : st.kn < list.length) (h : LInv w list st) : LInv w list (stepL w list there back st) ∧ st.kn ≤ (stepL w list there back st).kn := by
  have hr := recvs_front hw (fs := there.drop st.s1) (arrivals (there.drop st.s1) (sentN w list.length st.kn)) st.got (arrivals_mem _ _) h.lo h.hi h.front
  have hlo := h.lo
  have ha := acks_known hw (g := ((arrivals (there.drop st.s1) (sentN w list.length st.kn)).foldl (recv1 list st.kn (there.drop st.s1)) st.got).length) (gs := back.drop st.s2) (arrivals (back.drop st.s2) 1) st.kn (by omega) (by omega)
  have hn : 1 ≤ sentN w list.length st.kn := by unfold sentN; omega
  have hr1 := h.r1
  have hr2 := h.r2
  unfold stepL
  simp only
  generalize (arrivals (there.drop st.s1) (sentN w list.length st.kn)).foldl (recv1 list st.kn (there.drop st.s1)) st.got = got at hr ha
  generalize (arrivals (back.drop st.s2) 1).foldl (ack1 w (got.length % 16) (back.drop st.s2)) st.kn = kn at ha
  refine ⟨⟨?_, ?_, hr.2.2, ?_, ?_⟩, ?_⟩
  all_goals (first | omega | (simp only; omega))
theorem arrivals_clear (n : Nat) : arrivals [] n = (List.range n).map (fun i : Nat => (i : Int)) := by
  have he : arrList [] n = (List.range n).map (fun i : Nat => (2 * (i : Int), (i : Int))) := by
    induction n with
    | zero => rfl
    | succ n ih => rw [arrList_succ, ih, List.range_succ, List.map_append]; rfl
  have hs : sortA (arrList [] n) = arrList [] n := by
    rw [sortA_merge]
    refine List.mergeSort_of_pairwise ?_
    rw [he, List.pairwise_map]
    refine List.Pairwise.imp ?_ List.pairwise_lt_range
    intro a b hab
    rw [lt_cmpA]
    simp
    omega
  unfold arrivals
  rw [hs, he, List.map_map]
  rfl
theorem recvs_clear {w : Nat} (hw : w ≤ 8) {list : List (List Int)} {kn : Nat} : ∀ (m i : Nat) (got : List (List Int)), i + m = sentN w list.length kn → kn + i ≤ max got.length (kn + i) → kn + i ≤ got.length → got.length ≤ min list.length (kn + w) → got = list.take got.length →
    (((List.range' i m).map (fun i : Nat => (i : Int))).foldl (recv1 list kn []) got).length ≥ kn + i + m
  | 0, i, got, hi, _, h1, h2, h3 => by simp; omega
  | m + 1, i, got, hi, _, h1, h2, h3 => by
    have hf4 : fateN [] ((i : Int)).toNat ≠ 4 := by simp [fateN]
    obtain ⟨a, b, c, d⟩ := recv1_front hw (fs := []) (list := list) (kn := kn) (got := got) (j := (i : Int)) (by omega) (by omega) (by omega) h2 h3
    have h5 : kn + (i + 1) ≤ (recv1 list kn [] got (i : Int)).length := by
      rcases Nat.lt_or_ge (kn + i) got.length with h | h
      · omega
      · have := d hf4 (by rw [Int.toNat_natCast]; omega)
        omega
    have ih := recvs_clear hw m (i + 1) (recv1 list kn [] got (i : Int)) (by omega) (by omega) h5 b c
    rw [List.range'_succ, List.map_cons, List.foldl_cons]
    omega
theorem stepL_clear {w : Nat} (hw : w ≤ 8) {list : List (List Int)} {there back : List Int} {st : LSt} (h : LInv w list st) (h1 : there.length ≤ st.s1) (h2 : back.length ≤ st.s2) : (stepL w list there back st).kn = min list.length (st.kn + w) := by
  have hlo := h.lo
  have hhi := h.hi
  have hd1 : there.drop st.s1 = [] := List.drop_eq_nil_of_le h1
  have hd2 : back.drop st.s2 = [] := List.drop_eq_nil_of_le h2
  have hc := recvs_clear hw (sentN w list.length st.kn) 0 st.got (by omega) (by omega) (by omega) hhi h.front
  have hr := recvs_front hw (fs := []) ((List.range (sentN w list.length st.kn)).map (fun i : Nat => (i : Int))) st.got (by
    intro j hj
    simp only [List.mem_map, List.mem_range] at hj
    obtain ⟨i, hi, rfl⟩ := hj
    omega) hlo hhi h.front
  rw [← List.range_eq_range'] at hc
  unfold stepL
  rw [hd1, hd2, arrivals_clear, arrivals_clear]
  simp only
  generalize ((List.range (sentN w list.length st.kn)).map (fun i : Nat => (i : Int))).foldl (recv1 list st.kn []) st.got = got at hc hr
  have hg : got.length = min list.length (st.kn + w) := by unfold sentN at hc; omega
  show ack1 w (got.length % 16) [] st.kn ((0 : Nat) : Int) = _
  unfold ack1
  rw [if_neg (by simp [fateN]), ackFind_hits hw (by omega) (by omega), hg]
def ceilN (a w : Nat) : Nat := (a + w - 1) / w
theorem ceilN_mono {a b : Nat} (w : Nat) (h : a ≤ b) : ceilN a w ≤ ceilN b w := Nat.div_le_div_right (by omega)
theorem ceilN_step {a w : Nat} (hw : 1 ≤ w) (ha : 1 ≤ a) : ceilN (a - w) w + 1 ≤ ceilN a w := by
  unfold ceilN
  rcases Nat.lt_or_ge a w with h | h
  · rw [show a - w = 0 by omega, show 0 + w - 1 = w - 1 by omega, Nat.div_eq_of_lt (by omega)]
    rw [show a + w - 1 = (a - 1) + w by omega, Nat.add_div_right _ (by omega)]
    exact Nat.succ_le_succ (Nat.zero_le _)
  · rw [show a + w - 1 = (a - w + w - 1) + w by omega, Nat.add_div_right _ (by omega)]
    omega
theorem loopL_ends {w : Nat} (hw : w ≤ 8) (hw1 : 1 ≤ w) {list : List (List Int)} {there back : List Int} : ∀ (m : Nat) (st : LSt), LInv w list st → (max there.length back.length - st.rounds) + ceilN (list.length - st.kn) w ≤ m →
    list.length ≤ (loopL w list there back m st).kn ∧ (loopL w list there back m st).rounds ≤ st.rounds + ((max there.length back.length - st.rounds) + ceilN (list.length - st.kn) w)
  | 0, st, h, hm => by
    rw [loopL]
    refine ⟨?_, by omega⟩
    rcases Nat.lt_or_ge st.kn list.length with hk | hk
    · have := ceilN_step (a := list.length - st.kn) hw1 (by omega)
      omega
    · exact hk
  | m + 1, st, h, hm => by
    rcases Nat.lt_or_ge st.kn list.length with hk | hk
    · rw [loopL_go m hk]
      obtain ⟨hi, hkn⟩ := stepL_inv hw hw1 (there := there) (back := back) hk h
      have hrd : (stepL w list there back st).rounds = st.rounds + 1 := rfl
      have h1 := h.r1
      have h2 := h.r2
      have hstep := ceilN_step (a := list.length - st.kn) hw1 (by omega)
      rcases Nat.lt_or_ge st.rounds (max there.length back.length) with hr | hr
      · have hmono := ceilN_mono w (show list.length - (stepL w list there back st).kn ≤ list.length - st.kn by omega)
        have ih := loopL_ends hw hw1 (there := there) (back := back) m _ hi (by omega)
        exact ⟨ih.1, by omega⟩
      · have hc := stepL_clear hw h (there := there) (back := back) (by omega) (by omega)
        have hmono := ceilN_mono w (show list.length - (stepL w list there back st).kn ≤ (list.length - st.kn) - w by omega)
        have ih := loopL_ends hw hw1 (there := there) (back := back) m _ hi (by omega)
        exact ⟨ih.1, by omega⟩
    · rw [loopL_stop (m + 1) (by omega)]
      exact ⟨hk, by omega⟩
theorem linv0 (w : Nat) (list : List (List Int)) : LInv w list ⟨[], 0, 0, 0, 0⟩ := ⟨by simp, by simp, by simp, by simp, rfl⟩
theorem runL_ends {w : Nat} (hw : w ≤ 8) (hw1 : 1 ≤ w) {list : List (List Int)} {there back : List Int} {m : Nat} (hm : max there.length back.length + ceilN list.length w ≤ m) :
    list.length ≤ (runL w list there back m).kn ∧ (runL w list there back m).rounds ≤ max there.length back.length + ceilN list.length w := by
  have h := loopL_ends hw hw1 (there := there) (back := back) m ⟨[], 0, 0, 0, 0⟩ (linv0 w list) (by simpa using hm)
  simpa [runL] using h
end Go.Proofs.Ytookabfmbimnoaa.Lk

namespace Go.Proofs.Ytookabfmbimnoaa.Lk
open Go.RowKit Go.Proofs.YtookabfmbimnoaaW.PrintWords Go.Proofs.YtookabfmbimnoaaW.PrintLast Go.Proofs.YtookabfmbimnoaaW.PrintMore
set_option linter.unusedVariables false
set_option linter.unusedSimpArgs false

theorem i64_xor_pos (a b : Int) (h0 : 0 ≤ a) (h1 : a < 4611686018427387904) (h2 : 0 ≤ b) (h3 : b < 4611686018427387904) : 0 ≤ Go.bits .xor .i64 a b := by
  have key : (BitVec.ofInt 64 a ^^^ BitVec.ofInt 64 b).toNat < 2 ^ 62 := by
    rw [BitVec.toNat_xor, BitVec.toNat_ofInt, BitVec.toNat_ofInt]
    exact Nat.xor_lt_two_pow (by omega) (by omega)
  show 0 ≤ IntKind.i64.wrap ((BitVec.ofInt 64 a ^^^ BitVec.ofInt 64 b).toNat : Nat)
  rw [IntKind.wrap_i64]
  omega
structure SrcOk (b : List Int) : Prop where
  len : b.length ≤ 2000
  byt : ∀ x ∈ b, byteOk x
theorem rd_byte {b : List Int} (h : SrcOk b) (i : Int) : 0 ≤ rd b i ∧ rd b i ≤ 255 := by
  show 0 ≤ b.getD i.toNat 0 ∧ b.getD i.toNat 0 ≤ 255
  by_cases hi : i.toNat < b.length
  · rw [List.getD_eq_getElem?_getD, List.getElem?_eq_getElem hi]
    exact h.byt _ (List.getElem_mem hi)
  · rw [List.getD_eq_getElem?_getD, List.getElem?_eq_none (by omega)]
    simp
theorem tmod_ok (x n : Int) (h0 : 0 ≤ x) (h1 : 1 ≤ n) : 0 ≤ Int.tmod x n ∧ Int.tmod x n < n := by
  rw [Int.tmod_eq_emod_of_nonneg h0]
  exact ⟨Int.emod_nonneg _ (by omega), Int.emod_lt_of_pos _ (by omega)⟩
theorem pick_ok {b : List Int} (hb : SrcOk b) (k : Nat) (hk : 1 ≤ k) (p n : Int) (h0 : 0 ≤ p) (h1 : p ≤ 1000000) (hn : n ≤ 1000000) : ∃ v, spec_l21Rd_pick.f k b p n = some (v, p + 1) ∧ 0 ≤ v ∧ (1 ≤ n → v < n) := by
  obtain ⟨k, rfl⟩ : ∃ j, k = j + 1 := ⟨k - 1, by omega⟩
  have e1 : wrap64 (p + 1) = p + 1 := w64 _ (by omega)
  unfold spec_l21Rd_pick.f
  rw [e1]
  by_cases hn1 : n < 1
  · rw [if_pos hn1, spec_l21Rd_pick.j0, if_pos rfl]
    exact ⟨0, rfl, Int.le_refl _, fun h => absurd h (by omega)⟩
  rw [if_neg hn1, spec_l21Rd_pick.j0]
  by_cases hl : (b.length : Int) = 0
  · rw [hl, if_pos (by rfl)]
    exact ⟨0, rfl, Int.le_refl _, fun h => by omega⟩
  have hlb := hb.len
  have hl1 : 1 ≤ (b.length : Int) := by omega
  rw [if_neg (by simpa using hl)]
  have e2 : wrap64 (p + 1 - 1) = p := by rw [w64 _ (by omega)]; omega
  simp only [e2]
  by_cases hp : p < (b.length : Int)
  · have hr := rd_byte hb p
    rw [if_pos hp, if_pos h0, if_neg (by omega), w64 (rd b p) (by omega)]
    have ht := tmod_ok (rd b p) n hr.1 (by omega)
    exact ⟨_, rfl, ht.1, fun _ => ht.2⟩
  · rw [if_neg hp, if_neg hl]
    have t1 := tmod_ok p (b.length : Int) h0 hl1
    have e3 : wrap64 (p * 7) = p * 7 := w64 _ (by omega)
    have e4 : wrap64 (p * 7 + 3) = p * 7 + 3 := w64 _ (by omega)
    have t2 := tmod_ok (p * 7 + 3) (b.length : Int) (by omega) hl1
    rw [e3, e4, if_pos t1.1, if_pos t1.2, if_pos t2.1, if_pos t2.2, if_neg (by omega)]
    have r1 := rd_byte hb (Int.tmod p (b.length : Int))
    have r2 := rd_byte hb (Int.tmod (p * 7 + 3) (b.length : Int))
    have hq : Int.tdiv p (b.length : Int) = p / (b.length : Int) := Int.tdiv_eq_ediv_of_nonneg h0
    have q0 : 0 ≤ p / (b.length : Int) := Int.ediv_nonneg h0 (by omega)
    have q1 : p / (b.length : Int) ≤ p := Int.ediv_le_self _ h0
    rw [hq]
    generalize rd b (Int.tmod p (b.length : Int)) = u at r1
    generalize rd b (Int.tmod (p * 7 + 3) (b.length : Int)) = v at r2
    generalize p / (b.length : Int) = q at q0 q1
    rw [w64 u (by omega), w64 v (by omega), w64 (u * 131) (by omega), w64 (v * 1117) (by omega), w64 (u * 131 + v * 1117) (by omega), w64 (p * 29) (by omega), w64 (u * 131 + v * 1117 + p * 29) (by omega), w64 q (by omega), w64 (q * 53) (by omega), w64 (u * 131 + v * 1117 + p * 29 + q * 53) (by omega)]
    have hx0 : 0 ≤ u * 131 + v * 1117 + p * 29 + q * 53 := by omega
    have hx1 : u * 131 + v * 1117 + p * 29 + q * 53 ≤ 1000000000 := by omega
    generalize u * 131 + v * 1117 + p * 29 + q * 53 = x at hx0 hx1
    have hdv : Int.tdiv x 64 = x / 64 := Int.tdiv_eq_ediv_of_nonneg hx0
    rw [hdv, w64 (x / 64) (by omega)]
    have hxx := i64_xor_pos x (x / 64) hx0 (by omega) (by omega) (by omega)
    have ht := tmod_ok _ n hxx (by omega)
    exact ⟨_, rfl, ht.1, fun _ => ht.2⟩
theorem num_ok {b : List Int} (hb : SrcOk b) (k : Nat) (hk : 1 ≤ k) (p : Int) (l : List Int) (h0 : 0 ≤ p) (h1 : p ≤ 1000000) (hl : 1 ≤ l.length) (hl2 : l.length ≤ 1000) : ∃ v, spec_l21Rd_num.f k b p l = some (v, p + 1) ∧ v ∈ l := by
  obtain ⟨v, hv, hv0, hv1⟩ := pick_ok hb k hk p (l.length : Int) h0 h1 (by omega)
  have hvl := hv1 (by omega)
  unfold spec_l21Rd_num.f
  rw [hv, Option.bind_some, if_pos hv0, if_pos hvl]
  refine ⟨_, rfl, ?_⟩
  have hi : v.toNat < l.length := by omega
  show l.getD v.toNat 0 ∈ l
  rw [List.getD_eq_getElem?_getD, List.getElem?_eq_getElem hi]
  exact List.getElem_mem hi
theorem some_ok0 {b : List Int} (hb : SrcOk b) (n : Nat) (hn : n ≤ 100) : ∀ (m i k : Nat) (acc : List Int) (p : Int), i + m = n → m + 2 ≤ k → acc.length = i → (∀ x ∈ acc, byteOk x) → 0 ≤ p → p + 2 * m ≤ 1000000 →
    ∃ bs q, spec_l1Some.l0 k (n : Int) acc (i : Int) b p = some (bs, q) ∧ p ≤ q ∧ q ≤ p + 2 * m ∧ bs.length = n ∧ ∀ x ∈ bs, byteOk x
  | m, i, 0, acc, p, hi, hk, ha, hb2, h0, h1 => by omega
  | 0, i, k + 1, acc, p, hi, hk, ha, hb2, h0, h1 => ⟨acc, p, by rw [spec_l1Some.l0, if_neg (by omega)], by omega, by omega, by omega, hb2⟩
  | m + 1, i, k + 1, acc, p, hi, hk, ha, hb2, h0, h1 => by
    have e : wrap64 ((i : Int) + 1) = ((i + 1 : Nat) : Int) := by rw [w64 _ (by omega)]; simp
    obtain ⟨v, hv, _, _⟩ := pick_ok hb k (by omega) p 4 h0 (by omega) (by omega)
    have hacc : ∀ y, ∀ x ∈ acc ++ [y % 256], byteOk x := by
      intro y x hx
      rcases List.mem_append.1 hx with hx | hx
      · exact hb2 x hx
      · rw [List.mem_singleton] at hx
        subst hx
        exact ⟨by omega, by omega⟩
    rw [spec_l1Some.l0, if_pos (by omega), hv, Option.bind_some]
    simp only
    by_cases hv0 : v = 0
    · obtain ⟨u, hu, _⟩ := num_ok hb k (by omega) (p + 1) ([0, 1, 125, 126, 127, 128, 255, 94, 93] : List Int) (by omega) (by omega) (by simp) (by simp)
      obtain ⟨bs, q, h, hq1, hq2, hl, hbs⟩ := some_ok0 hb n hn m (i + 1) k (acc ++ [u % 256]) (p + 1 + 1) (by omega) (by omega) (by simp; omega) (hacc u) (by omega) (by omega)
      rw [if_pos hv0, hu, Option.bind_some, if_pos (by omega), e]
      exact ⟨bs, q, h, by omega, by omega, hl, hbs⟩
    · obtain ⟨u, hu, _⟩ := pick_ok hb k (by omega) (p + 1) 256 (by omega) (by omega) (by omega)
      obtain ⟨bs, q, h, hq1, hq2, hl, hbs⟩ := some_ok0 hb n hn m (i + 1) k (acc ++ [u % 256]) (p + 1 + 1) (by omega) (by omega) (by simp; omega) (hacc u) (by omega) (by omega)
      rw [if_neg hv0, hu, Option.bind_some, if_pos (by omega), e]
      exact ⟨bs, q, h, by omega, by omega, hl, hbs⟩
theorem some_ok {b : List Int} (hb : SrcOk b) (n : Nat) (hn : n ≤ 100) (k : Nat) (hk : n + 2 ≤ k) (p : Int) (h0 : 0 ≤ p) (h1 : p + 2 * n ≤ 1000000) : ∃ bs q, spec_l1Some.f k b p (n : Int) = some (bs, q) ∧ p ≤ q ∧ q ≤ p + 2 * n ∧ bs.length = n ∧ ∀ x ∈ bs, byteOk x :=
  some_ok0 hb n hn n 0 k [] p (by omega) hk rfl (by simp) h0 h1
theorem sent_ok0 {b : List Int} (hb : SrcOk b) : ∀ (m k : Nat) (acc : List (List Int)) (p : Int), m ≤ 100 → m + 20 ≤ k → acc.length + m ≤ 1000 → bytesOk acc = true → 0 ≤ p → p + 9 * m ≤ 1000000 →
    ∃ l q, spec_l4Sent.l0 k acc (m : Int) b p = some (l, q) ∧ p ≤ q ∧ q ≤ p + 9 * m ∧ l.length = acc.length + m ∧ bytesOk l = true
  | m, 0, acc, p, hm, hk, ha, hb2, h0, h1 => by omega
  | 0, k + 1, acc, p, hm, hk, ha, hb2, h0, h1 => ⟨acc, p, by rw [spec_l4Sent.l0, if_neg (by omega)], by omega, by omega, by omega, hb2⟩
  | m + 1, k + 1, acc, p, hm, hk, ha, hb2, h0, h1 => by
    have e : wrap64 (((m + 1 : Nat) : Int) - 1) = (m : Int) := by rw [w64 _ (by omega)]; omega
    obtain ⟨v, hv, hvm⟩ := num_ok hb k (by omega) p ([1, 2, 0, 4] : List Int) h0 (by omega) (by simp) (by simp)
    have hvb : 0 ≤ v ∧ v ≤ 4 := by
      simp only [List.mem_cons, List.not_mem_nil, or_false] at hvm
      omega
    obtain ⟨n, rfl⟩ := Int.eq_ofNat_of_zero_le hvb.1
    obtain ⟨bs, q, hs, hq1, hq2, hl, hbs⟩ := some_ok hb n (by omega) k (by omega) (p + 1) (by omega) (by omega)
    have hacc : bytesOk (acc ++ [bs]) = true := by
      unfold bytesOk at hb2 ⊢
      rw [List.all_append, hb2]
      simp only [List.all_cons, List.all_nil, Bool.and_true, Bool.true_and, List.all_eq_true, Bool.and_eq_true, decide_eq_true_eq]
      exact hbs
    obtain ⟨l, q2, h, hq3, hq4, hl2, hbl⟩ := sent_ok0 hb m k (acc ++ [bs]) q (by omega) (by omega) (by simp; omega) hacc (by omega) (by omega)
    rw [spec_l4Sent.l0, if_pos (by omega), hv, Option.bind_some]
    simp only
    rw [hs, Option.bind_some]
    simp only
    rw [if_pos (by omega), e]
    exact ⟨l, q2, h, by omega, by omega, by rw [hl2]; simp; omega, hbl⟩
theorem sent_ok {b : List Int} (hb : SrcOk b) (k : Nat) (hk : 100 ≤ k) (p : Int) (h0 : 0 ≤ p) (h1 : p ≤ 100000) : ∃ l q, spec_l4Sent.f k b p = some (l, q) ∧ p ≤ q ∧ q ≤ p + 200 ∧ l.length ≤ 14 ∧ bytesOk l = true := by
  obtain ⟨v, hv, hvm⟩ := num_ok hb k (by omega) p ([3, 5, 0, 8, 1, 14] : List Int) h0 (by omega) (by simp) (by simp)
  have hvb : 0 ≤ v ∧ v ≤ 14 := by
    simp only [List.mem_cons, List.not_mem_nil, or_false] at hvm
    omega
  obtain ⟨n, rfl⟩ := Int.eq_ofNat_of_zero_le hvb.1
  obtain ⟨l, q, h, hq1, hq2, hl, hbl⟩ := sent_ok0 hb n k [] (p + 1) (by omega) (by omega) (by simp; omega) rfl (by omega) (by omega)
  unfold spec_l4Sent.f
  rw [hv, Option.bind_some]
  exact ⟨l, q, h, by omega, by omega, by rw [hl]; simp; omega, hbl⟩
theorem fates_ok0 {b : List Int} (hb : SrcOk b) (x : Int) (hx : x ≤ 1000) : ∀ (m k : Nat) (acc : List Int) (p : Int), m ≤ 100 → m + 2 ≤ k → acc.length + m ≤ 1000 → 0 ≤ p → p + 2 * m ≤ 1000000 →
    ∃ l q, spec_l4Fates.l0 k acc x (m : Int) b p = some (l, q) ∧ p ≤ q ∧ q ≤ p + 2 * m ∧ l.length = acc.length + m
  | m, 0, acc, p, hm, hk, ha, h0, h1 => by omega
  | 0, k + 1, acc, p, hm, hk, ha, h0, h1 => ⟨acc, p, by rw [spec_l4Fates.l0, if_neg (by omega)], by omega, by omega, by omega⟩
  | m + 1, k + 1, acc, p, hm, hk, ha, h0, h1 => by
    have e : wrap64 (((m + 1 : Nat) : Int) - 1) = (m : Int) := by rw [w64 _ (by omega)]; omega
    obtain ⟨v, hv, _, _⟩ := pick_ok hb k (by omega) p x h0 (by omega) (by omega)
    rw [spec_l4Fates.l0, if_pos (by omega), hv, Option.bind_some]
    simp only
    by_cases hv0 : v = 0
    · obtain ⟨u, hu, _⟩ := pick_ok hb k (by omega) (p + 1) 5 (by omega) (by omega) (by omega)
      obtain ⟨l, q, h, hq1, hq2, hl⟩ := fates_ok0 hb x hx m k (acc ++ [u]) (p + 1 + 1) (by omega) (by omega) (by simp; omega) (by omega) (by omega)
      rw [if_pos hv0, hu, Option.bind_some, if_pos (by omega), e]
      exact ⟨l, q, h, by omega, by omega, by rw [hl]; simp; omega⟩
    · obtain ⟨l, q, h, hq1, hq2, hl⟩ := fates_ok0 hb x hx m k (acc ++ [0]) (p + 1) (by omega) (by omega) (by simp; omega) (by omega) (by omega)
      rw [if_neg hv0, if_pos (by omega), e]
      exact ⟨l, q, h, by omega, by omega, by rw [hl]; simp; omega⟩
theorem fates_ok {b : List Int} (hb : SrcOk b) (k : Nat) (hk : 100 ≤ k) (p : Int) (h0 : 0 ≤ p) (h1 : p ≤ 100000) : ∃ l q, spec_l4Fates.f k b p = some (l, q) ∧ p ≤ q ∧ q ≤ p + 100 ∧ l.length ≤ 30 := by
  obtain ⟨v, hv, hvm⟩ := num_ok hb k (by omega) p ([2, 1, 3, 8] : List Int) h0 (by omega) (by simp) (by simp)
  obtain ⟨u, hu, hum⟩ := num_ok hb k (by omega) (p + 1) ([6, 0, 12, 3, 30] : List Int) (by omega) (by omega) (by simp) (by simp)
  have hvb : v ≤ 8 := by
    simp only [List.mem_cons, List.not_mem_nil, or_false] at hvm
    omega
  have hub : 0 ≤ u ∧ u ≤ 30 := by
    simp only [List.mem_cons, List.not_mem_nil, or_false] at hum
    omega
  obtain ⟨n, rfl⟩ := Int.eq_ofNat_of_zero_le hub.1
  obtain ⟨l, q, h, hq1, hq2, hl⟩ := fates_ok0 hb v (by omega) n k [] (p + 1 + 1) (by omega) (by omega) (by simp; omega) (by omega) (by omega)
  unfold spec_l4Fates.f
  rw [hv, Option.bind_some]
  simp only
  rw [hu, Option.bind_some]
  exact ⟨l, q, h, by omega, by omega, by rw [hl]; simp; omega⟩
/-- What is drawn for a link. -/
theorem l5Draw_ok {b : List Int} (hb : SrcOk b) (k : Nat) (hk : 100 ≤ k) (p : Int) (h0 : 0 ≤ p) (h1 : p ≤ 10000) : ∃ win list there back q, spec_l5Draw.f k b p = some (win, list, there, back, q) ∧ p ≤ q ∧ q ≤ p + 1000 ∧ list.length ≤ 15 ∧ there.length ≤ 31 ∧ back.length ≤ 31 ∧ bytesOk list = true := by
  obtain ⟨l, q1, hs, ha1, ha2, hl, hbl⟩ := sent_ok hb k hk p h0 (by omega)
  obtain ⟨wn, hw, hwm⟩ := num_ok hb k (by omega) q1 ([4, 1, 2, 8, 3] : List Int) (by omega) (by omega) (by simp) (by simp)
  obtain ⟨f, q2, hf, hf1, hf2, hfl⟩ := fates_ok hb k hk (q1 + 1) (by omega) (by omega)
  obtain ⟨g, q3, hg, hg1, hg2, hgl⟩ := fates_ok hb k hk q2 (by omega) (by omega)
  obtain ⟨v, hv, _, _⟩ := pick_ok hb k (by omega) q3 48 (by omega) (by omega) (by omega)
  unfold spec_l5Draw.f
  rw [hs, Option.bind_some]
  simp only
  rw [hw, Option.bind_some]
  simp only
  rw [hf, Option.bind_some]
  simp only
  rw [hg, Option.bind_some]
  simp only
  rw [hv, Option.bind_some]
  simp only
  by_cases c0 : v = 0
  · obtain ⟨u, hu, _⟩ := num_ok hb k (by omega) (q3 + 1) ([0, 9] : List Int) (by omega) (by omega) (by simp) (by simp)
    rw [if_pos c0, hu, Option.bind_some]
    exact ⟨_, _, _, _, _, rfl, by simp only; omega, by simp only; omega, by omega, by omega, by omega, hbl⟩
  rw [if_neg c0]
  by_cases c1 : v = 1
  · rw [if_pos c1, if_pos (by omega), if_pos (by omega)]
    refine ⟨_, _, _, _, _, rfl, by omega, by omega, by rw [List.length_append, List.length_singleton]; omega, by omega, by omega, ?_⟩
    unfold bytesOk at hbl ⊢
    rw [List.all_append, hbl]
    simp only [List.all_cons, List.all_nil, Bool.and_true, Bool.true_and, List.all_replicate]
    decide
  rw [if_neg c1]
  by_cases c2 : v = 2
  · rw [if_pos c2, if_pos (by omega)]
    exact ⟨_, _, _, _, _, rfl, by omega, by omega, by omega, by simp; omega, by omega, hbl⟩
  rw [if_neg c2]
  by_cases c3 : v = 3
  · rw [if_pos c3, if_pos (by omega)]
    exact ⟨_, _, _, _, _, rfl, by omega, by omega, by omega, by omega, by simp; omega, hbl⟩
  rw [if_neg c3]
  exact ⟨_, _, _, _, _, rfl, by omega, by omega, by omega, by omega, by omega, hbl⟩
theorem open_ok (l : List Int) (hw : ∀ x ∈ l, byteOk x) : ∃ b, spec_l21Open.f l = some (b, 0) ∧ SrcOk b := by
  unfold spec_l21Open.f
  by_cases h : (l.length : Int) > 2000
  · rw [if_pos h, if_pos (by omega)]
    exact ⟨_, rfl, by rw [List.length_take]; omega, fun x hx => hw x (List.mem_of_mem_take hx)⟩
  · rw [if_neg h]
    exact ⟨_, rfl, by omega, hw⟩
theorem wf_byte {x : Int} (h : (Lit.int .u8 x).wf = true) : byteOk x := by
  have h0 : IntKind.u8.min = 0 := by decide
  have h1 : IntKind.u8.max = 255 := by decide
  simp only [Lit.wf, Bool.and_eq_true, decide_eq_true_eq, h0, h1] at h
  exact h
end Go.Proofs.Ytookabfmbimnoaa.Lk

namespace Go.Proofs.Ytookabfmbimnoaa.Lk
open Go.RowKit Go.Proofs.YtookabfmbimnoaaW.PrintWords Go.Proofs.YtookabfmbimnoaaW.PrintLast Go.Proofs.YtookabfmbimnoaaW.PrintMore
set_option linter.unusedVariables false
set_option linter.unusedSimpArgs false

theorem specFatesK (l : List Int) (k : Nat) (hl : l.length ≤ 100000) (hk : l.length + 1 ≤ k) : spec_FatesValid.f k l = some (fatesOk l) := by
  have := specFatesG l (by omega) l.length 0 k (by omega) hk
  rw [List.drop_zero] at this
  exact this
theorem specLink0 (a0 : Int) (l1 : List (List Int)) (l2 l3 : List Int) (h2 : l2.length ≤ 100) (h3 : l3.length ≤ 100) : ∀ (m i k : Nat), i + m = l1.length → m ≤ 1000 → l1.length ≤ 100000 → m + 200 ≤ k →
    spec_l5Link.l0 k a0 l1 l2 l3 (i : Int) = some ((l1.drop i).all shortB && (winOk a0 && (decide (l1.length ≤ 60) && (fatesOk l2 && fatesOk l3))))
  | m, i, 0, hi, hm, hl, hk => by omega
  | 0, i, k + 1, hi, hm, hl, hk => by
    rw [spec_l5Link.l0, if_neg (by omega), specIn_ok, Option.bind_some, List.drop_eq_nil_of_le (by omega), specFatesK l2 k (by omega) (by omega), specFatesK l3 k (by omega) (by omega)]
    show (if winOk a0 = true then _ else _) = _
    simp only [List.all_nil, Bool.true_and]
    cases winOk a0 with
    | false => rfl
    | true =>
      rw [if_pos rfl]
      by_cases hl60 : l1.length ≤ 60
      · rw [if_pos (by omega), decide_eq_true hl60, Option.bind_some]
        cases fatesOk l2 with
        | false => rfl
        | true => rw [if_pos rfl, Option.bind_some]; rfl
      · rw [if_neg (by omega), decide_eq_false hl60]; rfl
  | m + 1, i, k + 1, hi, hm, hl, hk => by
    have e : wrap64 ((i : Int) + 1) = ((i + 1 : Nat) : Int) := by rw [w64 _ (by omega)]; simp
    have hil : i < l1.length := by omega
    have hd : l1.drop i = l1[i] :: l1.drop (i + 1) := List.drop_eq_getElem_cons hil
    rw [spec_l5Link.l0, if_pos (by omega), if_pos (by omega), rd_L2_get hil, hd, List.all_cons]
    by_cases hs : l1[i].length ≤ 597
    · rw [if_neg (by omega), e, specLink0 a0 l1 l2 l3 h2 h3 m (i + 1) k (by omega) (by omega) hl (by omega), show shortB l1[i] = true from decide_eq_true hs, Bool.true_and]
    · rw [if_pos (by omega), show shortB l1[i] = false from decide_eq_false hs]; rfl
def linkB0 (a0 : Int) (l1 : List (List Int)) (l2 l3 : List Int) : Bool := winOk a0 && (decide (l1.length ≤ 60) && (l1.all shortB && (fatesOk l2 && fatesOk l3)))
theorem linkB_split (a0 : Int) (l1 : List (List Int)) (l2 l3 : List Int) (a4 : Int) : linkB a0 l1 l2 l3 a4 = (linkB0 a0 l1 l2 l3 && rndOk a4) := by
  unfold linkB linkB0
  simp only [Bool.and_assoc]
theorem specLink (a0 : Int) (l1 : List (List Int)) (l2 l3 : List Int) (h1 : l1.length ≤ 100) (h2 : l2.length ≤ 100) (h3 : l3.length ≤ 100) (k : Nat) (hk : 400 ≤ k) : spec_l5Link.f k a0 l1 l2 l3 = some (linkB0 a0 l1 l2 l3) := by
  have h := specLink0 a0 l1 l2 l3 h2 h3 l1.length 0 k (by omega) (by omega) (by omega) (by omega)
  rw [List.drop_zero] at h
  refine h.trans (congrArg some ?_)
  unfold linkB0
  cases l1.all shortB <;> cases winOk a0 <;> cases decide (l1.length ≤ 60) <;> rfl
def roundsV (a0 : Int) (l1 : List (List Int)) (l2 l3 : List Int) : Int := if linkB0 a0 l1 l2 l3 = true then (if l1.length ≤ (runR a0 l1 l2 l3 400).kn then ((runR a0 l1 l2 l3 400).rounds : Int) else -1) else -1
theorem implRounds (k : Nat) (a0 : Int) (l1 : List (List Int)) (l2 l3 : List Int) (hb : bytesOk l1 = true) : impl_LinkRounds.f k a0 l1 l2 l3 = some (roundsV a0 l1 l2 l3) := by
  unfold impl_LinkRounds.f impl_RunLink.f roundsV
  rw [if_pos hb, linkB_split, show rndOk 400 = true by decide, Bool.and_true]
  cases h : linkB0 a0 l1 l2 l3 with
  | true =>
    rw [if_pos rfl, if_pos rfl, Option.bind_some]
    simp only [if_true]
    by_cases hk : l1.length ≤ (runR a0 l1 l2 l3 400).kn
    · rw [decide_eq_true hk, if_pos rfl, if_pos hk]
    · rw [decide_eq_false hk, if_neg (by simp), if_neg hk]
  | false =>
    rw [if_neg (by simp), if_neg (by simp), Option.bind_some]
    rfl
theorem specRounds (k : Nat) (hk : 400 ≤ k) (a0 : Int) (l1 : List (List Int)) (l2 l3 : List Int) (hb : bytesOk l1 = true) (h1 : l1.length ≤ 100) (h2 : l2.length ≤ 100) (h3 : l3.length ≤ 100) : spec_LinkRounds.f k a0 l1 l2 l3 = some (roundsV a0 l1 l2 l3) := by
  unfold spec_LinkRounds.f roundsV
  rw [specLink a0 l1 l2 l3 h1 h2 h3 k hk, Option.bind_some]
  cases h : linkB0 a0 l1 l2 l3 with
  | true =>
    unfold spec_l5Run.f
    rw [if_pos rfl, if_pos rfl, if_pos ⟨hb, by rw [linkB_split, h]; decide⟩, Option.bind_some]
    simp only
    by_cases hk : l1.length ≤ (runR a0 l1 l2 l3 400).kn
    · rw [decide_eq_true hk, if_pos rfl, if_pos hk]
    · rw [decide_eq_false hk, if_neg (by simp), if_neg hk]
  | false => rw [if_neg (by simp), if_neg (by simp)]
theorem bound_ok {a0 : Int} {l1 : List (List Int)} {l2 l3 : List Int} (hb : 0 ≤ boundV a0 (l1.length : Int) l2 l3) (hs : l1.all shortB = true) : linkB0 a0 l1 l2 l3 = true ∧ (boundV a0 (l1.length : Int) l2 l3 ≤ 400 → 0 ≤ roundsV a0 l1 l2 l3 ∧ roundsV a0 l1 l2 l3 ≤ boundV a0 (l1.length : Int) l2 l3) := by
  unfold boundV at hb ⊢
  by_cases hc : (winOk a0 && (manyOk (l1.length : Int) && (fatesOk l2 && fatesOk l3))) = true
  case neg => rw [if_neg hc] at hb; omega
  rw [if_pos hc]
  simp only [Bool.and_eq_true] at hc
  obtain ⟨hw, hm, hf2, hf3⟩ := hc
  have hm60 : l1.length ≤ 60 := by
    simp only [manyOk, Bool.and_eq_true, decide_eq_true_eq] at hm
    omega
  have hwin : 1 ≤ a0 ∧ a0 ≤ 8 := by simpa [winOk] using hw
  obtain ⟨w, rfl⟩ := Int.eq_ofNat_of_zero_le (show 0 ≤ a0 by omega)
  have hlink : linkB0 (w : Int) l1 l2 l3 = true := by
    unfold linkB0
    rw [hw, hs, hf2, hf3, decide_eq_true hm60]
    rfl
  refine ⟨hlink, fun h400 => ?_⟩
  have hdiv : ((l1.length : Int) + (w : Int) - 1) / (w : Int) = ((ceilN l1.length w : Nat) : Int) := by
    unfold ceilN
    rw [Int.natCast_ediv, show ((l1.length + w - 1 : Nat) : Int) = (l1.length : Int) + (w : Int) - 1 by omega]
  rw [hdiv] at h400 ⊢
  have hmax : max (l2.length : Int) (l3.length : Int) = ((max l2.length l3.length : Nat) : Int) := by omega
  rw [hmax] at h400 ⊢
  have hend := runL_ends (w := w) (by omega) (by omega) (list := l1) (there := l2) (back := l3) (m := 400) (by omega)
  have hrun : runR (w : Int) l1 l2 l3 400 = runL w l1 l2 l3 400 := rfl
  unfold roundsV
  rw [if_pos hlink, hrun, if_pos hend.1]
  omega
theorem liveL0 (n b : Int) (l : List (List Int)) (hl : l.length ≤ 1000) (h1 : l.all shortB = true → b ≤ 400 → 0 ≤ n ∧ n ≤ b) (h2 : l.all shortB = false → n = -1) : ∀ (m i k : Nat), i + m = l.length → m + 2 ≤ k → (l.take i).all shortB = true → laws_FnLinkLive.l0 k n b l (l.length : Int) (i : Int) = some true
  | m, i, 0, hi, hk, ht => by omega
  | 0, i, k + 1, hi, hk, ht => by
    rw [List.take_of_length_le (by omega)] at ht
    have := h1 ht
    rw [laws_FnLinkLive.l0, if_neg (by omega)]
    by_cases hb : b > 400
    · rw [if_pos hb]
    · have := this (by omega)
      rw [if_neg hb, if_pos (by omega), decide_eq_true this.2]
  | m + 1, i, k + 1, hi, hk, ht => by
    have e : wrap64 ((i : Int) + 1) = ((i + 1 : Nat) : Int) := by rw [w64 _ (by omega)]; simp
    have hil : i < l.length := by omega
    rw [laws_FnLinkLive.l0, if_pos (by omega), if_pos (by omega), if_pos (by omega), rd_L2_get hil]
    by_cases hs : l[i].length ≤ 597
    · rw [if_neg (by omega), e]
      refine liveL0 n b l hl h1 h2 m (i + 1) k (by omega) (by omega) ?_
      rw [List.take_succ_eq_append_getElem hil, List.all_append, ht]
      simp only [List.all_cons, List.all_nil, Bool.and_true, Bool.true_and]
      exact decide_eq_true hs
    · have hn : l.all shortB = false := by
        rw [List.all_eq_false]
        exact ⟨l[i], List.getElem_mem hil, by simp [shortB, hs]⟩
      rw [if_pos (by omega), h2 hn]
      rfl
end Go.Proofs.Ytookabfmbimnoaa.Lk

namespace Go.Proofs.Ytookabfmbimnoaa.Pure
open Go.RowKit Go.Proofs.Ytookabfmbimnoaa.Lk Go.Proofs.YtookabfmbimnoaaW.PrintWords Go.Proofs.YtookabfmbimnoaaW.PrintLast
theorem FnLinkLive : laws_FnLinkLive.Pure := by
  intro l0 _ _ hwf
  obtain ⟨b, ho, hb⟩ := open_ok l0 (fun x hx => wf_byte (hwf x hx))
  refine ⟨700, ?_⟩
  obtain ⟨win, list, there, back, q, hd, hq1, hq2, hl, ht, hbk, hby⟩ := l5Draw_ok hb 700 (by omega) 0 (by omega) (by omega)
  obtain ⟨many, hm, _⟩ := num_ok hb 700 (by omega) q ([(list.length : Int), 0, 60, 61, (-1), 9] : List Int) (by omega) (by omega) (by simp) (by simp)
  unfold laws_FnLinkLive.f
  by_cases hlen : (l0.length : Int) > 1048576
  · rw [if_pos hlen]
  rw [if_neg hlen]
  have h1 : spec_DrawLinkBound.f 700 l0 = some (win, many, there, back) := by
    unfold spec_DrawLinkBound.f
    rw [ho, Option.bind_some]
    simp only
    rw [hd, Option.bind_some]
    simp only
    rw [hm]
    rfl
  have h2 : spec_DrawLinkRounds.f 700 l0 = some (win, list, there, back) := by
    unfold spec_DrawLinkRounds.f
    rw [ho, Option.bind_some]
    simp only
    rw [hd]
    rfl
  rw [h1, Option.bind_some]
  simp only
  rw [show impl_LinkBound.f win many there back = some (boundV win many there back) from rfl, Option.bind_some, show spec_LinkBound.f 700 win many there back = some (boundV win many there back) from rfl, Option.bind_some, if_pos rfl, h2, Option.bind_some]
  simp only
  rw [implRounds 700 win list there back hby, Option.bind_some, specRounds 700 (by omega) win list there back hby (by omega) (by omega) (by omega), Option.bind_some, if_pos rfl, show impl_LinkBound.f win (list.length : Int) there back = some (boundV win (list.length : Int) there back) from rfl, Option.bind_some]
  by_cases hneg : boundV win (list.length : Int) there back < 0
  · rw [if_pos hneg]
  rw [if_neg hneg]
  refine liveL0 _ _ list (by omega) (fun hs h4 => (bound_ok (by omega) hs).2 h4) (fun hs => ?_) list.length 0 700 (by omega) (by omega) rfl
  unfold roundsV
  rw [if_neg]
  unfold linkB0
  rw [hs]
  simp
end Go.Proofs.Ytookabfmbimnoaa.Pure
