/- What the walks of this claim need: printed by a program of this session (wip/pack.py) out of the session's texts and of the words that the kit's print.sh lays; under no condition beyond those in each theorem. Lean checks it. -/
import Derived.Test.YtookabfmbimnoaaExr7
namespace Go.Proofs.Ytookabfmbimnoaa.Lk
open Go.RowKit Go.Proofs.YtookabfmbimnoaaW.PrintWords Go.Proofs.YtookabfmbimnoaaW.PrintLast Go.Proofs.YtookabfmbimnoaaW.PrintMore
set_option linter.unusedVariables false
set_option linter.unusedSimpArgs false

set_option maxHeartbeats 8000000 in
set_option maxRecDepth 100000 in
theorem RunLink_no (a0 : Int) (A1 : Option Addr) (c1 : Nat) (l1 : List (List Int)) (A2 : Option Addr) (c2 : Nat) (l2 : List Int) (A3 : Option Addr) (c3 : Nat) (l3 : List Int) (a4 : Int) (w : World)
    (hr1 : Kd.C (Kd.slice 5 (Kd.int .u8)) w A1 l1.length l1) (hc1 : l1.length ≤ c1) (hr2 : Kd.C (Kd.int .i64) w A2 l2.length l2) (hc2 : l2.length ≤ c2) (hr3 : Kd.C (Kd.int .i64) w A3 l3.length l3) (hc3 : l3.length ≤ c3) (h : impl_linkOk.f a0 l1 l2 l3 a4 = some false) :
    Calls Try.prog 10 #[.int .i64 a0, .slice A1 l1.length c1, .slice A2 l2.length c2, .slice A3 l3.length c3, .int .i64 a4] w fun e w' => e = .returned (.tuple #[.agg #[.slice none 0 0, .int .i64 0, .int .i64 0, .bool false], .bool false]) ∧ Below w.heap.size w w' := by
  have HC := Aside0.mk (fun (W : World) (hb : Below w.heap.size w W) => impl_linkOk.calls a0 A1 c1 l1 A2 c2 l2 A3 c3 l3 a4 false W (Kd.C_below hr1 hb) hc1 (Kd.C_below hr2 hb) hc2 (Kd.C_below hr3 hb) hc3 h)
  clear hr1 hc1 hr2 hc2 hr3 hc3 h
  go_enter Try.func10, Try.ntmps10
  go_wp2_with fail
  have hb1 : Below w.heap.size w (w.alloc (.cells #[.slice none 0 0, .int .i64 0, .int .i64 0, .bool false] 28)) := below_alloc (Below.refl _ _) _
  have hx : (w.alloc (.cells #[.slice none 0 0, .int .i64 0, .int .i64 0, .bool false] 28)).heap[w.heap.size]? = some (.cells #[.slice none 0 0, .int .i64 0, .int .i64 0, .bool false] 28 (0, 0)) := blk_new _ _
  generalize w.alloc (.cells #[.slice none 0 0, .int .i64 0, .int .i64 0, .bool false] 28) = W at hb1 hx ⊢
  refine (HC.out W hb1).mono ?_
  rintro e w' ⟨rfl, hb⟩
  replace hx := blk_below hx hb
  replace hb := Aside0.mk (below_step hb1 hb)
  clear hb1 HC
  generalize hg : w.heap.size = g at hx hb ⊢
  have x0 : w'.cell? ⟨g, 0, none⟩ = some (.slice none 0 0) := by simp [World.cell?, hx]
  have x1 : w'.cell? ⟨g, 1, none⟩ = some (.int .i64 0) := by simp [World.cell?, hx]
  have x2 : w'.cell? ⟨g, 2, none⟩ = some (.int .i64 0) := by simp [World.cell?, hx]
  have x3 : w'.cell? ⟨g, 3, none⟩ = some (.bool false) := by simp [World.cell?, hx]
  have y0 : w'.frozen? ⟨g, 0, none⟩ = false := by simp [World.frozen?, hx]
  have y1 : w'.frozen? ⟨g, 1, none⟩ = false := by simp [World.frozen?, hx]
  have y2 : w'.frozen? ⟨g, 2, none⟩ = false := by simp [World.frozen?, hx]
  have y3 : w'.frozen? ⟨g, 3, none⟩ = false := by simp [World.frozen?, hx]
  go_wp2_with fail
  refine bodyPost_ret (results_ct (p := 10) (u := 11) (ty := 28) rfl _ _ g 28 #[.slice none 0 0, .int .i64 0, .int .i64 0, .bool false] (0, 0) _ rfl (heap_set (heap_set (heap_set (heap_set hx)))) Try.underlying28 rfl (by kernel_rfl)) rfl ?_
  refine ⟨rfl, ?_⟩
  subst hg
  exact below_set (below_set (below_set (below_set hb.out (Nat.le_refl _)) (Nat.le_refl _)) (Nat.le_refl _)) (Nat.le_refl _)
theorem loopL_stop {w : Nat} {list : List (List Int)} {there back : List Int} (k : Nat) {st : LSt} (h : ¬ st.kn < list.length) : loopL w list there back k st = st := by
  cases k with
  | zero => rfl
  | succ k => rw [loopL, if_neg h]
theorem loopL_go {w : Nat} {list : List (List Int)} {there back : List Int} (k : Nat) {st : LSt} (h : st.kn < list.length) : loopL w list there back (k + 1) st = loopL w list there back k (stepL w list there back st) := by rw [loopL, if_pos h]
/-- What stays true of the state. -/
structure StOk (st : LSt) : Prop where
  kn : st.kn ≤ 80
  s1 : st.s1 ≤ 8 * st.rounds
  s2 : st.s2 ≤ st.rounds
  got : st.got.length ≤ 16 * st.rounds
theorem stepL_ok {w : Nat} {list : List (List Int)} {there back : List Int} {st : LSt} (hw : w ≤ 8) (hl : list.length ≤ 60) (hk : st.kn < list.length) (h : StOk st) : StOk (stepL w list there back st) := by
  have h1 := acks_le w (((arrivals (there.drop st.s1) (sentN w list.length st.kn)).foldl (recv1 list st.kn (there.drop st.s1)) st.got).length % 16) (back.drop st.s2) (arrivals (back.drop st.s2) 1) st.kn
  have h2 := recvs_le list st.kn (there.drop st.s1) (arrivals (there.drop st.s1) (sentN w list.length st.kn)) st.got
  have h3 := arrivals_length (back.drop st.s2) 1
  have h4 := arrivals_length (there.drop st.s1) (sentN w list.length st.kn)
  have h5 : sentN w list.length st.kn ≤ w := by unfold sentN; omega
  have h6 : (arrivals (back.drop st.s2) 1).length * w ≤ 2 * 8 := Nat.mul_le_mul h3 hw
  have := h.kn; have := h.s1; have := h.s2; have := h.got
  constructor
  · show _ ≤ 80
    simp only [stepL]
    omega
  · simp only [stepL]; omega
  · simp only [stepL]; omega
  · simp only [stepL]; omega
set_option maxHeartbeats 8000000 in
set_option maxRecDepth 100000 in
theorem RunLink_yes (win : Nat) (A1 : Option Addr) (c1 : Nat) (l1 : List (List Int)) (A2 : Option Addr) (c2 : Nat) (l2 : List Int) (A3 : Option Addr) (c3 : Nat) (l3 : List Int) (m : Nat) (w : World)
    (hr1 : Kd.C (Kd.slice 5 (Kd.int .u8)) w A1 l1.length l1) (hc1 : l1.length ≤ c1) (hr2 : Kd.C (Kd.int .i64) w A2 l2.length l2) (hc2 : l2.length ≤ c2) (hr3 : Kd.C (Kd.int .i64) w A3 l3.length l3) (hc3 : l3.length ≤ c3) (h : impl_linkOk.f (win : Int) l1 l2 l3 (m : Int) = some true) (hbo : bytesOk l1 = true) :
    Calls Try.prog 10 #[.int .i64 (win : Int), .slice A1 l1.length c1, .slice A2 l2.length c2, .slice A3 l3.length c3, .int .i64 (m : Int)] w fun e w' => ∃ v0_ : Value, e = .returned (.tuple #[.agg #[v0_, .int .i64 ((runL win l1 l2 l3 m).rounds : Int), .int .i64 (((runL win l1 l2 l3 m).s1 + (runL win l1 l2 l3 m).s2 : Nat) : Int), .bool (decide (l1.length ≤ (runL win l1 l2 l3 m).kn))], .bool true]) ∧ Kd.S (Kd.slice 5 (Kd.int .u8)) 22 w' w.heap.size (fun _ => True) v0_ (runL win l1 l2 l3 m).got ∧ Below w.heap.size w w' := by
  have HC := Aside0.mk (fun (W : World) (hb : Below w.heap.size w W) => impl_linkOk.calls (win : Int) A1 c1 l1 A2 c2 l2 A3 c3 l3 (m : Int) true W (Kd.C_below hr1 hb) hc1 (Kd.C_below hr2 hb) hc2 (Kd.C_below hr3 hb) hc3 h)
  have h0 := Option.some.inj h
  simp only [Bool.and_eq_true, winOk, rndOk, decide_eq_true_eq] at h0
  obtain ⟨⟨hw1, hw2⟩, hl1, hsh, hf2, hf3, hm1, hm2⟩ := h0
  have HW1 := Aside0.mk (show 1 ≤ win by omega)
  have HW2 := Aside0.mk (show win ≤ 8 by omega)
  have HL := Aside0.mk hl1
  have HSH := Aside0.mk hsh
  have HF2 := Aside0.mk hf2
  have HF3 := Aside0.mk hf3
  have HM := Aside0.mk (show m ≤ 400 by omega)
  have HBO := Aside0.mk hbo
  have HR1 := Aside0.mk hr1
  have HR2 := Aside0.mk hr2
  have HR3 := Aside0.mk hr3
  have HC1 := Aside0.mk hc1
  have HC2 := Aside0.mk hc2
  have HC3 := Aside0.mk hc3
  clear hr1 hc1 hr2 hc2 hr3 hc3 h hw1 hw2 hl1 hsh hf2 hf3 hm1 hm2 hbo
  have HRUN := Aside0.mk (show runL win l1 l2 l3 m = loopL win l1 l2 l3 m ⟨[], 0, 0, 0, 0⟩ from rfl)
  generalize runL win l1 l2 l3 m = res at HRUN ⊢
  go_enter Try.func10, Try.ntmps10
  go_wp2_with fail
  have hb1 : Below w.heap.size w (w.alloc (.cells #[.slice none 0 0, .int .i64 0, .int .i64 0, .bool false] 28)) := below_alloc (Below.refl _ _) _
  have hx : (w.alloc (.cells #[.slice none 0 0, .int .i64 0, .int .i64 0, .bool false] 28)).heap[w.heap.size]? = some (.cells #[.slice none 0 0, .int .i64 0, .int .i64 0, .bool false] 28 (0, 0)) := blk_new _ _
  generalize w.alloc (.cells #[.slice none 0 0, .int .i64 0, .int .i64 0, .bool false] 28) = W at hb1 hx ⊢
  refine (HC.out W hb1).mono ?_
  rintro e w' ⟨rfl, hb⟩
  replace hx := blk_below hx hb
  replace hb := Aside0.mk (below_step hb1 hb)
  clear hb1 HC
  go_wp2_with fail
  generalize hg : w.heap.size = g at hx
  have hg1 := heap_lt hx
  have HX0 : ∃ (W2 : World) (G : Nat), G = w'.heap.size ∧ W2 = (((w'.alloc (Obj.cells #[Value.slice none 0 0, Value.int IntKind.i64 0, Value.int IntKind.i64 0, Value.bool false] 28)).alloc (Obj.cells #[Value.slice A2 l2.length c2, Value.int IntKind.i64 0] 52)).alloc (Obj.cells #[Value.slice A3 l3.length c3, Value.int IntKind.i64 0] 52)) ∧ Below w.heap.size w W2 ∧ g < G ∧ w.heap.size ≤ G ∧ BoxL W2 g G (.slice none 0 0) 0 0 0 (.slice A2 l2.length c2) (.slice A3 l3.length c3) := by
    refine ⟨_, _, rfl, rfl, below_alloc (below_alloc (below_alloc hb.out _) _) _, hg1, hb.out.size, blk_alloc (blk_alloc (blk_alloc hx _) _) _, blk_alloc (blk_alloc (blk_new _ _) _) _, ?_, ?_⟩
    · refine blk_alloc ?_ _
      have := blk_new (w'.alloc (Obj.cells #[Value.slice none 0 0, Value.int IntKind.i64 0, Value.int IntKind.i64 0, Value.bool false] 28)) (Obj.cells #[Value.slice A2 l2.length c2, Value.int IntKind.i64 0] 52)
      simpa using this
    · have := blk_new ((w'.alloc (Obj.cells #[Value.slice none 0 0, Value.int IntKind.i64 0, Value.int IntKind.i64 0, Value.bool false] 28)).alloc (Obj.cells #[Value.slice A2 l2.length c2, Value.int IntKind.i64 0] 52)) (Obj.cells #[Value.slice A3 l3.length c3, Value.int IntKind.i64 0] 52)
      simpa using this
  obtain ⟨W2, G, hG, hW2, hB2, hgG, hwG, hbox⟩ := HX0
  rw [← hG]
  rw [← hW2]
  clear hW2 hb hx hg1
  have HGG := Aside0.mk hgG
  have HWG := Aside0.mk hwG
  have HG0 := Aside0.mk hg
  have HB := Aside0.mk hB2
  have HBOX := Aside0.mk hbox
  clear hgG hwG hB2 hbox hG hg w' W
  go_loopg [15] m (fun kq v15 w' => ∃ (st : LSt) (vg : Value), v15 = .int .i64 (st.kn : Int) ∧ Aside0 (st.rounds + kq = m) ∧ Aside0 (loopL win l1 l2 l3 kq st = res) ∧ Aside0 (StOk st) ∧ Aside0 (BoxL w' g G vg st.rounds st.s1 st.s2 (.slice A2 l2.length c2) (.slice A3 l3.length c3)) ∧ Aside0 (Kd.S (Kd.slice 5 (Kd.int .u8)) 22 w' w.heap.size (fun _ => True) vg st.got) ∧ Aside0 (Below w.heap.size w w'))
  case atStart => exact ⟨⟨[], 0, 0, 0, 0⟩, .slice none 0 0, rfl, ⟨by simp⟩, ⟨HRUN.out.symm⟩, ⟨⟨by simp, by simp, by simp, by simp⟩⟩, HBOX, ⟨Kd.S_nil _ _ _ _ _⟩, HB⟩
  case round =>
    clear HB HBOX HRUN
    obtain ⟨st, vg, rfl, HK, HR, HOK, HBOX, HS, HB⟩ := hrel
    by_cases hlt : st.kn < l1.length
    · have e1 : decide ((st.kn : Int) < l1.length) = true := decide_eq_true (by omega)
      have e1n : decide (st.kn < l1.length) = true := decide_eq_true (by omega)
      cases gk with
      | zero =>
        have hr : loopL win l1 l2 l3 0 st = st := rfl
        have e2 : decide ((st.rounds : Int) < m) = false := decide_eq_false (by have := HK.out; omega)
        have e2n : decide (st.rounds < m) = false := decide_eq_false (by have := HK.out; omega)
        have e3 : decide ((st.kn : Int) ≥ l1.length) = false := decide_eq_false (by omega)
        have e4 : decide ((l1.length : Int) ≤ st.kn) = false := decide_eq_false (by omega)
        have e5 := Aside0.mk (show decide (l1.length ≤ st.kn) = false from decide_eq_false (by omega))
        obtain rfl : st = res := hr.symm.trans HR.out
        obtain ⟨Ag, cg, rfl⟩ := Kd.S_slice HS.out
        obtain ⟨⟨x0, x1, x2, x3⟩, y0, y1, y2, y3⟩ := HBOX.out.cellsG
        obtain ⟨⟨z0, z1, z2, z3⟩, q0, q1, q2, q3⟩ := HBOX.out.cells0
        obtain ⟨u1, u2⟩ := HBOX.out.cellsS
        have hw1 : wrap64 ((st.s1 : Int) + st.s2) = ((st.s1 + st.s2 : Nat) : Int) := by rw [w64 _ (by have := HOK.out.s1; have := HOK.out.s2; have := HK.out; have := HM.out; omega)]; simp
        have hne : g ≠ G := by have := HGG.out; omega
        have hne2 : G ≠ g := by have := HGG.out; omega
        go_wp2_with fail
        refine bodyPost_ret (v := .tuple #[.agg #[.slice Ag st.got.length cg, .int .i64 st.rounds, .int .i64 ((st.s1 : Int) + st.s2), .bool (decide (l1.length ≤ st.kn))], .bool true]) ?hres rfl ?_
        case hres => exact (results_ct (p := 10) (u := 11) (ty := 28) rfl _ _ g 28 #[.slice Ag st.got.length cg, .int .i64 st.rounds, .int .i64 ((st.s1 : Int) + st.s2), .bool (decide (l1.length ≤ st.kn))] (0, 0) _ rfl (heap_set (heap_set (heap_set (heap_set (BoxL.other (BoxL.other HBOX.out.b0 G hne2 _ _) G hne2 _ _))))) Try.underlying28 rfl (by kernel_rfl))
        refine ⟨.slice Ag st.got.length cg, by rw [show ((st.s1 + st.s2 : Nat) : Int) = (st.s1 : Int) + st.s2 by simp], ?_, ?_⟩
        · have hS1 := Kd.S_set HS.out HBOX.out.b1 (by decide) 2 (.int .i64 ((st.s1 : Int) + st.s2))
          have hS2 := Kd.S_set hS1 (heap_set HBOX.out.b1) (by decide) 3 (.bool (decide (l1.length ≤ st.kn)))
          have h0 := BoxL.other (BoxL.other HBOX.out.b0 G hne2 2 (.int .i64 ((st.s1 : Int) + st.s2))) G hne2 3 (.bool (decide (l1.length ≤ st.kn)))
          exact Kd.S_set (Kd.S_set (Kd.S_set (Kd.S_set hS2 h0 (by decide) _ _) (heap_set h0) (by decide) _ _) (heap_set (heap_set h0)) (by decide) _ _) (heap_set (heap_set (heap_set h0))) (by decide) _ _
        · have hg0 := HG0.out
          exact below_set (below_set (below_set (below_set (below_set (below_set HB.out HWG.out) HWG.out) (by omega)) (by omega)) (by omega)) (by omega)
      | succ k1 =>
        have e2 : decide ((st.rounds : Int) < m) = true := decide_eq_true (by have := HK.out; omega)
        have e2n : decide (st.rounds < m) = true := decide_eq_true (by have := HK.out; omega)
        obtain ⟨x0, x1, y0, y1⟩ := HBOX.out.cells
        have hw1 : wrap64 ((st.rounds : Int) + 1) = ((st.rounds + 1 : Nat) : Int) := by rw [w64 _ (by have := HK.out; have := HM.out; omega)]; simp
        go_wp2_with fail
        obtain ⟨wA, hwA⟩ : ∃ W : World, W = wr.setCell ⟨G, 1, none⟩ (.int .i64 ((st.rounds : Int) + 1)) := ⟨_, rfl⟩
        rw [← hwA]
        have HBOXA := Aside0.mk (show BoxL wA g G vg (st.rounds + 1) st.s1 st.s2 (.slice A2 l2.length c2) (.slice A3 l3.length c3) by
          have := HBOX.out.setR HGG.out (st.rounds + 1)
          rw [hwA]
          simpa using this)
        have HSA := Aside0.mk (show Kd.S (Kd.slice 5 (Kd.int .u8)) 22 wA w.heap.size (fun _ => True) vg st.got by
          rw [hwA]
          exact Kd.S_set HS.out HBOX.out.b1 (by decide) _ _)
        have HBA := Aside0.mk (show Below w.heap.size w wA by
          rw [hwA]
          exact below_set HB.out HWG.out)
        clear hwA HBOX HS HB x0 x1 y0 y1 hw1
        have HLT := Aside0.mk hlt
        have HN := Aside0.mk (show sentN win l1.length st.kn = min l1.length (st.kn + win) - st.kn from rfl)
        have HNL := Aside0.mk (show sentN win l1.length st.kn ≤ 8 by unfold sentN; have := HW2.out; omega)
        generalize hn : sentN win l1.length st.kn = n at HN HNL
        have HNE := Aside0.mk hn
        clear hn hlt
        have HB := Aside0.mk (Below.refl wA.heap.size wA)
        go_loopg [16, 17] n (fun kq v16 v17 w' => ∃ i : Nat, v17 = .int .i64 ((st.kn + i : Nat) : Int) ∧ Aside0 (i + kq = n) ∧ Aside0 (Kd.R (Kd.slice 5 (Kd.int .u8)) 22 w' wA.heap.size (fun _ => True) v16 (impl_packs l1 st.kn i)) ∧ Aside0 (Below wA.heap.size wA w'))
        case atStart => exact ⟨0, rfl, ⟨by simp⟩, ⟨Kd.R_nil _ _ _ _ _⟩, HB⟩
        case round =>
          clear HB
          obtain ⟨i, rfl, HI, HO, HB⟩ := hrel
          cases gk with
          | zero =>
            have hi : i = n := by have := HI.out; omega
            subst hi
            have t0 : ¬ ((st.kn : Int) + i < min (l1.length : Int) (wrap64 ((st.kn : Int) + win))) := by rw [w64 _ (by have := HOK.out.kn; have := HW2.out; omega)]; have := HN.out; have := HLT.out; omega
            have t1 := eq_false t0
            have t2 : ((st.kn + i : Nat) : Int) < min (l1.length : Int) (wrap64 ((st.kn : Int) + win)) ↔ False := by rw [Int.natCast_add]; exact iff_false_intro t0
            have t3 : decide (((st.kn + i : Nat) : Int) < min (l1.length : Int) (wrap64 ((st.kn : Int) + win))) = false := decide_eq_false (fun h => t2.1 h)
            have t4 : decide ((st.kn : Int) + i < min (l1.length : Int) (wrap64 ((st.kn : Int) + win))) = false := decide_eq_false t0
            clear t2
            obtain ⟨A16, c16, e16⟩ := Kd.R_slice HO.out
            subst e16
            obtain ⟨hq1, hq2, hq3⟩ := Kd.R_reads' HO.out
            have HBW := Aside0.mk (below_step HBA.out HB.out)
            have HBOXW := Aside0.mk (HBOXA.out.below HB.out)
            have HSW := Aside0.mk (Kd.S_below HSA.out HB.out)
            have HSHORT := Aside0.mk (impl_packs_short HSH.out st.kn i)
            have HPL := Aside0.mk (impl_packs_length l1 st.kn i)
            have HUN := Aside0.mk (fun (x : Int) (h0 : 0 ≤ x) (h1 : x < i) => impl_unOf HSH.out HBO.out st.kn i (l2.drop st.s1) x h0 h1)
            generalize impl_packs l1 st.kn i = pks at hq1 hq2 hq3 HSHORT HPL HUN HO ⊢
            clear HSA HBOXA HBA HO HB
            go_wp2_with fail
            refine (pass_ok (G + 1) A2 c2 l2 st.s1 A16 c16 pks _ (Kd.C_below HR2.out HBW.out) HC2.out hq3 hq2 HBOXW.out.b2 HF2.out (by have := HPL.out; have := HNL.out; omega) (by have := HOK.out.s1; have := HK.out; have := HM.out; omega) HSHORT.out).mono ?_
            rintro e w' ⟨v3, w3, rfl, ho, hb, rfl⟩
            obtain ⟨wB, hwB⟩ : ∃ W : World, W = w3.setCell ⟨G + 1, 1, none⟩ (.int .i64 ((st.s1 + pks.length : Nat) : Int)) := ⟨_, rfl⟩
            rw [← hwB]
            have HBOX := Aside0.mk (show BoxL wB g G vg (st.rounds + 1) (st.s1 + i) st.s2 (.slice A2 l2.length c2) (.slice A3 l3.length c3) by
              rw [hwB, HPL.out]
              exact (HBOXW.out.below hb).setS1 HGG.out _)
            have HS := Aside0.mk (show Kd.S (Kd.slice 5 (Kd.int .u8)) 22 wB w.heap.size (fun _ => True) vg st.got by
              rw [hwB]
              exact Kd.S_set (Kd.S_below HSW.out hb) (HBOXW.out.below hb).b2 (by decide) _ _)
            have HB := Aside0.mk (show Below w.heap.size w wB by
              rw [hwB]
              exact below_set (below_step HBW.out hb) (by have := HWG.out; omega))
            have HV := Aside0.mk (show Kd.R (Kd.slice 5 (Kd.int .u8)) 22 wB w.heap.size (fun k => True ∧ some k ≠ vg.ownBlock) v3 (passWire (l2.drop st.s1) pks) by
              rw [hwB]
              exact Kd.R_set (Kd.R_lower (Kd.R_new' ho (Kd.S_lt HSW.out)) (below_size HBW.out)) (HBOXW.out.below hb).b2 (by decide) _ _)
            have HAR := Aside0.mk (show passWire (l2.drop st.s1) pks = (arrivals (l2.drop st.s1) i).map (passOf (l2.drop st.s1) pks) by unfold passWire; rw [HPL.out])
            have HAM := Aside0.mk (arrivals_mem (l2.drop st.s1) i)
            have HAL := Aside0.mk (arrivals_length (l2.drop st.s1) i)
            obtain ⟨got2, hgot2⟩ : ∃ x, x = (arrivals (l2.drop st.s1) i).foldl (recv1 l1 st.kn (l2.drop st.s1)) st.got := ⟨_, rfl⟩
            have HGOT2 := Aside0.mk hgot2
            have HGT := Aside0.mk hgot2
            have HLEN := Aside0.mk (show (passWire (l2.drop st.s1) pks).length = (arrivals (l2.drop st.s1) i).length by rw [HAR.out, List.length_map])
            generalize passWire (l2.drop st.s1) pks = arr at HV HAR HLEN
            generalize arrivals (l2.drop st.s1) i = ar at HAR HAM HAL HGOT2 HLEN hgot2
            generalize l2.drop st.s1 = fs at HUN HAR HGOT2 hgot2
            clear hwB HBOXW HSW HBW hb ho hgot2 hq1 hq2 hq3 t0 t1 t3 t4
            obtain ⟨A87, c87, e87⟩ := Kd.R_slice HV.out
            subst e87
            go_wp2_with fail
            go_loopg [89] ar.length (fun kq v89 w' => ∃ (j : Nat) (vg' : Value) (got' : List (List Int)), v89 = .int .i64 (j : Int) ∧ Aside0 (j + kq = ar.length) ∧ Aside0 ((ar.drop j).foldl (recv1 l1 st.kn fs) got' = got2) ∧ Aside0 (got'.length ≤ st.got.length + j) ∧ Aside0 (BoxL w' g G vg' (st.rounds + 1) (st.s1 + i) st.s2 (.slice A2 l2.length c2) (.slice A3 l3.length c3)) ∧ Aside0 (Kd.S (Kd.slice 5 (Kd.int .u8)) 22 w' w.heap.size (fun _ => True) vg' got') ∧ Aside0 (Kd.R (Kd.slice 5 (Kd.int .u8)) 22 w' w.heap.size (fun k => True ∧ some k ≠ vg'.ownBlock) (.slice A87 arr.length c87) arr) ∧ Aside0 (Below w.heap.size w w'))
            case atStart => exact ⟨0, vg, st.got, rfl, ⟨by simp⟩, ⟨HGOT2.out.symm⟩, ⟨Nat.le_refl _⟩, HBOX, HS, HV, HB⟩
            case round =>
              clear HBOX HS HV HB
              obtain ⟨j, vg', got', rfl, HJ, HG2, HGL, HBOX, HS, HV, HB⟩ := hrel
              cases gk with
              | zero =>
                obtain rfl : ar.length = j := by have := HJ.out; omega
                have c1 : decide ((ar.length : Int) < arr.length) = false := decide_eq_false (by have := HLEN.out; omega)
                have c1n : decide (ar.length < arr.length) = false := decide_eq_false (by have := HLEN.out; omega)
                obtain ⟨Ag, cg, eg⟩ := Kd.S_slice HS.out
                subst eg
                obtain ⟨x0, x1, y0, y1⟩ := HBOX.out.cells
                rw [List.drop_length] at HG2
                obtain rfl : got' = got2 := HG2.out
                have hrem : Int.tmod (got'.length : Int) 16 = ((got'.length % 16 : Nat) : Int) := by rw [Int.tmod_eq_emod_of_nonneg (by omega)]; simp
                clear HG2 HV HUN HAR HLEN
                go_wp2_with fail
                have HQ := Aside0.mk (show got'.length % 16 < 16 from Nat.mod_lt _ (by omega))
                have HPB := Aside0.mk (show impl_PackLink.f 700 2 ((got'.length : Int) % 16) [] = some (impl_packv 2 ((got'.length % 16 : Nat) : Int) [], true) by
                  have := impl_pack 2 ((got'.length % 16 : Nat) : Int) [] (.inr ⟨rfl, rfl⟩) (by omega) (by have := HQ.out; omega) (by simp) (fun x hx => by simp at hx)
                  simpa using this)
                have HUB := Aside0.mk (fun (x : Int) (h0 : 0 ≤ x) (h1 : x < 1) => impl_unBack (got'.length % 16) HQ.out (l3.drop st.s2) x h0 h1)
                have HPBL := Aside0.mk (show (impl_packv 2 ((got'.length % 16 : Nat) : Int) []).length = 3 by rw [impl_packv_length]; rfl)
                generalize impl_packv 2 ((got'.length % 16 : Nat) : Int) [] = pb at HPB HUB HPBL
                refine (impl_PackLink.calls 700 2 _ none 0 [] pb true _ ?s0 ?s1 HPB.out).mono ?_
                case s0 => exact (Kd.R_reads' (Kd.R_nil (Kd.int .u8) 5 _ 0 (fun _ => True))).2.2
                case s1 => exact Nat.le_refl _
                rintro e w' ⟨ve, rfl, he, hb⟩
                have n0_ := Aside0.mk (Kd.S_below HS.out hb)
                have n1_ := Aside0.mk (HBOX.out.below hb)
                have n2_ := Aside0.mk (below_step HB.out hb)
                clear HS HBOX HB hb x0 x1 y0 y1
                have HS := n0_
                have HBOX := n1_
                have HB := n2_
                clear n0_ n1_ n2_
                obtain ⟨Ab, cb, eb⟩ := Kd.R_slice he
                subst eb
                go_wp2_with fail
                have hcb : Kd.C (Kd.slice 5 (Kd.int .u8)) (w'.alloc (.cells #[.slice Ab pb.length cb] 22)) (some ⟨w'.heap.size, 0, none⟩) [pb].length [pb] := by
                  refine ⟨rfl, by simp, fun _ => ⟨_, rfl, fun j p hj => ?_⟩⟩
                  cases j with
                  | zero =>
                    simp only [List.getElem?_cons_zero, Option.some.injEq] at hj
                    subst hj
                    refine ⟨[.slice Ab pb.length cb], rfl, (Kd.slice 5 (Kd.int .u8)).K_below (below_alloc (Below.refl _ _) _) ((Kd.slice 5 (Kd.int .u8)).K_of_M (Kd.M_row he)), fun i u hu => ?_⟩
                    cases i with
                    | zero =>
                      simp only [List.getElem?_cons_zero, Option.some.injEq] at hu
                      subst hu
                      simp [Addr.add]
                    | succ i => simp at hu
                  | succ j => simp at hj
                have ha1 : Below w'.heap.size w' (w'.alloc (.cells #[.slice Ab pb.length cb] 22)) := below_alloc (Below.refl _ _) _
                refine (pass_ok (G + 1 + 1) A3 c3 l3 st.s2 (some ⟨w'.heap.size, 0, none⟩) 1 [pb] _ (Kd.C_below HR3.out (below_alloc HB.out _)) HC3.out hcb (Nat.le_refl _) (HBOX.out.below ha1).b3 HF3.out (by simp) (by have := HOK.out.s2; have := HK.out; have := HM.out; omega) (by intro b hb; rw [List.mem_singleton] at hb; subst hb; have := HPBL.out; omega)).mono ?_
                rintro e w2 ⟨v3, w3, rfl, ho, hb, rfl⟩
                replace hb := ha1.trans (hb.mono ha1.size)
                obtain ⟨wC, hwC⟩ : ∃ W : World, W = w3.setCell ⟨G + 1 + 1, 1, none⟩ (.int .i64 ((st.s2 + [pb].length : Nat) : Int)) := ⟨_, rfl⟩
                rw [← hwC]
                have n1_ := Aside0.mk (show BoxL wC g G (.slice Ag got'.length cg) (st.rounds + 1) (st.s1 + i) (st.s2 + 1) (.slice A2 l2.length c2) (.slice A3 l3.length c3) by
                  rw [hwC]
                  exact (HBOX.out.below hb).setS2 HGG.out _)
                have n2_ := Aside0.mk (show Kd.S (Kd.slice 5 (Kd.int .u8)) 22 wC w.heap.size (fun _ => True) (.slice Ag got'.length cg) got' by
                  rw [hwC]
                  exact Kd.S_set (Kd.S_below HS.out hb) (HBOX.out.below hb).b3 (by decide) _ _)
                have n3_ := Aside0.mk (show Below w.heap.size w wC by
                  rw [hwC]
                  exact below_set (below_step HB.out hb) (by have := HWG.out; omega))
                have n4_ := Aside0.mk (show Kd.R (Kd.slice 5 (Kd.int .u8)) 22 wC w.heap.size (fun _ => True) v3 (passWire (l3.drop st.s2) [pb]) by
                  rw [hwC]
                  exact Kd.R_set (Kd.R_lower ho (Nat.le_trans (below_size HB.out) ha1.size)) (HBOX.out.below hb).b3 (by decide) _ _)
                clear HBOX HS HB hwC hb ho hcb ha1 he
                have HBOX := n1_
                have HS := n2_
                have HBC := n3_
                have HV := n4_
                clear n1_ n2_ n3_ n4_
                have HAR := Aside0.mk (show passWire (l3.drop st.s2) [pb] = (arrivals (l3.drop st.s2) 1).map (passOf (l3.drop st.s2) [pb]) from rfl)
                have HBM := Aside0.mk (arrivals_mem (l3.drop st.s2) 1)
                have HBL := Aside0.mk (arrivals_length (l3.drop st.s2) 1)
                obtain ⟨kn2, hkn2⟩ : ∃ x, x = (arrivals (l3.drop st.s2) 1).foldl (ack1 win (got'.length % 16) (l3.drop st.s2)) st.kn := ⟨_, rfl⟩
                have HKN2 := Aside0.mk hkn2
                have HLEN := Aside0.mk (show (passWire (l3.drop st.s2) [pb]).length = (arrivals (l3.drop st.s2) 1).length by rw [HAR.out, List.length_map])
                have HSTEP := Aside0.mk (show stepL win l1 l2 l3 st = ⟨got', kn2, st.s1 + i, st.s2 + 1, st.rounds + 1⟩ by rw [show stepL win l1 l2 l3 st = (let got := (arrivals (l2.drop st.s1) (sentN win l1.length st.kn)).foldl (recv1 l1 st.kn (l2.drop st.s1)) st.got; (⟨got, (arrivals (l3.drop st.s2) 1).foldl (ack1 win (got.length % 16) (l3.drop st.s2)) st.kn, st.s1 + sentN win l1.length st.kn, st.s2 + 1, st.rounds + 1⟩ : LSt)) from rfl, HNE.out]; simp only; rw [← HGT.out, ← hkn2])
                generalize passWire (l3.drop st.s2) [pb] = arr2 at HV HAR HLEN
                generalize arrivals (l3.drop st.s2) 1 = ar2 at HAR HBM HBL HKN2 HLEN hkn2
                generalize l3.drop st.s2 = gs at HUB HAR HKN2 hkn2
                clear hkn2
                obtain ⟨A130, c130, e130⟩ := Kd.R_slice HV.out
                subst e130
                have HB := Aside0.mk (Below.refl wC.heap.size wC)
                go_wp2_with fail
                go_loopg [15, 132] ar2.length (fun kq v15 v132 w' => ∃ (j kn' : Nat), v15 = .int .i64 (kn' : Int) ∧ v132 = .int .i64 (j : Int) ∧ Aside0 (j + kq = ar2.length) ∧ Aside0 ((ar2.drop j).foldl (ack1 win (got'.length % 16) gs) kn' = kn2) ∧ Aside0 (kn' ≤ st.kn + 8 * j) ∧ Aside0 (Below wC.heap.size wC w'))
                case atStart => exact ⟨0, st.kn, rfl, rfl, ⟨by simp⟩, ⟨HKN2.out.symm⟩, ⟨by omega⟩, HB⟩
                case round =>
                  clear HB
                  obtain ⟨j, kn', rfl, rfl, HJ, HG2, HGL, HB⟩ := hrel
                  cases gk with
                  | zero =>
                    obtain rfl : ar2.length = j := by have := HJ.out; omega
                    have c1 : decide ((ar2.length : Int) < arr2.length) = false := decide_eq_false (by have := HLEN.out; omega)
                    have c1n : decide (ar2.length < arr2.length) = false := decide_eq_false (by have := HLEN.out; omega)
                    rw [List.drop_length] at HG2
                    obtain rfl : kn' = kn2 := HG2.out
                    clear HG2 HUB HAR HLEN HV
                    go_wp2_with fail
                    go_roundg k1
                    case measure => omega
                    case rel => exact ⟨⟨got', kn', st.s1 + i, st.s2 + 1, st.rounds + 1⟩, .slice Ag got'.length cg, rfl, ⟨by have := HK.out; show st.rounds + 1 + k1 = m; omega⟩, ⟨by rw [← HSTEP.out, ← loopL_go _ HLT.out]; exact HR.out⟩, ⟨by rw [← HSTEP.out]; exact stepL_ok HW2.out HL.out HLT.out HOK.out⟩, ⟨HBOX.out.below HB.out⟩, ⟨Kd.S_below HS.out HB.out⟩, ⟨below_step HBC.out HB.out⟩⟩
                  | succ k4 =>
                    have hj : j < ar2.length := by have := HJ.out; omega
                    have c1 : decide ((j : Int) < arr2.length) = true := decide_eq_true (by have := HLEN.out; omega)
                    have c1n : decide (j < arr2.length) = true := decide_eq_true (by have := HLEN.out; omega)
                    have c2 : (0 ≤ (j : Int)) = True := eq_true (by omega)
                    have c3 : ((j : Int) < arr2.length) = True := eq_true (by have := HLEN.out; omega)
                    have c3n : (j < arr2.length) = True := eq_true (by have := HLEN.out; omega)
                    have hja : j < arr2.length := by have := HLEN.out; omega
                    obtain ⟨ad, Ab2, cb2, hA, hx, hcap, hrr⟩ := at_L2 (Kd.C_below (Kd.R_reads' HV.out).2.2 HB.out) (j : Int) (by omega) (by omega)
                    subst hA
                    have HD := Aside0.mk (show ar2.drop j = ar2[j] :: ar2.drop (j + 1) from List.drop_eq_getElem_cons hj)
                    have ha := HBM.out ar2[j] (List.getElem_mem hj)
                    have hu := HUB.out ar2[j] ha.1 ha.2
                    have hpj : rd_L2 arr2 (j : Int) = passOf gs [pb] ar2[j] := by rw [rd_L2_get hja]; simp [HAR.out]
                    rw [hpj, Int.toNat_natCast] at hx
                    rw [hpj] at hcap hrr
                    generalize passOf gs [pb] ar2[j] = pj at hx hcap hrr hu
                    generalize ar2[j] = idx at HD ha hu
                    have HU := Aside0.mk hu
                    have HRB := Aside0.mk hrr
                    have HCB := Aside0.mk hcap
                    clear hu hrr hcap ha hpj hj hja
                    have hw1 : wrap64 ((j : Int) + 1) = ((j + 1 : Nat) : Int) := by rw [w64 _ (by have := HJ.out; have := HBL.out; omega)]; simp
                    by_cases hf : fateN gs idx.toNat = 4
                    · have HREC := Aside0.mk (show ack1 win (got'.length % 16) gs kn' idx = kn' by unfold ack1; rw [if_pos hf])
                      unfold unBack at HU
                      rw [if_pos hf] at HU
                      clear hf
                      go_wp2_with (go_at_call 34; (with_reducible refine (impl_UnpackLink.calls 700 _ _ pj _ _ _ _ _ ?s0 ?s1 HU.out).mono ?_); (case s0 => exact HRB.out); (case s1 => exact HCB.out); rintro e w' ⟨ve, rfl, he, hb⟩; have n2_ := Aside0.mk (below_step HB.out hb); clear HB; have HB := n2_; clear n2_ he hb)
                      go_roundg k4
                      case measure => omega
                      case rel => exact ⟨j + 1, kn', rfl, by rw [hw1], ⟨by have := HJ.out; omega⟩, ⟨by have := HG2.out; rw [HD.out, List.foldl_cons, HREC.out] at this; exact this⟩, ⟨by have := HGL.out; omega⟩, HB⟩
                    · have HREC := Aside0.mk (show ack1 win (got'.length % 16) gs kn' idx = ackFind kn' win (got'.length % 16) by unfold ack1; rw [if_neg hf])
                      unfold unBack at HU
                      rw [if_neg hf] at HU
                      clear hf
                      go_wp2_with (go_at_call 34; (with_reducible refine (impl_UnpackLink.calls 700 _ _ pj _ _ _ _ _ ?s0 ?s1 HU.out).mono ?_); (case s0 => exact HRB.out); (case s1 => exact HCB.out); rintro e w' ⟨ve, rfl, he, hb⟩; have n2_ := Aside0.mk (below_step HB.out hb); clear HB; have HB := n2_; clear n2_ he hb)
                      go_loopg [15, 34] (win + 1) (fun kq v15 v34 wx => ∃ d : Nat, v15 = .int .i64 (kn' : Int) ∧ v34 = .int .i64 ((kn' + d : Nat) : Int) ∧ wx = w' ∧ Aside0 (d + kq = win + 1) ∧ Aside0 (∀ e, e < d → (kn' + e) % 16 ≠ got'.length % 16))
                      case atStart => exact ⟨0, rfl, rfl, rfl, ⟨by simp⟩, ⟨fun e he => absurd he (by omega)⟩⟩
                      case round =>
                        obtain ⟨d, rfl, rfl, rfl, HDK, HMISS⟩ := hrel
                        have hwk : wrap64 ((kn' : Int) + win) = (kn' : Int) + win := w64 _ (by have := HGL.out; have := HOK.out.kn; have := HBL.out; have := HJ.out; have := HW2.out; omega)
                        have hwd : wrap64 ((kn' : Int) + d + 1) = ((kn' + (d + 1) : Nat) : Int) := by rw [w64 _ (by have := HGL.out; have := HOK.out.kn; have := HBL.out; have := HJ.out; have := HW2.out; have := HDK.out; omega)]; simp; omega
                        cases gk with
                        | zero =>
                          have hdw : ¬ d ≤ win := by have := HDK.out; omega
                          have g1 : decide (d ≤ win) = false := decide_eq_false hdw
                          have g2 : decide ((d : Int) ≤ win) = false := decide_eq_false (by omega)
                          have g3 : decide ((kn' : Int) + d ≤ (kn' : Int) + win) = false := decide_eq_false (by omega)
                          have g4 : decide (((kn' + d : Nat) : Int) ≤ (kn' : Int) + win) = false := decide_eq_false (by omega)
                          have HACK := Aside0.mk (show ackFind kn' win (got'.length % 16) = kn' from ackFind_miss (fun e he => HMISS.out e (by omega)))
                          clear hdw
                          go_wp2_with fail
                          go_roundg k4
                          case measure => omega
                          case rel => exact ⟨j + 1, kn', rfl, by rw [hw1], ⟨by have := HJ.out; omega⟩, ⟨by have := HG2.out; rw [HD.out, List.foldl_cons, HREC.out, HACK.out] at this; exact this⟩, ⟨by have := HGL.out; omega⟩, HB⟩
                        | succ k5 =>
                          have hdw : d ≤ win := by have := HDK.out; omega
                          have g1 : decide (d ≤ win) = true := decide_eq_true hdw
                          have g2 : decide ((d : Int) ≤ win) = true := decide_eq_true (by omega)
                          have g3 : decide ((kn' : Int) + d ≤ (kn' : Int) + win) = true := decide_eq_true (by omega)
                          have g4 : decide (((kn' + d : Nat) : Int) ≤ (kn' : Int) + win) = true := decide_eq_true (by omega)
                          have g5 : Int.tmod ((kn' : Int) + d) 16 = ((kn' : Int) + d) % 16 := Int.tmod_eq_emod_of_nonneg (by omega)
                          have HDW := Aside0.mk hdw
                          clear hdw
                          by_cases hq : (kn' + d) % 16 = got'.length % 16
                          · have HACK := Aside0.mk (show ackFind kn' win (got'.length % 16) = kn' + d from ackFind_hit HDW.out hq HMISS.out)
                            have q1 : ((((kn' + d) % 16 : Nat) : Int) == (got'.length : Int) % 16) = true := beq_iff_eq.mpr (by omega)
                            have q2 : ((((kn' : Int) + d) % 16) == (got'.length : Int) % 16) = true := beq_iff_eq.mpr (by omega)
                            clear hq
                            go_wp2_with fail
                            go_roundg k4
                            case measure => omega
                            case rel => exact ⟨j + 1, kn' + d, by first | rfl | simp, by rw [hw1], ⟨by have := HJ.out; omega⟩, ⟨by have := HG2.out; rw [HD.out, List.foldl_cons, HREC.out, HACK.out] at this; exact this⟩, ⟨by have := HGL.out; have := HDW.out; have := HW2.out; omega⟩, HB⟩
                          · have HQN := Aside0.mk hq
                            have q1 : ((((kn' + d) % 16 : Nat) : Int) == (got'.length : Int) % 16) = false := beq_eq_false_iff_ne.mpr (by omega)
                            have q2 : ((((kn' : Int) + d) % 16) == (got'.length : Int) % 16) = false := beq_eq_false_iff_ne.mpr (by omega)
                            clear hq
                            go_wp2_with fail
                            go_roundg k5
                            case measure => omega
                            case rel => exact ⟨d + 1, rfl, by first | rfl | (rw [hwd]) | (rw [← hwd]; simp), rfl, ⟨by have := HDK.out; omega⟩, ⟨fun e he => by rcases Nat.lt_or_ge e d with h | h; exact HMISS.out e h; have h2 : e = d := (by omega); rw [h2]; exact HQN.out⟩⟩
              | succ k3 =>
                have hj : j < ar.length := by have := HJ.out; omega
                have c1 : decide ((j : Int) < arr.length) = true := decide_eq_true (by have := HLEN.out; omega)
                have c1n : decide (j < arr.length) = true := decide_eq_true (by have := HLEN.out; omega)
                have c2 : (0 ≤ (j : Int)) = True := eq_true (by omega)
                have c3 : ((j : Int) < arr.length) = True := eq_true (by have := HLEN.out; omega)
                have c3n : (j < arr.length) = True := eq_true (by have := HLEN.out; omega)
                have hja : j < arr.length := by have := HLEN.out; omega
                obtain ⟨ad, Ab, cb, hA, hx, hcap, hrr⟩ := at_L2 (Kd.R_reads' HV.out).2.2 (j : Int) (by omega) (by omega)
                subst hA
                have hd : ar.drop j = ar[j] :: ar.drop (j + 1) := List.drop_eq_getElem_cons hj
                have HD := Aside0.mk hd
                have ha := HAM.out ar[j] (List.getElem_mem hj)
                have hu := HUN.out ar[j] ha.1 ha.2
                have hpj : rd_L2 arr (j : Int) = passOf fs pks ar[j] := by rw [rd_L2_get hja]; simp [HAR.out]
                rw [hpj, Int.toNat_natCast] at hx
                rw [hpj] at hcap hrr
                generalize passOf fs pks ar[j] = pj at hx hcap hrr hu
                generalize ar[j] = idx at HD ha hu
                have HU := Aside0.mk hu
                have HRB := Aside0.mk hrr
                have HCB := Aside0.mk hcap
                have HID := Aside0.mk ha
                clear hd hu hrr hcap ha hpj hj hja
                have hw1 : wrap64 ((j : Int) + 1) = ((j + 1 : Nat) : Int) := by rw [w64 _ (by have := HJ.out; have := HAL.out; have := HNL.out; omega)]; simp
                by_cases hf : fateN fs idx.toNat = 4
                · have HREC := Aside0.mk (show recv1 l1 st.kn fs got' idx = got' by unfold recv1; rw [if_pos hf])
                  unfold unOf at HU
                  rw [if_pos hf] at HU
                  clear hf
                  go_wp2_with (go_at_call 34; (with_reducible refine (impl_UnpackLink.calls 700 _ _ pj _ _ _ _ _ ?s0 ?s1 HU.out).mono ?_); (case s0 => exact HRB.out); (case s1 => exact HCB.out); rintro e w' ⟨ve, rfl, he, hb⟩; have n0_ := Aside0.mk (Kd.S_below HS.out hb); have n1_ := Aside0.mk (Kd.R_below HV.out hb); have n2_ := Aside0.mk (below_step HB.out hb); have n3_ := Aside0.mk (HBOX.out.below hb); clear HS HV HB HBOX; have HS := n0_; have HV := n1_; have HB := n2_; have HBOX := n3_; clear n0_ n1_ n2_ n3_ he hb)
                  go_roundg k3
                  case measure => omega
                  case rel => exact ⟨j + 1, vg', got', by rw [hw1], ⟨by have := HJ.out; omega⟩, ⟨by have := HG2.out; rw [HD.out, List.foldl_cons, HREC.out] at this; exact this⟩, ⟨by have := HGL.out; omega⟩, HBOX, HS, HV, HB⟩
                · unfold unOf at HU
                  rw [if_neg hf] at HU
                  obtain ⟨Ag, cg, eg⟩ := Kd.S_slice HS.out
                  subst eg
                  have hrem : Int.tmod (got'.length : Int) 16 = ((got'.length % 16 : Nat) : Int) := by rw [Int.tmod_eq_emod_of_nonneg (by omega)]; simp
                  have hrem2 : Int.tmod (got'.length : Int) 16 = (got'.length : Int) % 16 := by rw [Int.tmod_eq_emod_of_nonneg (by omega)]
                  by_cases hq : (st.kn + idx.toNat) % 16 = got'.length % 16
                  · have HREC := Aside0.mk (show recv1 l1 st.kn fs got' idx = got' ++ [l1.getD (st.kn + idx.toNat) []] by unfold recv1; rw [if_neg hf, if_pos hq])
                    rw [hq] at HU
                    generalize l1.getD (st.kn + idx.toNat) [] = d at HREC HU
                    clear hq hf
                    have e6 : (((got'.length % 16 : Nat) : Int) == (got'.length : Int) % 16) = true := by simp
                    go_wp2_with (first
              | (go_at_call 34; (with_reducible refine (impl_UnpackLink.calls 700 _ _ pj _ _ _ _ _ ?s0 ?s1 HU.out).mono ?_); (case s0 => exact HRB.out); (case s1 => exact HCB.out); rintro e w' ⟨ve, rfl, he, hb⟩; have n4_ := Aside0.mk (fun (k : Nat) (hk : some k = ve.ownBlock) (e : some k = (Value.slice Ag got'.length cg).ownBlock) => (by have h1 := Kd.R_base he k hk.symm; have h2 := Kd.S_lt HS.out k e.symm; omega : False)); have n5_ := Aside0.mk (Kd.R_tight rfl (Kd.R_lower he (below_size HB.out))); have n0_ := Aside0.mk (Kd.S_elder' HS.out (Kd.R_base he) hb); have n1_ := Aside0.mk (Kd.R_below HV.out hb); have n2_ := Aside0.mk (below_step HB.out hb); have n3_ := Aside0.mk (HBOX.out.below hb); clear HS HV HB HBOX; have HS := n0_; have HV := n1_; have HB := n2_; have HBOX := n3_; obtain ⟨x0, x1, y0, y1⟩ := HBOX.out.cells; have HAP := n4_; have HE := n5_; clear n0_ n1_ n2_ n3_ n4_ n5_ he hb; obtain ⟨Ae, ce, ee⟩ := Kd.R_slice HE.out; subst ee)
              | ((with_reducible refine gate_builtin (b := .append) (xs := #[.tmp 114, .tmp 116]) rfl ?_); at_builtin; refine Kd.S_append (Kd.slice 5 (Kd.int .u8)) (w0 := w) w.heap.size rfl (.tmp 114) (.tmp 116) 23 22 (.slice none 0 0) 24 rfl Try.underlying23 info22 rfl (by decide) (by omega) (.slice Ag got'.length cg) got' d [.slice Ae d.length ce] (fun _ => True) (fun k_ => some k_ = (.slice Ae d.length ce : Value).ownBlock) rfl (by first | rfl | (show Value.slice _ 1 1 = _; simp)) ?aP (fun k_ hk_ => ⟨trivial, fun e_ => HAP.out k_ hk_ e_⟩) ?aF ?aO ?aB ?aS ?aL ?_; (case aP => exact Kd.M_row HE.out); (case aB => exact HB.out); (case aF => exact (fun _ _ => trivial)); (case aO => exact HS.out); (case aS => exact below_size HB.out); (case aL => have := HGL.out; have := HOK.out.got; have := HK.out; have := HM.out; have := HAL.out; have := HNL.out; have := HJ.out; omega); intro v1 w1 ho hb hg hat; have n0_ := Aside0.mk (Kd.R_after HV.out hg hat); have n1_ := Aside0.mk (HBOX.out.grown hg (Kd.S_typed HS.out)); have n2_ := Aside0.mk ho; have n3_ := Aside0.mk hb; clear x0 x1 y0 y1 HV HBOX HS HB HAP HE; have HV := n0_; have HBOX := n1_; have HSN := n2_; have HB := n3_; clear n0_ n1_ n2_ n3_ ho hb hg hat; obtain ⟨A1_, c1_, e1_⟩ := Kd.S_slice HSN.out; subst e1_; obtain ⟨x0, x1, y0, y1⟩ := HBOX.out.cells))
                    go_roundg k3
                    case measure => omega
                    case rel =>
                      have hl2 : got'.length + 1 = (got' ++ [d]).length := by simp
                      exact ⟨j + 1, .slice A1_ (got' ++ [d]).length c1_, got' ++ [d], by rw [hw1], ⟨by have := HJ.out; omega⟩, ⟨by have := HG2.out; rw [HD.out, List.foldl_cons, HREC.out] at this; exact this⟩, ⟨by have := HGL.out; simp; omega⟩, ⟨by rw [hl2]; exact HBOX.out.setG HGG.out _⟩, ⟨by rw [hl2]; exact Kd.S_set HSN.out HBOX.out.b1 (by decide) _ _⟩, ⟨by rw [hl2]; exact Kd.R_set HV.out HBOX.out.b1 (by decide) _ _⟩, ⟨below_set HB.out HWG.out⟩⟩
                  · have HREC := Aside0.mk (show recv1 l1 st.kn fs got' idx = got' by unfold recv1; rw [if_neg hf, if_neg hq])
                    have e6 : ((((st.kn + idx.toNat) % 16 : Nat) : Int) == (got'.length : Int) % 16) = false := beq_eq_false_iff_ne.mpr (by omega)
                    have e7 : (((st.kn : Int) + (idx.toNat : Int)) % 16 == (got'.length : Int) % 16) = false := beq_eq_false_iff_ne.mpr (by omega)
                    generalize idx.toNat = ix at *
                    clear hq hf
                    go_wp2_with (go_at_call 34; (with_reducible refine (impl_UnpackLink.calls 700 _ _ pj _ _ _ _ _ ?s0 ?s1 HU.out).mono ?_); (case s0 => exact HRB.out); (case s1 => exact HCB.out); rintro e w' ⟨ve, rfl, he, hb⟩; have n0_ := Aside0.mk (Kd.S_below HS.out hb); have n1_ := Aside0.mk (Kd.R_below HV.out hb); have n2_ := Aside0.mk (below_step HB.out hb); have n3_ := Aside0.mk (HBOX.out.below hb); clear HS HV HB HBOX; have HS := n0_; have HV := n1_; have HB := n2_; have HBOX := n3_; obtain ⟨x0, x1, y0, y1⟩ := HBOX.out.cells; clear n0_ n1_ n2_ n3_ he hb)
                    go_roundg k3
                    case measure => omega
                    case rel => exact ⟨j + 1, _, got', by rw [hw1], ⟨by have := HJ.out; omega⟩, ⟨by have := HG2.out; rw [HD.out, List.foldl_cons, HREC.out] at this; exact this⟩, ⟨by have := HGL.out; omega⟩, HBOX, HS, HV, HB⟩
          | succ k2 =>
            have hi : i < n := by have := HI.out; omega
            have t0 : ((st.kn : Int) + i < min (l1.length : Int) (wrap64 ((st.kn : Int) + win))) := by rw [w64 _ (by have := HOK.out.kn; have := HW2.out; omega)]; have := HN.out; have := HLT.out; omega
            have t1 := eq_true t0
            have t3 : decide (((st.kn + i : Nat) : Int) < min (l1.length : Int) (wrap64 ((st.kn : Int) + win))) = true := decide_eq_true (by rw [Int.natCast_add]; exact t0)
            have t4 : decide ((st.kn : Int) + i < min (l1.length : Int) (wrap64 ((st.kn : Int) + win))) = true := decide_eq_true t0
            have hki : st.kn + i < l1.length := by have := HN.out; omega
            have t5 : (0 ≤ ((st.kn + i : Nat) : Int)) = True := eq_true (by omega)
            have t6 : (((st.kn + i : Nat) : Int) < l1.length) = True := eq_true (by omega)
            have t7 : (0 ≤ (st.kn : Int) + i) = True := eq_true (by omega)
            have t8 : ((st.kn : Int) + i < l1.length) = True := eq_true (by omega)
            have t9 : Int.tmod ((st.kn + i : Nat) : Int) 16 = (((st.kn + i) % 16 : Nat) : Int) := by rw [Int.tmod_eq_emod_of_nonneg (by omega)]; simp
            have t10 : Int.tmod ((st.kn : Int) + i) 16 = (((st.kn + i) % 16 : Nat) : Int) := by rw [← Int.natCast_add]; exact t9
            obtain ⟨ad, Ab, cb, hA, hx, hcap, hrr⟩ := at_L2 HR1.out ((st.kn + i : Nat) : Int) (by omega) (by omega)
            subst hA
            replace hx := ((HBA.out.trans (HB.out.mono HBA.out.size)).cell (World.block_lt_of_cell? _ _ hx)).trans hx
            rw [rd_L2_get hki] at hx hcap hrr
            have HSUCC := Aside0.mk (impl_packs_succ l1 st.kn i)
            have hgd : l1.getD (st.kn + i) [] = l1[st.kn + i] := by rw [List.getD_eq_getElem?_getD, List.getElem?_eq_getElem hki]; rfl
            rw [hgd] at HSUCC
            have HPK := Aside0.mk (impl_pack 1 (((st.kn + i) % 16 : Nat) : Int) l1[st.kn + i] (.inl rfl) (by omega) (by omega) (by rw [← hgd]; exact short_getD HSH.out _) (by rw [← hgd]; exact bytesOk_getD HBO.out _))
            clear hgd
            generalize l1[st.kn + i] = b at hx hcap hrr HSUCC HPK
            have HRB := Aside0.mk hrr
            have HCB := Aside0.mk hcap
            clear hrr hcap
            rw [Int.toNat_natCast] at hx
            generalize impl_packv 1 (((st.kn + i) % 16 : Nat) : Int) b = pk at HSUCC HPK
            have HPK2 := Aside0.mk (show impl_PackLink.f 700 1 (((st.kn : Int) + i) % 16) b = some (pk, true) by have := HPK.out; simpa using this)
            have HX := Aside0.mk (impl_packs_length l1 st.kn i)
            have hw1 : wrap64 ((st.kn : Int) + i + 1) = ((st.kn + (i + 1) : Nat) : Int) := by rw [w64 _ (by have := HL.out; omega)]; simp; omega
            go_wp2_with (first
              | (go_at_call 32; (with_reducible refine (impl_PackLink.calls 700 1 _ Ab cb b pk true _ (Kd.C_below HRB.out (HBA.out.trans (HB.out.mono HBA.out.size))) HCB.out HPK2.out).mono ?_); rintro e w' ⟨ve, rfl, he, hb⟩; obtain ⟨_, hown⟩ := Kd.R_own HO.out; have n2_ := Aside0.mk (Kd.R_lower (Kd.R_mono (ok' := fun k_ => some k_ ≠ (u16 : Value).ownBlock) (Kd.R_new he hown) (fun _ hk => hk.2)) (below_size HB.out)); clear hown; have n0_ := Aside0.mk (Kd.R_below HO.out hb); have n1_ := Aside0.mk (below_step HB.out hb); clear HO HB; have HO := n0_; have HB := n1_; have HE := n2_; clear n0_ n1_ n2_ hb he; obtain ⟨Ae, ce, ee⟩ := Kd.R_slice HE.out; subst ee)
              | ((with_reducible refine gate_builtin (b := .append) (xs := #[.tmp 82, .tmp 84]) rfl ?_); at_builtin; refine Kd.R_append (Kd.slice 5 (Kd.int .u8)) (w0 := wA) wA.heap.size rfl (.tmp 82) (.tmp 84) 23 22 (.slice none 0 0) 24 rfl Try.underlying23 info22 rfl (by decide) (by omega) u16 (impl_packs l1 st.kn i) pk [(.slice Ae pk.length ce)] (fun _ => True) (fun k_ => some k_ ≠ (u16 : Value).ownBlock) rfl (by first | rfl | (show Value.slice _ 1 1 = _; simp)) ?aP (fun _ hk => ⟨trivial, hk⟩) ?aF ?aO ?aB ?aS ?aL ?_; (case aP => exact Kd.M_row HE.out); (case aB => exact (by repeat (first | (with_reducible first | exact HB.out | apply below_alloc | apply pw_below_drewN | apply below_drew1) | exact HB.out))); (case aF => exact (fun _ _ => trivial)); (case aO => exact (by (with_reducible repeat (first | apply Kd.R_alloc | apply Kd.R_drewN | apply Kd.R_drew)); exact HO.out)); (case aS => exact (below_size (by repeat (first | (with_reducible first | exact HB.out | apply below_alloc | apply pw_below_drewN | apply below_drew1) | exact HB.out)))); (case aL => have := HX.out; have := HN.out; have := HL.out; first | omega | (simp; omega) | (simp at *; omega)); intro v2 w8 ho hb hg hat; have n0_ := Aside0.mk (hb); have n1_ := Aside0.mk (ho); clear HB; clear HO; have HB := n0_; have HO2 := n1_; clear n0_ n1_; clear ho hb hg hat))
            go_roundg k2
            case measure => omega
            case rel => exact ⟨i + 1, by first | rfl | (rw [← hw1]; simp) | (rw [hw1]) | (simp; omega), ⟨by have := HI.out; omega⟩, ⟨by rw [HSUCC.out]; exact HO2.out⟩, ⟨(by repeat (first | (with_reducible first | exact HB.out | apply below_alloc | apply pw_below_drewN | apply below_drew1) | exact HB.out))⟩⟩
    · have e1 : decide ((st.kn : Int) < l1.length) = false := decide_eq_false (by omega)
      have e1n : decide (st.kn < l1.length) = false := decide_eq_false (by omega)
      have e3 : decide ((st.kn : Int) ≥ l1.length) = true := decide_eq_true (by omega)
      have e4 : decide ((l1.length : Int) ≤ st.kn) = true := decide_eq_true (by omega)
      have e5 := Aside0.mk (show decide (l1.length ≤ st.kn) = true from decide_eq_true (by omega))
      have hr : loopL win l1 l2 l3 gk st = st := loopL_stop gk hlt
      obtain rfl : st = res := hr.symm.trans HR.out
      obtain ⟨Ag, cg, rfl⟩ := Kd.S_slice HS.out
      obtain ⟨⟨x0, x1, x2, x3⟩, y0, y1, y2, y3⟩ := HBOX.out.cellsG
      obtain ⟨⟨z0, z1, z2, z3⟩, q0, q1, q2, q3⟩ := HBOX.out.cells0
      obtain ⟨u1, u2⟩ := HBOX.out.cellsS
      have hw1 : wrap64 ((st.s1 : Int) + st.s2) = ((st.s1 + st.s2 : Nat) : Int) := by rw [w64 _ (by have := HOK.out.s1; have := HOK.out.s2; have := HK.out; have := HM.out; omega)]; simp
      have hne : g ≠ G := by have := HGG.out; omega
      have hne2 : G ≠ g := by have := HGG.out; omega
      go_wp2_with fail
      refine bodyPost_ret (v := .tuple #[.agg #[.slice Ag st.got.length cg, .int .i64 st.rounds, .int .i64 ((st.s1 : Int) + st.s2), .bool (decide (l1.length ≤ st.kn))], .bool true]) ?hres rfl ?_
      case hres => exact (results_ct (p := 10) (u := 11) (ty := 28) rfl _ _ g 28 #[.slice Ag st.got.length cg, .int .i64 st.rounds, .int .i64 ((st.s1 : Int) + st.s2), .bool (decide (l1.length ≤ st.kn))] (0, 0) _ rfl (heap_set (heap_set (heap_set (heap_set (BoxL.other (BoxL.other HBOX.out.b0 G hne2 _ _) G hne2 _ _))))) Try.underlying28 rfl (by kernel_rfl))
      refine ⟨.slice Ag st.got.length cg, by rw [show ((st.s1 + st.s2 : Nat) : Int) = (st.s1 : Int) + st.s2 by simp], ?_, ?_⟩
      · have hS1 := Kd.S_set HS.out HBOX.out.b1 (by decide) 2 (.int .i64 ((st.s1 : Int) + st.s2))
        have hS2 := Kd.S_set hS1 (heap_set HBOX.out.b1) (by decide) 3 (.bool (decide (l1.length ≤ st.kn)))
        have h0 := BoxL.other (BoxL.other HBOX.out.b0 G hne2 2 (.int .i64 ((st.s1 : Int) + st.s2))) G hne2 3 (.bool (decide (l1.length ≤ st.kn)))
        exact Kd.S_set (Kd.S_set (Kd.S_set (Kd.S_set hS2 h0 (by decide) _ _) (heap_set h0) (by decide) _ _) (heap_set (heap_set h0)) (by decide) _ _) (heap_set (heap_set (heap_set h0))) (by decide) _ _
      · have hg0 := HG0.out
        exact below_set (below_set (below_set (below_set (below_set (below_set HB.out HWG.out) HWG.out) (by omega)) (by omega)) (by omega)) (by omega)
end Go.Proofs.Ytookabfmbimnoaa.Lk

namespace Go.Proofs.Ytookabfmbimnoaa.Lk
open Go.RowKit Go.Proofs.YtookabfmbimnoaaW.PrintWords Go.Proofs.YtookabfmbimnoaaW.PrintLast Go.Proofs.YtookabfmbimnoaaW.PrintMore
set_option linter.unusedVariables false
set_option linter.unusedSimpArgs false

theorem S_of_nil {α : Type} {d : Kd α} {e : Nat} {w : World} {base : Nat} {ok : Nat → Prop} {v : Value} (h : d.R e w base ok v []) : Kd.S d e w base ok v [] := by
  obtain ⟨h0, inner, ho, hr⟩ := h
  exact ⟨fun _ => 0, h0, inner, ho, hr.1, fun j p hj => by simp at hj⟩
set_option maxHeartbeats 8000000 in
set_option maxRecDepth 100000 in
theorem l5Run_ok (win : Nat) (A1 : Option Addr) (c1 : Nat) (l1 : List (List Int)) (A2 : Option Addr) (c2 : Nat) (l2 : List Int) (A3 : Option Addr) (c3 : Nat) (l3 : List Int) (m : Nat) (w : World)
    (hr1 : Kd.C (Kd.slice 5 (Kd.int .u8)) w A1 l1.length l1) (hc1 : l1.length ≤ c1) (hr2 : Kd.C (Kd.int .i64) w A2 l2.length l2) (hc2 : l2.length ≤ c2) (hr3 : Kd.C (Kd.int .i64) w A3 l3.length l3) (hc3 : l3.length ≤ c3) (h : impl_linkOk.f (win : Int) l1 l2 l3 (m : Int) = some true) (hbo : bytesOk l1 = true) :
    Calls Try.prog 37 #[.int .i64 (win : Int), .slice A1 l1.length c1, .slice A2 l2.length c2, .slice A3 l3.length c3, .int .i64 (m : Int)] w fun e w' => ∃ v0_ : Value, e = .returned (.agg #[v0_, .int .i64 ((runL win l1 l2 l3 m).rounds : Int), .int .i64 (((runL win l1 l2 l3 m).s1 + (runL win l1 l2 l3 m).s2 : Nat) : Int), .bool (decide (l1.length ≤ (runL win l1 l2 l3 m).kn))]) ∧ Kd.S (Kd.slice 5 (Kd.int .u8)) 22 w' w.heap.size (fun _ => True) v0_ (runL win l1 l2 l3 m).got ∧ Below w.heap.size w w' := by
  have h0 := Option.some.inj h
  simp only [Bool.and_eq_true, winOk, rndOk, decide_eq_true_eq] at h0
  obtain ⟨⟨hw1, hw2⟩, hl1, hsh, hf2, hf3, hm1, hm2⟩ := h0
  have HW1 := Aside0.mk (show 1 ≤ win by omega)
  have HW2 := Aside0.mk (show win ≤ 8 by omega)
  have HL := Aside0.mk hl1
  have HSH := Aside0.mk hsh
  have HF2 := Aside0.mk hf2
  have HF3 := Aside0.mk hf3
  have HM := Aside0.mk (show m ≤ 400 by omega)
  have HBO := Aside0.mk hbo
  have HR1 := Aside0.mk hr1
  have HR2 := Aside0.mk hr2
  have HR3 := Aside0.mk hr3
  have HC1 := Aside0.mk hc1
  have HC2 := Aside0.mk hc2
  have HC3 := Aside0.mk hc3
  clear hr1 hc1 hr2 hc2 hr3 hc3 h hw1 hw2 hl1 hsh hf2 hf3 hm1 hm2 hbo
  have HRUN := Aside0.mk (show runL win l1 l2 l3 m = loopL win l1 l2 l3 m ⟨[], 0, 0, 0, 0⟩ from rfl)
  generalize runL win l1 l2 l3 m = res at HRUN ⊢
  have HB := Aside0.mk (Below.refl w.heap.size w)
  go_enter Try.func37, Try.ntmps37
  go_wp2_with (first
      | ((with_reducible refine gate_dst (N := 14) rfl ?_); refine Kd.R_lit (Kd.slice 5 (Kd.int .u8)) _ 22 ?hg (N := 14) ?hd (xs := ([] : List _)) (inner := []) (ok := fun _ => True) (okp := fun _ => True) ?hr ?hp (fun _ hk => hk) trivial (Below.refl _ _) (Nat.le_refl _) (by simp) ?_; (case hd => rfl); (case hg => rfl); (case hr => first | (go_simp; done) | (go_simp; rfl)); (case hp => exact (Reps.none _ _)); intro v0 w6 ho7 hb hg_ hnew_; clear hg_ hnew_; have NB := Aside0.mk hb; have NO := Aside0.mk ho7; have n0_ := Aside0.mk (Kd.R_lower ho7 (below_size (by repeat (first | (with_reducible first | exact HB.out | apply below_alloc | apply pw_below_drewN | apply below_drew1) | exact HB.out)))); have n1_ := Aside0.mk (below_step (by repeat (first | (with_reducible first | exact HB.out | apply below_alloc | apply pw_below_drewN | apply below_drew1) | exact HB.out)) hb); clear HB; have HO0 := n0_; have HB := n1_; clear n0_ n1_; clear hb ho7; obtain ⟨Al, cl, el⟩ := Kd.R_slice HO0.out; subst el))
  clear HO0 HB
  obtain ⟨W1, hW1⟩ : ∃ W : World, W = w.alloc (.cells #[.slice none 0 0, .int .i64 0, .int .i64 0, .bool false] 28) := ⟨_, rfl⟩
  rw [← hW1] at NB NO
  have HBW := Aside0.mk (show Below w.heap.size w W1 by rw [hW1]; exact below_alloc (Below.refl _ _) _)
  have hx1 : W1.heap[w.heap.size]? = some (.cells #[.slice none 0 0, .int .i64 0, .int .i64 0, .bool false] 28 (0, 0)) := by rw [hW1]; exact blk_new _ _
  clear hW1
  generalize hg : w.heap.size = g at hx1
  have HGE := Aside0.mk (Nat.le_of_eq hg)
  have HX1 := Aside0.mk hx1
  clear hx1 hg
  have hS0 := S_of_nil NO.out
  have HXX : ∃ (W2 : World) (G : Nat), G = w6.heap.size ∧ W2 = w6.alloc (Obj.cells #[Value.slice Al 0 cl, Value.int IntKind.i64 0, Value.int IntKind.i64 0, Value.bool false, Value.int IntKind.i64 0, Value.slice A2 l2.length c2, Value.slice A3 l3.length c3] 76) ∧ g < G ∧ SBox W1 W2 G l2 l3 ⟨[], 0, 0, 0, 0⟩ := by
    refine ⟨_, _, rfl, rfl, heap_lt (blk_below HX1.out NB.out), ⟨⟨.slice Al 0 cl, .slice A2 l2.length c2, .slice A3 l3.length c3, blk_new _ _, Kd.S_alloc hS0 _, .inl ⟨A2, c2, rfl, HC2.out, Kd.C_below HR2.out HBW.out⟩, .inl ⟨A3, c3, rfl, HC3.out, Kd.C_below HR3.out HBW.out⟩⟩, NB.out.size, below_alloc NB.out _⟩⟩
  obtain ⟨W2, G, hG, hW2, hgG, hbox⟩ := HXX
  rw [← hG, ← hW2]
  have HR1W := Aside0.mk (Kd.C_below HR1.out HBW.out)
  clear hW2 hS0 NO NB HR1 HR2 HR3
  have HGG := Aside0.mk hgG
  have HBOX := Aside0.mk hbox
  clear hgG hbox hG w6
  go_loopg [33] m (fun kq v33 w' => ∃ (st : LSt), Aside0 (st.rounds + kq = m) ∧ Aside0 (loopL win l1 l2 l3 kq st = res) ∧ Aside0 (StOk st) ∧ Aside0 (SBox W1 w' G l2 l3 st))
  case atStart => exact ⟨⟨[], 0, 0, 0, 0⟩, ⟨by simp⟩, ⟨HRUN.out.symm⟩, ⟨⟨by simp, by simp, by simp, by simp⟩⟩, HBOX⟩
  case round =>
    clear HBOX HRUN
    obtain ⟨st, HK, HR, HOK, HBOX⟩ := hrel
    obtain ⟨⟨vg, vt, vb, hx, hS, hT, hV⟩, hge2, hbel⟩ := HBOX.out
    obtain ⟨⟨x0, x1, x2, x3, x4, x5, x6⟩, y0, y1, y2, y3, y4, y5, y6⟩ := cells76 hx
    have HX := Aside0.mk hx
    have HS := Aside0.mk hS
    have HT := Aside0.mk hT
    have HV := Aside0.mk hV
    have HGE2 := Aside0.mk hge2
    have HB := Aside0.mk hbel
    clear hx hS hT hV hge2 hbel HBOX
    cases gk with
    | zero =>
      have hr : loopL win l1 l2 l3 0 st = st := rfl
      have e2 : decide ((st.rounds : Int) < m) = false := decide_eq_false (by have := HK.out; omega)
      have e2n : decide (st.rounds < m) = false := decide_eq_false (by have := HK.out; omega)
      by_cases hlt : st.kn < l1.length
      · have e3 : decide ((st.kn : Int) ≥ l1.length) = false := decide_eq_false (by omega)
        have e4 : decide ((l1.length : Int) ≤ st.kn) = false := decide_eq_false (by omega)
        clear hlt
        obtain rfl : st = res := hr.symm.trans HR.out
        obtain ⟨Ag, cg, eg⟩ := Kd.S_slice HS.out
        subst eg
        have hne : g ≠ G := by have := HGG.out; omega
        have hne2 : G ≠ g := by have := HGG.out; omega
        have HXG := Aside0.mk (blk_below HX1.out HB.out)
        have z0 : wr.cell? ⟨g, 0, none⟩ = some (.slice none 0 0) := by simp [World.cell?, HXG.out]
        have z1 : wr.cell? ⟨g, 1, none⟩ = some (.int .i64 0) := by simp [World.cell?, HXG.out]
        have z2 : wr.cell? ⟨g, 2, none⟩ = some (.int .i64 0) := by simp [World.cell?, HXG.out]
        have z3 : wr.cell? ⟨g, 3, none⟩ = some (.bool false) := by simp [World.cell?, HXG.out]
        have q0 : wr.frozen? ⟨g, 0, none⟩ = false := by simp [World.frozen?, HXG.out]
        have q1 : wr.frozen? ⟨g, 1, none⟩ = false := by simp [World.frozen?, HXG.out]
        have q2 : wr.frozen? ⟨g, 2, none⟩ = false := by simp [World.frozen?, HXG.out]
        have q3 : wr.frozen? ⟨g, 3, none⟩ = false := by simp [World.frozen?, HXG.out]
        go_wp2_with fail
        refine bodyPost_ret (v := .agg #[.slice Ag st.got.length cg, .int .i64 st.rounds, .int .i64 ((st.s1 : Int) + st.s2), .bool (decide (l1.length ≤ st.kn))]) ?hres rfl ?_
        case hres => exact results_single (r := .cell 10 28) rfl (.cell g 28 #[.slice Ag st.got.length cg, .int .i64 st.rounds, .int .i64 ((st.s1 : Int) + st.s2), .bool (decide (l1.length ≤ st.kn))] (0, 0) _ rfl (heap_set (heap_set (heap_set (heap_set (BoxL.other HXG.out G hne2 _ _))))) Try.underlying28 rfl (by kernel_rfl) .nil)
        refine ⟨.slice Ag st.got.length cg, by rw [show ((st.s1 + st.s2 : Nat) : Int) = (st.s1 : Int) + st.s2 by simp], ?_, ?_⟩
        · have hS1 := Kd.S_set HS.out HX.out (by decide) 3 (.bool (decide (l1.length ≤ st.kn)))
          have h0 := BoxL.other HXG.out G hne2 3 (.bool (decide (l1.length ≤ st.kn)))
          exact Kd.S_lower (Kd.S_set (Kd.S_set (Kd.S_set (Kd.S_set hS1 h0 (by decide) _ _) (heap_set h0) (by decide) _ _) (heap_set (heap_set h0)) (by decide) _ _) (heap_set (heap_set (heap_set h0))) (by decide) _ _) HBW.out.size
        · have hB2 : Below w.heap.size w wr := below_step HBW.out HB.out
          have hgG2 := Nat.le_trans HBW.out.size HGE2.out
          exact below_set (below_set (below_set (below_set (below_set hB2 hgG2) HGE.out) HGE.out) HGE.out) HGE.out
      · have e3 : decide ((st.kn : Int) ≥ l1.length) = true := decide_eq_true (by omega)
        have e4 : decide ((l1.length : Int) ≤ st.kn) = true := decide_eq_true (by omega)
        clear hlt
        obtain rfl : st = res := hr.symm.trans HR.out
        obtain ⟨Ag, cg, eg⟩ := Kd.S_slice HS.out
        subst eg
        have hne : g ≠ G := by have := HGG.out; omega
        have hne2 : G ≠ g := by have := HGG.out; omega
        have HXG := Aside0.mk (blk_below HX1.out HB.out)
        have z0 : wr.cell? ⟨g, 0, none⟩ = some (.slice none 0 0) := by simp [World.cell?, HXG.out]
        have z1 : wr.cell? ⟨g, 1, none⟩ = some (.int .i64 0) := by simp [World.cell?, HXG.out]
        have z2 : wr.cell? ⟨g, 2, none⟩ = some (.int .i64 0) := by simp [World.cell?, HXG.out]
        have z3 : wr.cell? ⟨g, 3, none⟩ = some (.bool false) := by simp [World.cell?, HXG.out]
        have q0 : wr.frozen? ⟨g, 0, none⟩ = false := by simp [World.frozen?, HXG.out]
        have q1 : wr.frozen? ⟨g, 1, none⟩ = false := by simp [World.frozen?, HXG.out]
        have q2 : wr.frozen? ⟨g, 2, none⟩ = false := by simp [World.frozen?, HXG.out]
        have q3 : wr.frozen? ⟨g, 3, none⟩ = false := by simp [World.frozen?, HXG.out]
        go_wp2_with fail
        refine bodyPost_ret (v := .agg #[.slice Ag st.got.length cg, .int .i64 st.rounds, .int .i64 ((st.s1 : Int) + st.s2), .bool (decide (l1.length ≤ st.kn))]) ?hres rfl ?_
        case hres => exact results_single (r := .cell 10 28) rfl (.cell g 28 #[.slice Ag st.got.length cg, .int .i64 st.rounds, .int .i64 ((st.s1 : Int) + st.s2), .bool (decide (l1.length ≤ st.kn))] (0, 0) _ rfl (heap_set (heap_set (heap_set (heap_set (BoxL.other HXG.out G hne2 _ _))))) Try.underlying28 rfl (by kernel_rfl) .nil)
        refine ⟨.slice Ag st.got.length cg, by rw [show ((st.s1 + st.s2 : Nat) : Int) = (st.s1 : Int) + st.s2 by simp], ?_, ?_⟩
        · have hS1 := Kd.S_set HS.out HX.out (by decide) 3 (.bool (decide (l1.length ≤ st.kn)))
          have h0 := BoxL.other HXG.out G hne2 3 (.bool (decide (l1.length ≤ st.kn)))
          exact Kd.S_lower (Kd.S_set (Kd.S_set (Kd.S_set (Kd.S_set hS1 h0 (by decide) _ _) (heap_set h0) (by decide) _ _) (heap_set (heap_set h0)) (by decide) _ _) (heap_set (heap_set (heap_set h0))) (by decide) _ _) HBW.out.size
        · have hB2 : Below w.heap.size w wr := below_step HBW.out HB.out
          have hgG2 := Nat.le_trans HBW.out.size HGE2.out
          exact below_set (below_set (below_set (below_set (below_set hB2 hgG2) HGE.out) HGE.out) HGE.out) HGE.out
    | succ k1 =>
      have e2 : decide ((st.rounds : Int) < m) = true := decide_eq_true (by have := HK.out; omega)
      have e2n : decide (st.rounds < m) = true := decide_eq_true (by have := HK.out; omega)
      by_cases hlt : st.kn < l1.length
      · have e1 : decide ((st.kn : Int) < l1.length) = true := decide_eq_true (by omega)
        have e1n : decide (st.kn < l1.length) = true := decide_eq_true (by omega)
        have HLT := Aside0.mk hlt
        clear hlt
        have hw1 : wrap64 ((st.rounds : Int) + 1) = ((st.rounds + 1 : Nat) : Int) := by rw [w64 _ (by have := HK.out; have := HM.out; omega)]; simp
        go_wp2_with fail
        have hsb : SBox W1 (wr.setCell ⟨G, 1, none⟩ (.int .i64 ((st.rounds : Int) + 1))) G l2 l3 { st with rounds := st.rounds + 1 } := by
          refine ⟨⟨vg, vt, vb, ?_, Kd.S_set HS.out HX.out (by decide) _ _, HT.out.set HX.out (by decide) _ _, HV.out.set HX.out (by decide) _ _⟩, HGE2.out, below_set HB.out HGE2.out⟩
          rw [heap_set HX.out]
          show some (Obj.cells _ 76 (0, 0)) = _
          simp
        refine (send_ok G win A1 c1 l1 l2 l3 { st with rounds := st.rounds + 1 } W1 _ HR1W.out HC1.out hsb ⟨HLT.out, HL.out, HW1.out, HW2.out, by show st.rounds + 1 ≤ 400; have := HK.out; have := HM.out; omega, by show st.s1 ≤ _; have := HOK.out.s1; have := HK.out; have := HM.out; omega, by show st.s2 ≤ _; have := HOK.out.s2; have := HK.out; have := HM.out; omega, by show st.got.length ≤ _; have := HOK.out.got; have := HK.out; have := HM.out; omega⟩ HF2.out HSH.out HBO.out).mono ?_
        rintro e w' ⟨rfl, hsb2⟩
        clear hsb
        have HSB2 := Aside0.mk hsb2
        clear hsb2
        go_wp2_with fail
        refine (answer_ok G win l2 l3 _ W1 _ HSB2.out (by show st.kn ≤ 60; have := HLT.out; have := HL.out; omega) HW2.out (by show st.s1 + sentN win l1.length st.kn ≤ _; have : sentN win l1.length st.kn ≤ win := by { unfold sentN; omega }; have := HW2.out; have := HOK.out.s1; have := HK.out; have := HM.out; omega) (by show st.s2 ≤ _; have := HOK.out.s2; have := HK.out; have := HM.out; omega) HF3.out).mono ?_
        rintro e w2 ⟨rfl, hsb3⟩
        clear HSB2
        have HSB3 := Aside0.mk (show SBox W1 w2 G l2 l3 (stepL win l1 l2 l3 st) from hsb3)
        clear hsb3
        go_wp2_with fail
        go_roundg k1
        case measure => omega
        case rel => exact ⟨stepL win l1 l2 l3 st, ⟨by have := HK.out; show st.rounds + 1 + k1 = m; omega⟩, ⟨by rw [← loopL_go _ HLT.out]; exact HR.out⟩, ⟨stepL_ok HW2.out HL.out HLT.out HOK.out⟩, HSB3⟩
      · have e1 : decide ((st.kn : Int) < l1.length) = false := decide_eq_false (by omega)
        have e1n : decide (st.kn < l1.length) = false := decide_eq_false (by omega)
        have e3 : decide ((st.kn : Int) ≥ l1.length) = true := decide_eq_true (by omega)
        have e4 : decide ((l1.length : Int) ≤ st.kn) = true := decide_eq_true (by omega)
        have hr : loopL win l1 l2 l3 (k1 + 1) st = st := loopL_stop (k1 + 1) hlt
        clear hlt
        obtain rfl : st = res := hr.symm.trans HR.out
        obtain ⟨Ag, cg, eg⟩ := Kd.S_slice HS.out
        subst eg
        have hne : g ≠ G := by have := HGG.out; omega
        have hne2 : G ≠ g := by have := HGG.out; omega
        have HXG := Aside0.mk (blk_below HX1.out HB.out)
        have z0 : wr.cell? ⟨g, 0, none⟩ = some (.slice none 0 0) := by simp [World.cell?, HXG.out]
        have z1 : wr.cell? ⟨g, 1, none⟩ = some (.int .i64 0) := by simp [World.cell?, HXG.out]
        have z2 : wr.cell? ⟨g, 2, none⟩ = some (.int .i64 0) := by simp [World.cell?, HXG.out]
        have z3 : wr.cell? ⟨g, 3, none⟩ = some (.bool false) := by simp [World.cell?, HXG.out]
        have q0 : wr.frozen? ⟨g, 0, none⟩ = false := by simp [World.frozen?, HXG.out]
        have q1 : wr.frozen? ⟨g, 1, none⟩ = false := by simp [World.frozen?, HXG.out]
        have q2 : wr.frozen? ⟨g, 2, none⟩ = false := by simp [World.frozen?, HXG.out]
        have q3 : wr.frozen? ⟨g, 3, none⟩ = false := by simp [World.frozen?, HXG.out]
        go_wp2_with fail
        refine bodyPost_ret (v := .agg #[.slice Ag st.got.length cg, .int .i64 st.rounds, .int .i64 ((st.s1 : Int) + st.s2), .bool (decide (l1.length ≤ st.kn))]) ?hres rfl ?_
        case hres => exact results_single (r := .cell 10 28) rfl (.cell g 28 #[.slice Ag st.got.length cg, .int .i64 st.rounds, .int .i64 ((st.s1 : Int) + st.s2), .bool (decide (l1.length ≤ st.kn))] (0, 0) _ rfl (heap_set (heap_set (heap_set (heap_set (BoxL.other HXG.out G hne2 _ _))))) Try.underlying28 rfl (by kernel_rfl) .nil)
        refine ⟨.slice Ag st.got.length cg, by rw [show ((st.s1 + st.s2 : Nat) : Int) = (st.s1 : Int) + st.s2 by simp], ?_, ?_⟩
        · have hS1 := Kd.S_set HS.out HX.out (by decide) 3 (.bool (decide (l1.length ≤ st.kn)))
          have h0 := BoxL.other HXG.out G hne2 3 (.bool (decide (l1.length ≤ st.kn)))
          exact Kd.S_lower (Kd.S_set (Kd.S_set (Kd.S_set (Kd.S_set hS1 h0 (by decide) _ _) (heap_set h0) (by decide) _ _) (heap_set (heap_set h0)) (by decide) _ _) (heap_set (heap_set (heap_set h0))) (by decide) _ _) HBW.out.size
        · have hB2 : Below w.heap.size w wr := below_step HBW.out HB.out
          have hgG2 := Nat.le_trans HBW.out.size HGE2.out
          exact below_set (below_set (below_set (below_set (below_set hB2 hgG2) HGE.out) HGE.out) HGE.out) HGE.out
end Go.Proofs.Ytookabfmbimnoaa.Lk

namespace Go.Proofs.Ytookabfmbimnoaa.Lk
open Go.RowKit Go.Proofs.YtookabfmbimnoaaW.PrintWords Go.Proofs.YtookabfmbimnoaaW.PrintLast Go.Proofs.YtookabfmbimnoaaW.PrintMore
set_option linter.unusedVariables false
set_option linter.unusedSimpArgs false

def linkB (a0 : Int) (l1 : List (List Int)) (l2 l3 : List Int) (a4 : Int) : Bool := winOk a0 && (decide (l1.length ≤ 60) && (l1.all shortB && (fatesOk l2 && (fatesOk l3 && rndOk a4))))
def runR (a0 : Int) (l1 : List (List Int)) (l2 l3 : List Int) (a4 : Int) : LSt := runL a0.toNat l1 l2 l3 a4.toNat
def impl_RunLink.f (_k : Nat) (a0 : Int) (l1 : List (List Int)) (l2 l3 : List Int) (a4 : Int) : Option (List (List Int) × Int × Int × Bool × Bool) :=
  if bytesOk l1 = true then (if linkB a0 l1 l2 l3 a4 = true then some ((runR a0 l1 l2 l3 a4).got, ((runR a0 l1 l2 l3 a4).rounds : Int), (((runR a0 l1 l2 l3 a4).s1 + (runR a0 l1 l2 l3 a4).s2 : Nat) : Int), decide (l1.length ≤ (runR a0 l1 l2 l3 a4).kn), true) else some ([], 0, 0, false, false)) else none
theorem linkB_win {a0 : Int} {l1 : List (List Int)} {l2 l3 : List Int} {a4 : Int} (h : linkB a0 l1 l2 l3 a4 = true) : 0 ≤ a0 ∧ 0 ≤ a4 := by
  simp only [linkB, Bool.and_eq_true, winOk, rndOk, decide_eq_true_eq] at h
  omega
theorem impl_RunLink.calls (k : Nat) (a0 : Int) (A1 : Option Addr) (c1 : Nat) (l1 : List (List Int)) (A2 : Option Addr) (c2 : Nat) (l2 : List Int) (A3 : Option Addr) (c3 : Nat) (l3 : List Int) (a4 : Int) (r1 : List (List Int)) (r2 r3 : Int) (r4 r5 : Bool) (w : World)
    (hr1 : Kd.C (Kd.slice 5 (Kd.int .u8)) w A1 l1.length l1) (hc1 : l1.length ≤ c1) (hr2 : Kd.C (Kd.int .i64) w A2 l2.length l2) (hc2 : l2.length ≤ c2) (hr3 : Kd.C (Kd.int .i64) w A3 l3.length l3) (hc3 : l3.length ≤ c3) (h : impl_RunLink.f k a0 l1 l2 l3 a4 = some (r1, r2, r3, r4, r5)) :
    Calls Try.prog 10 #[.int .i64 a0, .slice A1 l1.length c1, .slice A2 l2.length c2, .slice A3 l3.length c3, .int .i64 a4] w fun e w' => ∃ v0_ : Value, e = .returned (.tuple #[.agg #[v0_, .int .i64 r2, .int .i64 r3, .bool r4], .bool r5]) ∧ Kd.S (Kd.slice 5 (Kd.int .u8)) 22 w' w.heap.size (fun _ => True) v0_ r1 ∧ Below w.heap.size w w' := by
  unfold impl_RunLink.f at h
  by_cases hb : bytesOk l1 = true
  case neg => rw [if_neg hb] at h; cases h
  rw [if_pos hb] at h
  by_cases hl : linkB a0 l1 l2 l3 a4 = true
  · rw [if_pos hl] at h
    have h := Option.some.inj h
    simp only [Prod.mk.injEq] at h
    obtain ⟨rfl, rfl, rfl, rfl, rfl⟩ := h
    obtain ⟨h0, h4⟩ := linkB_win hl
    obtain ⟨win, rfl⟩ := Int.eq_ofNat_of_zero_le h0
    obtain ⟨m, rfl⟩ := Int.eq_ofNat_of_zero_le h4
    exact RunLink_yes win A1 c1 l1 A2 c2 l2 A3 c3 l3 m w hr1 hc1 hr2 hc2 hr3 hc3 (congrArg some hl) hb
  · rw [if_neg hl] at h
    have h := Option.some.inj h
    simp only [Prod.mk.injEq] at h
    obtain ⟨rfl, rfl, rfl, rfl, rfl⟩ := h
    refine (RunLink_no a0 A1 c1 l1 A2 c2 l2 A3 c3 l3 a4 w hr1 hc1 hr2 hc2 hr3 hc3 (congrArg some (Bool.eq_false_iff.mpr hl))).mono ?_
    rintro e w' ⟨rfl, hbw⟩
    exact ⟨_, rfl, Kd.S_nil _ _ _ _ _, hbw⟩
def spec_l5Run.f (_k : Nat) (a0 : Int) (l1 : List (List Int)) (l2 l3 : List Int) (a4 : Int) : Option (List (List Int) × Int × Int × Bool) :=
  if bytesOk l1 = true ∧ linkB a0 l1 l2 l3 a4 = true then some ((runR a0 l1 l2 l3 a4).got, ((runR a0 l1 l2 l3 a4).rounds : Int), (((runR a0 l1 l2 l3 a4).s1 + (runR a0 l1 l2 l3 a4).s2 : Nat) : Int), decide (l1.length ≤ (runR a0 l1 l2 l3 a4).kn)) else none
theorem spec_l5Run.calls (k : Nat) (a0 : Int) (A1 : Option Addr) (c1 : Nat) (l1 : List (List Int)) (A2 : Option Addr) (c2 : Nat) (l2 : List Int) (A3 : Option Addr) (c3 : Nat) (l3 : List Int) (a4 : Int) (r1 : List (List Int)) (r2 r3 : Int) (r4 : Bool) (w : World)
    (hr1 : Kd.C (Kd.slice 5 (Kd.int .u8)) w A1 l1.length l1) (hc1 : l1.length ≤ c1) (hr2 : Kd.C (Kd.int .i64) w A2 l2.length l2) (hc2 : l2.length ≤ c2) (hr3 : Kd.C (Kd.int .i64) w A3 l3.length l3) (hc3 : l3.length ≤ c3) (h : spec_l5Run.f k a0 l1 l2 l3 a4 = some (r1, r2, r3, r4)) :
    Calls Try.prog 37 #[.int .i64 a0, .slice A1 l1.length c1, .slice A2 l2.length c2, .slice A3 l3.length c3, .int .i64 a4] w fun e w' => ∃ v0_ : Value, e = .returned (.agg #[v0_, .int .i64 r2, .int .i64 r3, .bool r4]) ∧ Kd.S (Kd.slice 5 (Kd.int .u8)) 22 w' w.heap.size (fun _ => True) v0_ r1 ∧ Below w.heap.size w w' := by
  unfold spec_l5Run.f at h
  by_cases hc : bytesOk l1 = true ∧ linkB a0 l1 l2 l3 a4 = true
  case neg => rw [if_neg hc] at h; cases h
  rw [if_pos hc] at h
  have h := Option.some.inj h
  simp only [Prod.mk.injEq] at h
  obtain ⟨rfl, rfl, rfl, rfl⟩ := h
  obtain ⟨h0, h4⟩ := linkB_win hc.2
  obtain ⟨win, rfl⟩ := Int.eq_ofNat_of_zero_le h0
  obtain ⟨m, rfl⟩ := Int.eq_ofNat_of_zero_le h4
  exact l5Run_ok win A1 c1 l1 A2 c2 l2 A3 c3 l3 m w hr1 hc1 hr2 hc2 hr3 hc3 (congrArg some hc.2) hc.1
end Go.Proofs.Ytookabfmbimnoaa.Lk

namespace Go.Proofs.Ytookabfmbimnoaa.Lk
open Go.RowKit Go.Proofs.YtookabfmbimnoaaW.PrintWords Go.Proofs.YtookabfmbimnoaaW.PrintLast Go.Proofs.YtookabfmbimnoaaW.PrintMore
set_option linter.unusedVariables false
set_option linter.unusedSimpArgs false

/-- Ahead of a round (and behind it): what came is the front of the list, and reaches from what the sender knows to a window further at most. -/
structure LInv (w : Nat) (list : List (List Int)) (st : LSt) : Prop where
  lo : st.kn ≤ st.got.length
  hi : st.got.length ≤ min list.length (st.kn + w)
  front : st.got = list.take st.got.length
  r1 : st.rounds ≤ st.s1
  r2 : st.s2 = st.rounds
end Go.Proofs.Ytookabfmbimnoaa.Lk

namespace Go.Proofs.Ytookabfmbimnoaa.Lk
open Go.RowKit Go.Proofs.YtookabfmbimnoaaW.PrintWords Go.Proofs.YtookabfmbimnoaaW.PrintLast Go.Proofs.YtookabfmbimnoaaW.PrintMore
attribute [local go_sem] max2_int min2_int max_two min_two max_three min_three max_four min_four   -- for this text's walks alone
set_option linter.unusedVariables false
set_option linter.unusedSimpArgs false

def laws_toIntS.l0 : Nat → List Int → List Int → Int → Option (List Int)
  | 0, _, _, _ => none
  | k + 1, x0, x3, x4 => if x4 < (x0.length : Int) then (if 0 ≤ x4 then (if x4 < (x3.length : Int) then (laws_toIntS.l0 k x0 (x3.set (x4 : Int).toNat (rd x0 x4)) (wrap64 (x4 + 1))) else (none)) else (none)) else (some x3)
def laws_toIntS.f (k : Nat) (l0 : List Int) : Option (List Int) := if 0 ≤ (l0.length : Int) then (if ((l0.length : Int) : Int).toNat ≤ 35184372088832 then (laws_toIntS.l0 k l0 (List.replicate ((l0.length : Int) : Int).toNat 0) 0) else (none)) else (none)
set_option maxHeartbeats 8000000 in
set_option maxRecDepth 100000 in
theorem laws_toIntS.calls (k : Nat) (A0 : Option Addr) (c0 : Nat) (l0 : List Int) (r : List Int) (w : World) (hr0 : Kd.C (Kd.int .i64) w A0 l0.length l0) (hc0 : l0.length ≤ c0) (h : laws_toIntS.f k l0 = some r) :
    Calls Try.prog 15 #[.slice A0 l0.length c0] w fun e w' => ∃ v0_ : Value, e = .returned (v0_) ∧ Kd.R (Kd.int .i64) 3 w' w.heap.size (fun _ => True) v0_ r ∧ Below w.heap.size w w' := by
  have HR0 := Aside0.mk hr0
  have HC0 := Aside0.mk hc0
  clear hr0 hc0
  have HB := Aside0.mk (Below.refl w.heap.size w)
  have H : (if 0 ≤ (l0.length : Int) then (if ((l0.length : Int) : Int).toNat ≤ 35184372088832 then (laws_toIntS.l0 k l0 (List.replicate ((l0.length : Int) : Int).toNat 0) 0) else (none)) else (none)) = some r := h
  clear h
  by_cases c2 : 0 ≤ (l0.length : Int)
  · rw [if_pos c2] at H
    have c2b0 := eq_true c2
    have c2b1 : decide (0 ≤ (l0.length : Int)) = true := decide_eq_true c2
    clear c2
    by_cases c3 : ((l0.length : Int) : Int).toNat ≤ 35184372088832
    · rw [if_pos c3] at H
      have c3b0 := eq_true c3
      have c3b1 : decide (((l0.length : Int) : Int).toNat ≤ 35184372088832) = true := decide_eq_true c3
      clear c3
      obtain ⟨y467, hy467⟩ : ∃ y_ : List Int, y_ = (List.replicate ((l0.length : Int) : Int).toNat 0) := ⟨_, rfl⟩
      replace H : (laws_toIntS.l0 k l0 y467 0) = some r := by first | (rw [hy467]; with_reducible exact H) | (have H2_ := (Option.bind_some _ _).symm.trans H; rw [hy467]; with_reducible exact H2_) | (have H2_ := (Option.bind_some _ _).symm.trans H; with_reducible exact H2_) | with_reducible exact H | (rw [hy467]; exact H) | exact H
      have Ny467 := Aside0.mk hy467
      clear hy467
      have H' := Aside0.mk H
      clear H
      go_enter Try.func15, Try.ntmps15
      go_wp2_with (first | ((with_reducible refine gate_dst (N := 7) rfl ?_); refine Kd.R_make (Kd.int .i64) _ 3 rfl (N := 7) rfl 24 _ _ rfl (l0.length : Int) rfl rfl Try.underlying24 (.int .i64 0) 8 info3 rfl (by decide) (by omega) 0 (ok := fun _ => True) (okp := fun _ => True) rfl (fun _ hk => hk) trivial (of_decide_eq_true (by first | (with_reducible assumption) | assumption)) (Nat.le_trans (Nat.mul_le_mul_right _ (of_decide_eq_true (by first | (with_reducible assumption) | assumption) : (l0.length : Int).toNat ≤ 35184372088832)) (by omega)) (Below.refl _ _) (Nat.le_refl _) ?_; intro v468 w4 ho5 hb hg_ hnew_; clear hg_ hnew_; (first | rw [← Ny467.out] at ho5 | (simp only [Int.reduceToNat] at ho5; rw [← Ny467.out] at ho5)); have n0_ := Aside0.mk (Kd.R_lower ho5 (below_size (by repeat (first | (with_reducible first | exact HB.out | apply below_alloc | apply pw_below_drewN | apply below_drew1) | exact HB.out)))); have n1_ := Aside0.mk (below_step (by repeat (first | (with_reducible first | exact HB.out | apply below_alloc | apply pw_below_drewN | apply below_drew1) | exact HB.out)) hb); clear HB; have HO469 := n0_; have HB := n1_; clear n0_ n1_; clear hb ho5))
      go_loopg [4] k (fun kq v4 w' => ∃ (x3_1 : List Int) (x4_1 : Int), v4 = .int .i64 x4_1 ∧ Aside0 (laws_toIntS.l0 kq l0 x3_1 x4_1 = some r) ∧ Aside0 (kq ≤ k) ∧ Aside0 (Kd.R (Kd.int .i64) 3 w' w.heap.size (fun _ => True) v468 x3_1) ∧ Aside0 (Below w.heap.size w w'))
      case atStart => exact ⟨(y467), (0), (by first | rfl | (simp; done) | (simp [*]; done)), H', ⟨Nat.le_refl _⟩, ⟨by (with_reducible repeat (first | apply Kd.R_alloc | apply Kd.R_drewN | apply Kd.R_drew)); exact HO469.out⟩, ⟨by repeat (first | (with_reducible first | exact HB.out | apply below_alloc | apply pw_below_drewN | apply below_drew1) | exact HB.out)⟩⟩
      case round =>
        clear H'
        try clear c1
        try clear c2
        try clear c2b0
        try clear c2b1
        try clear p2
        try clear c3
        try clear c3b0
        try clear c3b1
        obtain ⟨x3_1, x4_1, rfl, HA, HK1, HO_3, HB⟩ := hrel
        cases gk with
        | zero => exact absurd HA.out (by simp [laws_toIntS.l0])
        | succ k1 =>
          have H := HA.out
          clear HA
          simp only [laws_toIntS.l0] at H
          by_cases c6 : x4_1 < (l0.length : Int)
          · rw [if_pos c6] at H
            have c6b0 : decide (x4_1 < (l0.length : Int)) = true := decide_eq_true c6
            clear c6
            by_cases c7 : 0 ≤ x4_1
            · rw [if_pos c7] at H
              have c7b0 : decide (0 ≤ x4_1) = true := decide_eq_true c7
              clear c7
              by_cases c8 : x4_1 < (x3_1.length : Int)
              · rw [if_pos c8] at H
                have c8b0 : decide (x4_1 < (x3_1.length : Int)) = true := decide_eq_true c8
                clear c8
                obtain ⟨y471, hy471⟩ : ∃ y_ : List Int, y_ = (x3_1.set (x4_1 : Int).toNat (rd l0 x4_1)) := ⟨_, rfl⟩
                replace H : (laws_toIntS.l0 k1 l0 y471 (wrap64 (x4_1 + 1))) = some r := by first | (rw [hy471]; with_reducible exact H) | (have H2_ := (Option.bind_some _ _).symm.trans H; rw [hy471]; with_reducible exact H2_) | (have H2_ := (Option.bind_some _ _).symm.trans H; with_reducible exact H2_) | with_reducible exact H | (rw [hy471]; exact H) | exact H
                have Ny471 := Aside0.mk hy471
                clear hy471
                have H' := Aside0.mk H
                clear H
                have p470 : 0 ≤ (x4_1 : Int) := of_decide_eq_true (by first | (with_reducible assumption) | assumption)
                have q470 : x4_1 < (l0.length : Int) := of_decide_eq_true (by first | (with_reducible assumption) | assumption)
                obtain ⟨ad470, e470, hx470_0⟩ := Kd.at_int HR0.out x4_1 p470 q470
                cases e470
                replace hx470_0 := (HB.out.cell (World.block_lt_of_cell? w _ hx470_0)).trans hx470_0
                replace p470 := eq_true p470
                replace q470 := eq_true q470
                have p9 : 0 ≤ (x4_1 : Int) := of_decide_eq_true (by first | (with_reducible assumption) | assumption)
                have q9 : (x4_1 : Int) < ((x3_1.length : Int) : Int) := of_decide_eq_true (by first | (with_reducible assumption) | assumption)
                obtain ⟨go9, co9, eo9, gb9, gl9, cl9, HG9⟩ := Kd.R_form HO_3.out (by omega)
                (first | cases eo9 | (injection eo9 with ea_ en_ ec_; (first | subst ea_ | (injection ea_ with ea_; subst ea_)); subst ec_; clear en_))
                have GB9 := Aside0.mk gb9
                have GG9 := Aside0.mk HG9
                clear gb9 gl9 HG9
                obtain ⟨hx9_0, hf9_0⟩ := Kd.R_celln 0 HO_3.out (x4_1 : Int) p9 q9
                replace p9 := eq_true p9
                replace q9 := eq_true q9
                have HP10 := Kd.R_putg HO_3.out (x4_1 : Int) (rd l0 x4_1)
                go_wp2_with (first | ((with_reducible refine gate_store (t := 3) (p := 20) rfl ?_); refine store_event (t := 3) (p := 20) (v := ?vo_w11) (w1 := (wr.setCell ⟨go9, (x4_1 : Int).toNat, none⟩ (.int .i64 (rd l0 x4_1)))) ?hg ?ho ?hn ?hr ?_; (case ho => rfl); (case hg => rfl); (case hn => rfl); (case hr => first | (go_simp; done) | (go_simp; rfl)); intro w11 hw; have hg : wr.grownBy w11 (some go9) := (by rw [hw]; exact HP10.2); have hp_ : Kd.R (Kd.int .i64) 3 w11 w.heap.size (fun _ => True) (.slice (some ⟨go9, 0, none⟩) x3_1.length co9) y471 := (by rw [hw, Ny471.out]; exact HP10.1); clear HP10; have n0_ := Aside0.mk (hp_); have n1_ := Aside0.mk ((by rw [hw]; exact below_set (HB.out) GB9.out : Below w.heap.size w w11)); clear HO_3; clear HB; have HO_3 := n0_; have HB := n1_; clear n0_ n1_; clear hg hw hp_))
                go_roundg k1
                case measure => have := HK1.out; omega
                case rel => exact ⟨(y471), (wrap64 (x4_1 + 1)), (by first | rfl | (simp; done) | (simp [*]; done)), H', ⟨by have := HK1.out; omega⟩, ⟨by (with_reducible repeat (first | apply Kd.R_alloc | apply Kd.R_drewN | apply Kd.R_drew)); exact HO_3.out⟩, ⟨by repeat (first | (with_reducible first | exact HB.out | apply below_alloc | apply pw_below_drewN | apply below_drew1) | exact HB.out)⟩⟩
              · rw [if_neg c8] at H
                exact absurd H (by simp)
            · rw [if_neg c7] at H
              exact absurd H (by simp)
          · rw [if_neg c6] at H
            have c6b0 : decide (x4_1 < (l0.length : Int)) = false := decide_eq_false c6
            clear c6
            obtain rfl := Option.some.inj H
            go_wp2
            go_ret
            exact ⟨_, by first | rfl | (simp [errW_none, errW_some] <;> rfl) | (simp [*, errW_none, errW_some] <;> rfl), by (with_reducible repeat (first | apply Kd.R_alloc | apply Kd.R_drewN | apply Kd.R_drew)); exact HO_3.out, by repeat (first | (with_reducible first | exact HB.out | apply below_alloc | apply pw_below_drewN | apply below_drew1) | exact HB.out)⟩
    · rw [if_neg c3] at H
      exact absurd H (by simp)
  · rw [if_neg c2] at H
    exact absurd H (by simp)

def laws_eqByteS.l0 : Nat → List Int → List Int → Int → Option (Bool)
  | 0, _, _, _ => none
  | k + 1, x0, x1, x5 => if x5 < (x0.length : Int) then (if 0 ≤ x5 then (if x5 < (x1.length : Int) then (if (rd x0 x5) = (rd x1 x5) then (laws_eqByteS.l0 k x0 x1 (wrap64 (x5 + 1))) else (some false)) else (none)) else (none)) else (some true)
def laws_eqByteS.f (k : Nat) (l0 : List Int) (l1 : List Int) : Option (Bool) := if (l0.length : Int) = (l1.length : Int) then (laws_eqByteS.l0 k l0 l1 0) else (some false)
set_option maxHeartbeats 8000000 in
set_option maxRecDepth 100000 in
theorem laws_eqByteS.calls (k : Nat) (A0 : Option Addr) (c0 : Nat) (l0 : List Int) (A1 : Option Addr) (c1 : Nat) (l1 : List Int) (r : Bool) (w : World) (hr0 : Kd.C (Kd.int .u8) w A0 l0.length l0) (hc0 : l0.length ≤ c0) (hr1 : Kd.C (Kd.int .u8) w A1 l1.length l1) (hc1 : l1.length ≤ c1) (h : laws_eqByteS.f k l0 l1 = some r) :
    Calls Try.prog 40 #[.slice A0 l0.length c0, .slice A1 l1.length c1] w fun e w' => e = .returned (.bool r) ∧ Drawn0 w w' := by
  have HR0 := Aside0.mk hr0
  have HC0 := Aside0.mk hc0
  clear hr0 hc0
  have HR1 := Aside0.mk hr1
  have HC1 := Aside0.mk hc1
  clear hr1 hc1
  have H : (if (l0.length : Int) = (l1.length : Int) then (laws_eqByteS.l0 k l0 l1 0) else (some false)) = some r := h
  clear h
  by_cases c3 : (l0.length : Int) = (l1.length : Int)
  · rw [if_pos c3] at H
    have c3b0 : ((l0.length : Int) == (l1.length : Int)) = true := beq_iff_eq.mpr c3
    have c3b1 : ((l0.length : Int) != (l1.length : Int)) = false := bne_eq_false_iff_eq.mpr c3
    have c3b2 : (l0.length == l1.length) = true := by first | simpa using c3 | (simp at c3 ⊢; omega)
    clear c3
    have H' := Aside0.mk H
    clear H
    go_enter Try.func40, Try.ntmps40
    go_wp2
    repeat (go_quiet (fail); try go_wp2)
    go_loopg [5] k (fun kq v5 w' => ∃ (x5_1 : Int), v5 = .int .i64 x5_1 ∧ Aside0 (laws_eqByteS.l0 kq l0 l1 x5_1 = some r) ∧ Aside0 (kq ≤ k) ∧ Drawn0 w w')
    case atStart => exact ⟨(0), (by first | rfl | (simp; done) | (simp [*]; done)), H', ⟨Nat.le_refl _⟩, by repeat (first | exact Drawn0.refl _ | apply Drawn0.step)⟩
    case round =>
      clear H'
      try clear c1
      try clear p2
      try clear c3
      try clear c3b0
      try clear c3b1
      try clear c3b2
      obtain ⟨x5_1, rfl, HA, HK1, ⟨m1, rfl⟩⟩ := hrel
      cases gk with
      | zero => exact absurd HA.out (by simp [laws_eqByteS.l0])
      | succ k1 =>
        have H := HA.out
        clear HA
        simp only [laws_eqByteS.l0] at H
        by_cases c4 : x5_1 < (l0.length : Int)
        · rw [if_pos c4] at H
          have c4b0 : decide (x5_1 < (l0.length : Int)) = true := decide_eq_true c4
          clear c4
          by_cases c5 : 0 ≤ x5_1
          · rw [if_pos c5] at H
            have c5b0 : decide (0 ≤ x5_1) = true := decide_eq_true c5
            clear c5
            by_cases c6 : x5_1 < (l1.length : Int)
            · rw [if_pos c6] at H
              have c6b0 : decide (x5_1 < (l1.length : Int)) = true := decide_eq_true c6
              clear c6
              by_cases c7 : (rd l0 x5_1) = (rd l1 x5_1)
              · rw [if_pos c7] at H
                have c7b0 : ((rd l0 x5_1) == (rd l1 x5_1)) = true := beq_iff_eq.mpr c7
                have c7b1 : ((rd l0 x5_1) != (rd l1 x5_1)) = false := bne_eq_false_iff_eq.mpr c7
                clear c7
                have H' := Aside0.mk H
                clear H
                have p480 : 0 ≤ (x5_1 : Int) := of_decide_eq_true (by first | (with_reducible assumption) | assumption)
                have q480 : x5_1 < (l0.length : Int) := of_decide_eq_true (by first | (with_reducible assumption) | assumption)
                obtain ⟨ad480, e480, hx480_0⟩ := Kd.at_int HR0.out x5_1 p480 q480
                cases e480
                replace p480 := eq_true p480
                replace q480 := eq_true q480
                have p481 : 0 ≤ (x5_1 : Int) := of_decide_eq_true (by first | (with_reducible assumption) | assumption)
                have q481 : x5_1 < (l1.length : Int) := of_decide_eq_true (by first | (with_reducible assumption) | assumption)
                obtain ⟨ad481, e481, hx481_0⟩ := Kd.at_int HR1.out x5_1 p481 q481
                cases e481
                replace p481 := eq_true p481
                replace q481 := eq_true q481
                go_wp2
                repeat (go_quiet (fail); try go_wp2)
                go_roundg k1
                case measure => have := HK1.out; omega
                case rel => exact ⟨(wrap64 (x5_1 + 1)), (by first | rfl | (simp; done) | (simp [*]; done)), H', ⟨by have := HK1.out; omega⟩, by repeat (first | exact Drawn0.refl _ | apply Drawn0.step)⟩
              · rw [if_neg c7] at H
                have c7b0 : ((rd l0 x5_1) == (rd l1 x5_1)) = false := beq_eq_false_iff_ne.mpr c7
                have c7b1 : ((rd l0 x5_1) != (rd l1 x5_1)) = true := bne_iff_ne.mpr c7
                obtain rfl := Option.some.inj H
                have p480 : 0 ≤ (x5_1 : Int) := of_decide_eq_true (by first | (with_reducible assumption) | assumption)
                have q480 : x5_1 < (l0.length : Int) := of_decide_eq_true (by first | (with_reducible assumption) | assumption)
                obtain ⟨ad480, e480, hx480_0⟩ := Kd.at_int HR0.out x5_1 p480 q480
                cases e480
                replace p480 := eq_true p480
                replace q480 := eq_true q480
                have p481 : 0 ≤ (x5_1 : Int) := of_decide_eq_true (by first | (with_reducible assumption) | assumption)
                have q481 : x5_1 < (l1.length : Int) := of_decide_eq_true (by first | (with_reducible assumption) | assumption)
                obtain ⟨ad481, e481, hx481_0⟩ := Kd.at_int HR1.out x5_1 p481 q481
                cases e481
                replace p481 := eq_true p481
                replace q481 := eq_true q481
                go_wp2
                repeat (go_quiet (fail); try go_wp2)
                go_ret
                exact ⟨by first | rfl | (simp; done) | (simp [*]; done), by repeat (first | exact Drawn0.refl _ | apply Drawn0.step)⟩
            · rw [if_neg c6] at H
              exact absurd H (by simp)
          · rw [if_neg c5] at H
            exact absurd H (by simp)
        · rw [if_neg c4] at H
          have c4b0 : decide (x5_1 < (l0.length : Int)) = false := decide_eq_false c4
          clear c4
          obtain rfl := Option.some.inj H
          go_wp2
          repeat (go_quiet (fail); try go_wp2)
          go_ret
          exact ⟨by first | rfl | (simp; done) | (simp [*]; done), by repeat (first | exact Drawn0.refl _ | apply Drawn0.step)⟩
  · rw [if_neg c3] at H
    have c3b0 : ((l0.length : Int) == (l1.length : Int)) = false := beq_eq_false_iff_ne.mpr c3
    have c3b1 : ((l0.length : Int) != (l1.length : Int)) = true := bne_iff_ne.mpr c3
    have c3b2 : (l0.length == l1.length) = false := by first | simpa using c3 | (simp at c3 ⊢; omega)
    obtain rfl := Option.some.inj H
    go_enter Try.func40, Try.ntmps40
    go_wp2
    repeat (go_quiet (fail); try go_wp2)
    go_ret
    exact ⟨by first | rfl | (simp; done) | (simp [*]; done), by repeat (first | exact Drawn0.refl _ | apply Drawn0.step)⟩

def laws_eqByteSS.l0 : Nat → List (List Int) → List (List Int) → Int → Option (Bool)
  | 0, _, _, _ => none
  | k + 1, x0, x1, x5 => if x5 < (x0.length : Int) then (if 0 ≤ x5 then (if x5 < (x1.length : Int) then ((laws_eqByteS.f k (rd_L2 x0 x5) (rd_L2 x1 x5)).bind fun t484 => (if t484 = true then (laws_eqByteSS.l0 k x0 x1 (wrap64 (x5 + 1))) else (some false))) else (none)) else (none)) else (some true)
def laws_eqByteSS.f (k : Nat) (l0 : List (List Int)) (l1 : List (List Int)) : Option (Bool) := if (l0.length : Int) = (l1.length : Int) then (laws_eqByteSS.l0 k l0 l1 0) else (some false)
set_option maxHeartbeats 8000000 in
set_option maxRecDepth 100000 in
theorem laws_eqByteSS.calls (k : Nat) (A0 : Option Addr) (c0 : Nat) (l0 : List (List Int)) (A1 : Option Addr) (c1 : Nat) (l1 : List (List Int)) (r : Bool) (w : World) (hr0 : Kd.C (Kd.slice 5 (Kd.int .u8)) w A0 l0.length l0) (hc0 : l0.length ≤ c0) (hr1 : Kd.C (Kd.slice 5 (Kd.int .u8)) w A1 l1.length l1) (hc1 : l1.length ≤ c1) (h : laws_eqByteSS.f k l0 l1 = some r) :
    Calls Try.prog 17 #[.slice A0 l0.length c0, .slice A1 l1.length c1] w fun e w' => e = .returned (.bool r) ∧ Drawn0 w w' := by
  have HR0 := Aside0.mk hr0
  have HC0 := Aside0.mk hc0
  clear hr0 hc0
  have HR1 := Aside0.mk hr1
  have HC1 := Aside0.mk hc1
  clear hr1 hc1
  have H : (if (l0.length : Int) = (l1.length : Int) then (laws_eqByteSS.l0 k l0 l1 0) else (some false)) = some r := h
  clear h
  by_cases c3 : (l0.length : Int) = (l1.length : Int)
  · rw [if_pos c3] at H
    have c3b0 : ((l0.length : Int) == (l1.length : Int)) = true := beq_iff_eq.mpr c3
    have c3b1 : ((l0.length : Int) != (l1.length : Int)) = false := bne_eq_false_iff_eq.mpr c3
    have c3b2 : (l0.length == l1.length) = true := by first | simpa using c3 | (simp at c3 ⊢; omega)
    clear c3
    have H' := Aside0.mk H
    clear H
    go_enter Try.func17, Try.ntmps17
    go_wp2
    repeat (go_quiet (fail); try go_wp2)
    go_loopg [5] k (fun kq v5 w' => ∃ (x5_1 : Int), v5 = .int .i64 x5_1 ∧ Aside0 (laws_eqByteSS.l0 kq l0 l1 x5_1 = some r) ∧ Aside0 (kq ≤ k) ∧ Drawn0 w w')
    case atStart => exact ⟨(0), (by first | rfl | (simp; done) | (simp [*]; done)), H', ⟨Nat.le_refl _⟩, by repeat (first | exact Drawn0.refl _ | apply Drawn0.step)⟩
    case round =>
      clear H'
      try clear c1
      try clear p2
      try clear c3
      try clear c3b0
      try clear c3b1
      try clear c3b2
      obtain ⟨x5_1, rfl, HA, HK1, ⟨m1, rfl⟩⟩ := hrel
      cases gk with
      | zero => exact absurd HA.out (by simp [laws_eqByteSS.l0])
      | succ k1 =>
        have H := HA.out
        clear HA
        simp only [laws_eqByteSS.l0] at H
        by_cases c4 : x5_1 < (l0.length : Int)
        · rw [if_pos c4] at H
          have c4b0 : decide (x5_1 < (l0.length : Int)) = true := decide_eq_true c4
          clear c4
          by_cases c5 : 0 ≤ x5_1
          · rw [if_pos c5] at H
            have c5b0 : decide (0 ≤ x5_1) = true := decide_eq_true c5
            clear c5
            by_cases c6 : x5_1 < (l1.length : Int)
            · rw [if_pos c6] at H
              have c6b0 : decide (x5_1 < (l1.length : Int)) = true := decide_eq_true c6
              clear c6
              replace H := Option.bind_eq_some_iff.mp H
              obtain ⟨t484, A70, H⟩ := H
              replace H : (if t484 = true then (laws_eqByteSS.l0 k1 l0 l1 (wrap64 (x5_1 + 1))) else (some false)) = some r := H
              have A7 := Aside0.mk A70
              clear A70
              by_cases c8 : t484 = true
              · subst c8
                have H1 : (laws_eqByteSS.l0 k1 l0 l1 (wrap64 (x5_1 + 1))) = some r := by rw [if_pos rfl] at H; exact H
                clear H
                have H := H1
                clear H1
                have H' := Aside0.mk H
                clear H
                have p482 : 0 ≤ (x5_1 : Int) := of_decide_eq_true (by first | (with_reducible assumption) | assumption)
                have q482 : x5_1 < (l0.length : Int) := of_decide_eq_true (by first | (with_reducible assumption) | assumption)
                obtain ⟨ad482, A482_0, c482_0, e482, hx482_0, hl482_0, hi482_0⟩ := at_L2 HR0.out x5_1 p482 q482
                cases e482
                have HR482_0 := Aside0.mk hi482_0
                have HC482_0 := Aside0.mk hl482_0
                clear hi482_0 hl482_0
                replace p482 := eq_true p482
                replace q482 := eq_true q482
                have p483 : 0 ≤ (x5_1 : Int) := of_decide_eq_true (by first | (with_reducible assumption) | assumption)
                have q483 : x5_1 < (l1.length : Int) := of_decide_eq_true (by first | (with_reducible assumption) | assumption)
                obtain ⟨ad483, A483_0, c483_0, e483, hx483_0, hl483_0, hi483_0⟩ := at_L2 HR1.out x5_1 p483 q483
                cases e483
                have HR483_0 := Aside0.mk hi483_0
                have HC483_0 := Aside0.mk hl483_0
                clear hi483_0 hl483_0
                replace p483 := eq_true p483
                replace q483 := eq_true q483
                go_wp2_with (first | (go_at_call 40; (with_reducible refine (laws_eqByteS.calls k1 _ _ (rd_L2 l0 x5_1) _ _ (rd_L2 l1 x5_1) true _ ?side1 ?side2 ?side3 ?side4 A7.out).mono ?_); (case side1 => repeat (first | exact HR482_0.out | (with_reducible refine Kd.C_alloc ?_ _) | (with_reducible refine Kd.C_drewN ?_ _) | (with_reducible refine Kd.C_drew ?_))); (case side2 => exact HC482_0.out); (case side3 => repeat (first | exact HR483_0.out | (with_reducible refine Kd.C_alloc ?_ _) | (with_reducible refine Kd.C_drewN ?_ _) | (with_reducible refine Kd.C_drew ?_))); (case side4 => exact HC483_0.out); rintro e w' ⟨rfl, ⟨nd, rfl⟩⟩; (try first | exact ⟨rfl, _, World.drewN_drewN _ _ _⟩ | exact ⟨rfl, _, Eq.trans (World.drewN_drewN _ _ _) (congrArg (World.drewN _) (Nat.add_assoc _ _ _))⟩)))
                repeat (go_quiet (first | (go_at_call 40; (with_reducible refine (laws_eqByteS.calls k1 _ _ (rd_L2 l0 x5_1) _ _ (rd_L2 l1 x5_1) true _ ?side1 ?side2 ?side3 ?side4 A7.out).mono ?_); (case side1 => repeat (first | exact HR482_0.out | (with_reducible refine Kd.C_alloc ?_ _) | (with_reducible refine Kd.C_drewN ?_ _) | (with_reducible refine Kd.C_drew ?_))); (case side2 => exact HC482_0.out); (case side3 => repeat (first | exact HR483_0.out | (with_reducible refine Kd.C_alloc ?_ _) | (with_reducible refine Kd.C_drewN ?_ _) | (with_reducible refine Kd.C_drew ?_))); (case side4 => exact HC483_0.out); rintro e w' ⟨rfl, ⟨nd, rfl⟩⟩; (try first | exact ⟨rfl, _, World.drewN_drewN _ _ _⟩ | exact ⟨rfl, _, Eq.trans (World.drewN_drewN _ _ _) (congrArg (World.drewN _) (Nat.add_assoc _ _ _))⟩))); try go_wp2_with (first | (go_at_call 40; (with_reducible refine (laws_eqByteS.calls k1 _ _ (rd_L2 l0 x5_1) _ _ (rd_L2 l1 x5_1) true _ ?side1 ?side2 ?side3 ?side4 A7.out).mono ?_); (case side1 => repeat (first | exact HR482_0.out | (with_reducible refine Kd.C_alloc ?_ _) | (with_reducible refine Kd.C_drewN ?_ _) | (with_reducible refine Kd.C_drew ?_))); (case side2 => exact HC482_0.out); (case side3 => repeat (first | exact HR483_0.out | (with_reducible refine Kd.C_alloc ?_ _) | (with_reducible refine Kd.C_drewN ?_ _) | (with_reducible refine Kd.C_drew ?_))); (case side4 => exact HC483_0.out); rintro e w' ⟨rfl, ⟨nd, rfl⟩⟩; (try first | exact ⟨rfl, _, World.drewN_drewN _ _ _⟩ | exact ⟨rfl, _, Eq.trans (World.drewN_drewN _ _ _) (congrArg (World.drewN _) (Nat.add_assoc _ _ _))⟩))))
                go_roundg k1
                case measure => have := HK1.out; omega
                case rel => exact ⟨(wrap64 (x5_1 + 1)), (by first | rfl | (simp; done) | (simp [*]; done)), H', ⟨by have := HK1.out; omega⟩, by repeat (first | exact Drawn0.refl _ | apply Drawn0.step)⟩
              · replace c8 := Bool.eq_false_iff.mpr c8
                subst c8
                have H1 : (some false) = some r := by rw [if_neg (show ¬ (false = true) by decide)] at H; exact H
                clear H
                have H := H1
                clear H1
                obtain rfl := Option.some.inj H
                have p482 : 0 ≤ (x5_1 : Int) := of_decide_eq_true (by first | (with_reducible assumption) | assumption)
                have q482 : x5_1 < (l0.length : Int) := of_decide_eq_true (by first | (with_reducible assumption) | assumption)
                obtain ⟨ad482, A482_0, c482_0, e482, hx482_0, hl482_0, hi482_0⟩ := at_L2 HR0.out x5_1 p482 q482
                cases e482
                have HR482_0 := Aside0.mk hi482_0
                have HC482_0 := Aside0.mk hl482_0
                clear hi482_0 hl482_0
                replace p482 := eq_true p482
                replace q482 := eq_true q482
                have p483 : 0 ≤ (x5_1 : Int) := of_decide_eq_true (by first | (with_reducible assumption) | assumption)
                have q483 : x5_1 < (l1.length : Int) := of_decide_eq_true (by first | (with_reducible assumption) | assumption)
                obtain ⟨ad483, A483_0, c483_0, e483, hx483_0, hl483_0, hi483_0⟩ := at_L2 HR1.out x5_1 p483 q483
                cases e483
                have HR483_0 := Aside0.mk hi483_0
                have HC483_0 := Aside0.mk hl483_0
                clear hi483_0 hl483_0
                replace p483 := eq_true p483
                replace q483 := eq_true q483
                go_wp2_with (first | (go_at_call 40; (with_reducible refine (laws_eqByteS.calls k1 _ _ (rd_L2 l0 x5_1) _ _ (rd_L2 l1 x5_1) false _ ?side1 ?side2 ?side3 ?side4 A7.out).mono ?_); (case side1 => repeat (first | exact HR482_0.out | (with_reducible refine Kd.C_alloc ?_ _) | (with_reducible refine Kd.C_drewN ?_ _) | (with_reducible refine Kd.C_drew ?_))); (case side2 => exact HC482_0.out); (case side3 => repeat (first | exact HR483_0.out | (with_reducible refine Kd.C_alloc ?_ _) | (with_reducible refine Kd.C_drewN ?_ _) | (with_reducible refine Kd.C_drew ?_))); (case side4 => exact HC483_0.out); rintro e w' ⟨rfl, ⟨nd, rfl⟩⟩; (try first | exact ⟨rfl, _, World.drewN_drewN _ _ _⟩ | exact ⟨rfl, _, Eq.trans (World.drewN_drewN _ _ _) (congrArg (World.drewN _) (Nat.add_assoc _ _ _))⟩)))
                repeat (go_quiet (first | (go_at_call 40; (with_reducible refine (laws_eqByteS.calls k1 _ _ (rd_L2 l0 x5_1) _ _ (rd_L2 l1 x5_1) false _ ?side1 ?side2 ?side3 ?side4 A7.out).mono ?_); (case side1 => repeat (first | exact HR482_0.out | (with_reducible refine Kd.C_alloc ?_ _) | (with_reducible refine Kd.C_drewN ?_ _) | (with_reducible refine Kd.C_drew ?_))); (case side2 => exact HC482_0.out); (case side3 => repeat (first | exact HR483_0.out | (with_reducible refine Kd.C_alloc ?_ _) | (with_reducible refine Kd.C_drewN ?_ _) | (with_reducible refine Kd.C_drew ?_))); (case side4 => exact HC483_0.out); rintro e w' ⟨rfl, ⟨nd, rfl⟩⟩; (try first | exact ⟨rfl, _, World.drewN_drewN _ _ _⟩ | exact ⟨rfl, _, Eq.trans (World.drewN_drewN _ _ _) (congrArg (World.drewN _) (Nat.add_assoc _ _ _))⟩))); try go_wp2_with (first | (go_at_call 40; (with_reducible refine (laws_eqByteS.calls k1 _ _ (rd_L2 l0 x5_1) _ _ (rd_L2 l1 x5_1) false _ ?side1 ?side2 ?side3 ?side4 A7.out).mono ?_); (case side1 => repeat (first | exact HR482_0.out | (with_reducible refine Kd.C_alloc ?_ _) | (with_reducible refine Kd.C_drewN ?_ _) | (with_reducible refine Kd.C_drew ?_))); (case side2 => exact HC482_0.out); (case side3 => repeat (first | exact HR483_0.out | (with_reducible refine Kd.C_alloc ?_ _) | (with_reducible refine Kd.C_drewN ?_ _) | (with_reducible refine Kd.C_drew ?_))); (case side4 => exact HC483_0.out); rintro e w' ⟨rfl, ⟨nd, rfl⟩⟩; (try first | exact ⟨rfl, _, World.drewN_drewN _ _ _⟩ | exact ⟨rfl, _, Eq.trans (World.drewN_drewN _ _ _) (congrArg (World.drewN _) (Nat.add_assoc _ _ _))⟩))))
                go_ret
                exact ⟨by first | rfl | (simp; done) | (simp [*]; done), by repeat (first | exact Drawn0.refl _ | apply Drawn0.step)⟩
            · rw [if_neg c6] at H
              exact absurd H (by simp)
          · rw [if_neg c5] at H
            exact absurd H (by simp)
        · rw [if_neg c4] at H
          have c4b0 : decide (x5_1 < (l0.length : Int)) = false := decide_eq_false c4
          clear c4
          obtain rfl := Option.some.inj H
          go_wp2
          repeat (go_quiet (fail); try go_wp2)
          go_ret
          exact ⟨by first | rfl | (simp; done) | (simp [*]; done), by repeat (first | exact Drawn0.refl _ | apply Drawn0.step)⟩
  · rw [if_neg c3] at H
    have c3b0 : ((l0.length : Int) == (l1.length : Int)) = false := beq_eq_false_iff_ne.mpr c3
    have c3b1 : ((l0.length : Int) != (l1.length : Int)) = true := bne_iff_ne.mpr c3
    have c3b2 : (l0.length == l1.length) = false := by first | simpa using c3 | (simp at c3 ⊢; omega)
    obtain rfl := Option.some.inj H
    go_enter Try.func17, Try.ntmps17
    go_wp2
    repeat (go_quiet (fail); try go_wp2)
    go_ret
    exact ⟨by first | rfl | (simp; done) | (simp [*]; done), by repeat (first | exact Drawn0.refl _ | apply Drawn0.step)⟩

def laws_eqIntS.l0 : Nat → List Int → List Int → Int → Option (Bool)
  | 0, _, _, _ => none
  | k + 1, x0, x1, x5 => if x5 < (x0.length : Int) then (if 0 ≤ x5 then (if x5 < (x1.length : Int) then (if (rd x0 x5) = (rd x1 x5) then (laws_eqIntS.l0 k x0 x1 (wrap64 (x5 + 1))) else (some false)) else (none)) else (none)) else (some true)
def laws_eqIntS.f (k : Nat) (l0 : List Int) (l1 : List Int) : Option (Bool) := if (l0.length : Int) = (l1.length : Int) then (laws_eqIntS.l0 k l0 l1 0) else (some false)
set_option maxHeartbeats 8000000 in
set_option maxRecDepth 100000 in
theorem laws_eqIntS.calls (k : Nat) (A0 : Option Addr) (c0 : Nat) (l0 : List Int) (A1 : Option Addr) (c1 : Nat) (l1 : List Int) (r : Bool) (w : World) (hr0 : Kd.C (Kd.int .i64) w A0 l0.length l0) (hc0 : l0.length ≤ c0) (hr1 : Kd.C (Kd.int .i64) w A1 l1.length l1) (hc1 : l1.length ≤ c1) (h : laws_eqIntS.f k l0 l1 = some r) :
    Calls Try.prog 18 #[.slice A0 l0.length c0, .slice A1 l1.length c1] w fun e w' => e = .returned (.bool r) ∧ Drawn0 w w' := by
  have HR0 := Aside0.mk hr0
  have HC0 := Aside0.mk hc0
  clear hr0 hc0
  have HR1 := Aside0.mk hr1
  have HC1 := Aside0.mk hc1
  clear hr1 hc1
  have H : (if (l0.length : Int) = (l1.length : Int) then (laws_eqIntS.l0 k l0 l1 0) else (some false)) = some r := h
  clear h
  by_cases c3 : (l0.length : Int) = (l1.length : Int)
  · rw [if_pos c3] at H
    have c3b0 : ((l0.length : Int) == (l1.length : Int)) = true := beq_iff_eq.mpr c3
    have c3b1 : ((l0.length : Int) != (l1.length : Int)) = false := bne_eq_false_iff_eq.mpr c3
    have c3b2 : (l0.length == l1.length) = true := by first | simpa using c3 | (simp at c3 ⊢; omega)
    clear c3
    have H' := Aside0.mk H
    clear H
    go_enter Try.func18, Try.ntmps18
    go_wp2
    repeat (go_quiet (fail); try go_wp2)
    go_loopg [5] k (fun kq v5 w' => ∃ (x5_1 : Int), v5 = .int .i64 x5_1 ∧ Aside0 (laws_eqIntS.l0 kq l0 l1 x5_1 = some r) ∧ Aside0 (kq ≤ k) ∧ Drawn0 w w')
    case atStart => exact ⟨(0), (by first | rfl | (simp; done) | (simp [*]; done)), H', ⟨Nat.le_refl _⟩, by repeat (first | exact Drawn0.refl _ | apply Drawn0.step)⟩
    case round =>
      clear H'
      try clear c1
      try clear p2
      try clear c3
      try clear c3b0
      try clear c3b1
      try clear c3b2
      obtain ⟨x5_1, rfl, HA, HK1, ⟨m1, rfl⟩⟩ := hrel
      cases gk with
      | zero => exact absurd HA.out (by simp [laws_eqIntS.l0])
      | succ k1 =>
        have H := HA.out
        clear HA
        simp only [laws_eqIntS.l0] at H
        by_cases c4 : x5_1 < (l0.length : Int)
        · rw [if_pos c4] at H
          have c4b0 : decide (x5_1 < (l0.length : Int)) = true := decide_eq_true c4
          clear c4
          by_cases c5 : 0 ≤ x5_1
          · rw [if_pos c5] at H
            have c5b0 : decide (0 ≤ x5_1) = true := decide_eq_true c5
            clear c5
            by_cases c6 : x5_1 < (l1.length : Int)
            · rw [if_pos c6] at H
              have c6b0 : decide (x5_1 < (l1.length : Int)) = true := decide_eq_true c6
              clear c6
              by_cases c7 : (rd l0 x5_1) = (rd l1 x5_1)
              · rw [if_pos c7] at H
                have c7b0 : ((rd l0 x5_1) == (rd l1 x5_1)) = true := beq_iff_eq.mpr c7
                have c7b1 : ((rd l0 x5_1) != (rd l1 x5_1)) = false := bne_eq_false_iff_eq.mpr c7
                clear c7
                have H' := Aside0.mk H
                clear H
                have p485 : 0 ≤ (x5_1 : Int) := of_decide_eq_true (by first | (with_reducible assumption) | assumption)
                have q485 : x5_1 < (l0.length : Int) := of_decide_eq_true (by first | (with_reducible assumption) | assumption)
                obtain ⟨ad485, e485, hx485_0⟩ := Kd.at_int HR0.out x5_1 p485 q485
                cases e485
                replace p485 := eq_true p485
                replace q485 := eq_true q485
                have p486 : 0 ≤ (x5_1 : Int) := of_decide_eq_true (by first | (with_reducible assumption) | assumption)
                have q486 : x5_1 < (l1.length : Int) := of_decide_eq_true (by first | (with_reducible assumption) | assumption)
                obtain ⟨ad486, e486, hx486_0⟩ := Kd.at_int HR1.out x5_1 p486 q486
                cases e486
                replace p486 := eq_true p486
                replace q486 := eq_true q486
                go_wp2
                repeat (go_quiet (fail); try go_wp2)
                go_roundg k1
                case measure => have := HK1.out; omega
                case rel => exact ⟨(wrap64 (x5_1 + 1)), (by first | rfl | (simp; done) | (simp [*]; done)), H', ⟨by have := HK1.out; omega⟩, by repeat (first | exact Drawn0.refl _ | apply Drawn0.step)⟩
              · rw [if_neg c7] at H
                have c7b0 : ((rd l0 x5_1) == (rd l1 x5_1)) = false := beq_eq_false_iff_ne.mpr c7
                have c7b1 : ((rd l0 x5_1) != (rd l1 x5_1)) = true := bne_iff_ne.mpr c7
                obtain rfl := Option.some.inj H
                have p485 : 0 ≤ (x5_1 : Int) := of_decide_eq_true (by first | (with_reducible assumption) | assumption)
                have q485 : x5_1 < (l0.length : Int) := of_decide_eq_true (by first | (with_reducible assumption) | assumption)
                obtain ⟨ad485, e485, hx485_0⟩ := Kd.at_int HR0.out x5_1 p485 q485
                cases e485
                replace p485 := eq_true p485
                replace q485 := eq_true q485
                have p486 : 0 ≤ (x5_1 : Int) := of_decide_eq_true (by first | (with_reducible assumption) | assumption)
                have q486 : x5_1 < (l1.length : Int) := of_decide_eq_true (by first | (with_reducible assumption) | assumption)
                obtain ⟨ad486, e486, hx486_0⟩ := Kd.at_int HR1.out x5_1 p486 q486
                cases e486
                replace p486 := eq_true p486
                replace q486 := eq_true q486
                go_wp2
                repeat (go_quiet (fail); try go_wp2)
                go_ret
                exact ⟨by first | rfl | (simp; done) | (simp [*]; done), by repeat (first | exact Drawn0.refl _ | apply Drawn0.step)⟩
            · rw [if_neg c6] at H
              exact absurd H (by simp)
          · rw [if_neg c5] at H
            exact absurd H (by simp)
        · rw [if_neg c4] at H
          have c4b0 : decide (x5_1 < (l0.length : Int)) = false := decide_eq_false c4
          clear c4
          obtain rfl := Option.some.inj H
          go_wp2
          repeat (go_quiet (fail); try go_wp2)
          go_ret
          exact ⟨by first | rfl | (simp; done) | (simp [*]; done), by repeat (first | exact Drawn0.refl _ | apply Drawn0.step)⟩
  · rw [if_neg c3] at H
    have c3b0 : ((l0.length : Int) == (l1.length : Int)) = false := beq_eq_false_iff_ne.mpr c3
    have c3b1 : ((l0.length : Int) != (l1.length : Int)) = true := bne_iff_ne.mpr c3
    have c3b2 : (l0.length == l1.length) = false := by first | simpa using c3 | (simp at c3 ⊢; omega)
    obtain rfl := Option.some.inj H
    go_enter Try.func18, Try.ntmps18
    go_wp2
    repeat (go_quiet (fail); try go_wp2)
    go_ret
    exact ⟨by first | rfl | (simp; done) | (simp [*]; done), by repeat (first | exact Drawn0.refl _ | apply Drawn0.step)⟩

end Go.Proofs.Ytookabfmbimnoaa.Lk

namespace Go.Proofs.Ytookabfmbimnoaa.Lk
open Go.RowKit Go.Proofs.YtookabfmbimnoaaW.PrintWords Go.Proofs.YtookabfmbimnoaaW.PrintLast Go.Proofs.YtookabfmbimnoaaW.PrintMore
set_option linter.unusedVariables false
set_option linter.unusedSimpArgs false

structure SrcOk (b : List Int) : Prop where
  len : b.length ≤ 2000
  byt : ∀ x ∈ b, byteOk x
theorem wf_byte {x : Int} (h : (Lit.int .u8 x).wf = true) : byteOk x := by
  have h0 : IntKind.u8.min = 0 := by decide
  have h1 : IntKind.u8.max = 255 := by decide
  simp only [Lit.wf, Bool.and_eq_true, decide_eq_true_eq, h0, h1] at h
  exact h
end Go.Proofs.Ytookabfmbimnoaa.Lk

namespace Go.Proofs.Ytookabfmbimnoaa.Lk
open Go.RowKit Go.Proofs.YtookabfmbimnoaaW.PrintWords Go.Proofs.YtookabfmbimnoaaW.PrintLast Go.Proofs.YtookabfmbimnoaaW.PrintMore
set_option linter.unusedVariables false
set_option linter.unusedSimpArgs false

theorem specFatesG (l : List Int) (hl : l.length ≤ 9223372036854775807) : ∀ (m i k : Nat), i + m = l.length → m + 1 ≤ k → spec_FatesValid.l0 k l (i : Int) = some (decide (l.length ≤ 200) && (l.drop i).all fateOk)
  | m, i, 0, hi, hk => by omega
  | 0, i, k + 1, hi, hk => by
    rw [spec_FatesValid.l0, if_neg (by omega), List.drop_eq_nil_of_le (by omega)]
    simp only [List.all_nil, Bool.and_true, Option.some.injEq, decide_eq_decide]
    omega
  | m + 1, i, k + 1, hi, hk => by
    have e : wrap64 ((i : Int) + 1) = ((i + 1 : Nat) : Int) := by rw [w64 _ (by omega)]; simp
    have hil : i < l.length := by omega
    have hr : rd l (i : Int) = l[i] := by
      show l.getD _ 0 = _
      rw [List.getD_eq_getElem?_getD, Int.toNat_natCast, List.getElem?_eq_getElem hil]
      rfl
    have hd : l.drop i = l[i] :: l.drop (i + 1) := List.drop_eq_getElem_cons hil
    have e2 : spec_l1In.f l[i] 0 4 = some (fateOk l[i]) := by
      unfold spec_l1In.f fateOk
      by_cases h : l[i] ≥ 0
      · rw [if_pos h, decide_eq_true h]; rfl
      · rw [if_neg h, decide_eq_false h]; rfl
    rw [spec_FatesValid.l0, if_pos (by omega), if_pos (by omega), hr, e2, Option.bind_some, hd, List.all_cons]
    cases h : fateOk l[i] with
    | true => rw [if_pos rfl, e, specFatesG l hl m (i + 1) k (by omega) (by omega), Bool.true_and]
    | false => rw [if_neg (by simp), Bool.false_and, Bool.and_false]
theorem specIn_ok (n lo hi : Int) : spec_l1In.f n lo hi = some (decide (lo ≤ n) && decide (n ≤ hi)) := by
  unfold spec_l1In.f
  by_cases h : n ≥ lo
  · rw [if_pos h, decide_eq_true h]; rfl
  · rw [if_neg h, decide_eq_false h]; rfl

end Go.Proofs.Ytookabfmbimnoaa.Lk

namespace Go.Proofs.Ytookabfmbimnoaa.Lk
open Go.RowKit Go.Proofs.YtookabfmbimnoaaW.PrintWords Go.Proofs.YtookabfmbimnoaaW.PrintLast Go.Proofs.YtookabfmbimnoaaW.PrintMore
set_option linter.unusedVariables false
set_option linter.unusedSimpArgs false

def copyOk (k : Nat) (l : List (List Int)) : Bool := decide (l.length ≤ 1000000000) && l.all fun b => laws_toByteS.f k b == some b
def laws_toByteSS.f (k : Nat) (l : List (List Int)) : Option (List (List Int)) := if copyOk k l = true then some l else none
theorem set_next {l : List (List Int)} {j : Nat} (hj : j < l.length) : (l.take j ++ List.replicate (l.length - j) ([] : List Int)).set j (rd_L2 l (j : Int)) = l.take (j + 1) ++ List.replicate (l.length - (j + 1)) [] := by
  have h1 : (l.take j).length = j := by rw [List.length_take]; omega
  rw [List.set_append_right _ _ (by omega), h1, Nat.sub_self, show l.length - j = (l.length - (j + 1)) + 1 by omega, List.replicate_succ, List.set_cons_zero, List.take_succ_eq_append_getElem hj, rd_L2_get hj, List.append_assoc]
  rfl
set_option maxHeartbeats 8000000 in
set_option maxRecDepth 100000 in
theorem laws_toByteSS.calls (k : Nat) (A0 : Option Addr) (c0 : Nat) (l0 : List (List Int)) (r : List (List Int)) (w : World) (hr0 : Kd.C (Kd.slice 5 (Kd.int .u8)) w A0 l0.length l0) (hc0 : l0.length ≤ c0) (h : laws_toByteSS.f k l0 = some r) :
    Calls Try.prog 14 #[.slice A0 l0.length c0] w fun e w' => ∃ v0_ : Value, e = .returned v0_ ∧ Kd.S (Kd.slice 5 (Kd.int .u8)) 22 w' w.heap.size (fun _ => True) v0_ r ∧ Below w.heap.size w w' := by
  have HR0 := Aside0.mk hr0
  have HC0 := Aside0.mk hc0
  clear hr0 hc0
  unfold laws_toByteSS.f at h
  by_cases hk : copyOk k l0 = true
  case neg => rw [if_neg hk] at h; cases h
  rw [if_pos hk] at h
  obtain rfl := Option.some.inj h
  clear h
  unfold copyOk at hk
  simp only [Bool.and_eq_true, List.all_eq_true, beq_iff_eq, decide_eq_true_eq] at hk
  obtain ⟨hl, hk⟩ := hk
  have HK := Aside0.mk hk
  have HL := Aside0.mk hl
  clear hk
  have HB := Aside0.mk (Below.refl w.heap.size w)
  have h0l : (0 : Int) ≤ (l0.length : Int) := by omega
  go_enter Try.func14, Try.ntmps14
  go_wp2_with (first | ((with_reducible refine gate_dst (N := 7) rfl ?_); refine Kd.S_make (Kd.slice 5 (Kd.int .u8)) _ 22 rfl (N := 7) rfl 23 _ _ rfl (l0.length : Int) rfl rfl Try.underlying23 (.slice none 0 0) 24 info22 rfl (by decide) (by omega) ([] : List Int) (ok := fun _ => True) (okp := fun _ => True) (Kd.M_row (Kd.R_nil _ _ _ _ _)) (fun _ hk => hk) trivial (by omega) (by have := HL.out; omega) (Below.refl _ _) (Nat.le_refl _) ?_; intro v3 w4 ho5 hb hg_ hnew_; clear hg_ hnew_; have n0_ := Aside0.mk (Kd.S_lower ho5 (below_size (by repeat (first | (with_reducible first | exact HB.out | apply below_alloc | apply pw_below_drewN | apply below_drew1) | exact HB.out)))); have n1_ := Aside0.mk (below_step (by repeat (first | (with_reducible first | exact HB.out | apply below_alloc | apply pw_below_drewN | apply below_drew1) | exact HB.out)) hb); clear HB; have HO := n0_; have HB := n1_; clear n0_ n1_; clear hb ho5))
  go_loopg [4] l0.length (fun kq v4 w' => ∃ j : Nat, v4 = .int .i64 (j : Int) ∧ Aside0 (j + kq = l0.length) ∧ Aside0 (Kd.S (Kd.slice 5 (Kd.int .u8)) 22 w' w.heap.size (fun _ => True) v3 (l0.take j ++ List.replicate (l0.length - j) [])) ∧ Aside0 (Below w.heap.size w w'))
  case atStart => exact ⟨0, rfl, ⟨by omega⟩, ⟨by rw [List.take_zero, List.nil_append, Nat.sub_zero]; rw [Int.toNat_natCast] at HO; exact (by (with_reducible repeat (first | apply Kd.S_alloc | apply Kd.S_drewN | apply Kd.S_drew)); exact HO.out)⟩, ⟨(by repeat (first | (with_reducible first | exact HB.out | apply below_alloc | apply pw_below_drewN | apply below_drew1) | exact HB.out))⟩⟩
  case round =>
    clear HB HO
    obtain ⟨j, rfl, HJ, HO, HB⟩ := hrel
    cases gk with
    | zero =>
      have hj : j = l0.length := by have := HJ.out; omega
      subst hj
      have c1 : decide ((l0.length : Int) < l0.length) = false := decide_eq_false (by omega)
      rw [Nat.sub_self, List.replicate_zero, List.append_nil, List.take_length] at HO
      go_wp2
      go_ret
      exact ⟨_, rfl, (by (with_reducible repeat (first | apply Kd.S_alloc | apply Kd.S_drewN | apply Kd.S_drew)); exact HO.out), (by repeat (first | (with_reducible first | exact HB.out | apply below_alloc | apply pw_below_drewN | apply below_drew1) | exact HB.out))⟩
    | succ k1 =>
      have hj : j < l0.length := by have := HJ.out; omega
      have c1 : decide ((j : Int) < l0.length) = true := decide_eq_true (by omega)
      have c2 : ((0 : Int) ≤ (j : Int)) = True := eq_true (by omega)
      have c3 : ((j : Int) < l0.length) = True := eq_true (by omega)
      have hbig2 : l0.length ≤ 1000000000 := HL.out
      obtain ⟨ad, Aj, cj, hA, hx, hcj, hrj⟩ := at_L2 (Kd.C_below HR0.out HB.out) (j : Int) (by omega) (by omega)
      subst hA
      rw [Int.toNat_natCast] at hx
      have HRJ := Aside0.mk hrj
      have HCJ := Aside0.mk hcj
      have HT := Aside0.mk (set_next hj)
      have HF := Aside0.mk (HK.out (rd_L2 l0 (j : Int)) (by rw [rd_L2_get hj]; exact List.getElem_mem hj))
      have hlen : (l0.take j ++ List.replicate (l0.length - j) ([] : List Int)).length = l0.length := by rw [List.length_append, List.length_take, List.length_replicate]; omega
      have HLEN := Aside0.mk hlen
      obtain ⟨g, cap, ev, hgb, _⟩ := Kd.S_form HO.out (by omega)
      rw [hlen] at ev
      subst ev
      obtain ⟨oki, cc, hcl, hM, hcc, hfr, hoki, hH⟩ := Kd.S_elem HO.out [] (j : Int) (by omega) (by omega)
      have HH := Aside0.mk (Kd.H_widen hH)
      have hcell : wr.cell? ⟨g, j, none⟩ = some (.slice none 0 0) ∨ True := .inr trivial
      clear hcell hH hM hcc
      have hf0 := hfr 0
      rw [Int.toNat_natCast, Nat.add_zero] at hf0
      have hsz : (Kd.slice 5 (Kd.int .u8)).sz = 1 := rfl
      rw [hsz, Nat.mul_one] at hf0
      clear hsz hfr
      have HOKI := Aside0.mk hoki
      have HCL := Aside0.mk hcl
      have HGB := Aside0.mk hgb
      have HBS := Aside0.mk (below_size HB.out)
      clear hrj hcj hlen hoki hcl HO
      generalize rd_L2 l0 (j : Int) = row at HRJ HCJ HT HF hx
      generalize l0.take j ++ List.replicate (l0.length - j) ([] : List Int) = cur at HT HLEN HH
      go_wp2_with (first
      | ((with_reducible refine gate_callee (f := 39) rfl ?_); refine goesL_ (some 20) rfl rfl Try.func39 (by kernel_rfl) rfl #[.slice Aj row.length cj] rfl (by (try simp only [List.map_toArray, List.map_cons, List.map_nil]); first | done | rfl) ?_; (with_reducible refine (laws_toByteS.calls k _ _ row row _ ?s0 HCJ.out HF.out).mono ?_); (case s0 => repeat (first | exact HRJ.out | (with_reducible refine Kd.C_alloc ?_ _) | (with_reducible refine Kd.C_drewN ?_ _) | (with_reducible refine Kd.C_drew ?_))); rintro e w' ⟨ve, rfl, he, hb⟩; refine ⟨_, rfl, ?_⟩; have hsz := HB.out.size; have n0_ := Aside0.mk (Kd.H_below HH.out hb); have n1_ := Aside0.mk (below_step HB.out hb); have n2_ := Aside0.mk he; clear HH HB; have HH := n0_; have HB := n1_; have HE := n2_; clear n0_ n1_ n2_ hb he hsz; obtain ⟨Ae, ce, ee⟩ := Kd.R_slice HE.out; subst ee)
      | ((with_reducible refine gate_store (t := 22) (p := 21) (v := .tmp 20) rfl ?_); (refine Kd.H_store (Kd.slice 5 (Kd.int .u8)) (w0 := w) w.heap.size rfl rfl 22 (.tmp 21) (.tmp 20) rfl 22 (g := g) (n := l0.length) (cap := cap) (j : Int) 0 cur row (.slice Ae row.length ce) [.slice Ae row.length ce] cc (fun _ => True) _ (fun k_ => wr.heap.size ≤ k_) rfl (by first | rfl | (show _ = j * 1 + 0; omega)) rfl rfl (by rw [show (Try.prog.info? 22).map (·.size) = some 1 from rfl]; rfl) ?aOne HH.out (by omega) (by omega) (Nat.le_refl 1) ?aM ?aP HB.out ?_); (case aOne => intro q hq; rw [List.mem_singleton] at hq; subst hq; rfl); (case aM => have hcc1 : cc.length = 1 := HCL.out; rw [show cc.take 0 = [] from rfl, List.nil_append, List.drop_eq_nil_of_le (by rw [hcc1]; exact Nat.le_refl 1), List.append_nil]; exact Kd.M_row (Kd.R_lower (Kd.R_mono (Kd.R_bound HE.out) (fun _ hk => hk.2.1)) HBS.out)); (case aP => exact fun _ hk => .inr ⟨trivial, hk⟩); (intro w8 ho hb hg); have n0_ := Aside0.mk ho; have n1_ := Aside0.mk hb; clear HH HB; have HO := n0_; have HB := n1_; clear n0_ n1_ ho hb hg))
      go_roundg k1
      case measure => omega
      case rel => exact ⟨j + 1, by go_num, ⟨by have := HJ.out; omega⟩, ⟨by rw [← HT.out]; exact (by (with_reducible repeat (first | apply Kd.S_alloc | apply Kd.S_drewN | apply Kd.S_drew)); exact HO.out)⟩, ⟨(by repeat (first | (with_reducible first | exact HB.out | apply below_alloc | apply pw_below_drewN | apply below_drew1) | exact HB.out))⟩⟩
end Go.Proofs.Ytookabfmbimnoaa.Lk

namespace Go.Proofs.Ytookabfmbimnoaa.Lk
open Go.RowKit Go.Proofs.YtookabfmbimnoaaW.PrintWords Go.Proofs.YtookabfmbimnoaaW.PrintLast Go.Proofs.YtookabfmbimnoaaW.PrintMore
attribute [local go_sem] max2_int min2_int max_two min_two max_three min_three max_four min_four   -- for this text's walks alone
set_option linter.unusedVariables false
set_option linter.unusedSimpArgs false

def spec_LinkRounds.f (k : Nat) (a0 : Int) (l1 : List (List Int)) (l2 : List Int) (l3 : List Int) : Option (Int) := (spec_l5Link.f k a0 l1 l2 l3).bind fun t454 => (if t454 = true then ((spec_l5Run.f k a0 l1 l2 l3 400).bind fun bt455 => (if bt455.2.2.2 = true then (some bt455.2.1) else (some (-1)))) else (some (-1)))
set_option maxHeartbeats 8000000 in
set_option maxRecDepth 100000 in
theorem spec_LinkRounds.calls (k : Nat) (a0 : Int) (A1 : Option Addr) (c1 : Nat) (l1 : List (List Int)) (A2 : Option Addr) (c2 : Nat) (l2 : List Int) (A3 : Option Addr) (c3 : Nat) (l3 : List Int) (r : Int) (w : World) (hr1 : Kd.C (Kd.slice 5 (Kd.int .u8)) w A1 l1.length l1) (hc1 : l1.length ≤ c1) (hr2 : Kd.C (Kd.int .i64) w A2 l2.length l2) (hc2 : l2.length ≤ c2) (hr3 : Kd.C (Kd.int .i64) w A3 l3.length l3) (hc3 : l3.length ≤ c3) (h : spec_LinkRounds.f k a0 l1 l2 l3 = some r) :
    Calls Try.prog 13 #[.int .i64 a0, .slice A1 l1.length c1, .slice A2 l2.length c2, .slice A3 l3.length c3] w fun e w' => e = .returned (.int .i64 r) ∧ Below w.heap.size w w' := by
  have hu28 := Try.underlying28
  have HR1 := Aside0.mk hr1
  have HC1 := Aside0.mk hc1
  clear hr1 hc1
  have HR2 := Aside0.mk hr2
  have HC2 := Aside0.mk hc2
  clear hr2 hc2
  have HR3 := Aside0.mk hr3
  have HC3 := Aside0.mk hc3
  clear hr3 hc3
  have HB := Aside0.mk (Below.refl w.heap.size w)
  have H : ((spec_l5Link.f k a0 l1 l2 l3).bind fun t454 => (if t454 = true then ((spec_l5Run.f k a0 l1 l2 l3 400).bind fun bt455 => (if bt455.2.2.2 = true then (some bt455.2.1) else (some (-1)))) else (some (-1)))) = some r := h
  clear h
  replace H := Option.bind_eq_some_iff.mp H
  obtain ⟨t454, A50, H⟩ := H
  replace H : (if t454 = true then ((spec_l5Run.f k a0 l1 l2 l3 400).bind fun bt455 => (if bt455.2.2.2 = true then (some bt455.2.1) else (some (-1)))) else (some (-1))) = some r := H
  have A5 := Aside0.mk A50
  clear A50
  by_cases c6 : t454 = true
  · subst c6
    have H1 : ((spec_l5Run.f k a0 l1 l2 l3 400).bind fun bt455 => (if bt455.2.2.2 = true then (some bt455.2.1) else (some (-1)))) = some r := by rw [if_pos rfl] at H; exact H
    clear H
    have H := H1
    clear H1
    replace H := Option.bind_eq_some_iff.mp H
    obtain ⟨⟨t455, t458, t459, t460⟩, A70, H⟩ := H
    replace H : (if t460 = true then (some t458) else (some (-1))) = some r := H
    have A7 := Aside0.mk A70
    clear A70
    by_cases c8 : t460 = true
    · subst c8
      have H1 : (some t458) = some r := by rw [if_pos rfl] at H; exact H
      clear H
      have H := H1
      clear H1
      obtain rfl := Option.some.inj H
      go_enter Try.func13, Try.ntmps13
      go_wp2_with (first | ((with_reducible refine gate_callee (f := 35) rfl ?_); refine goesL_ (some 14) rfl rfl Try.func35 (by kernel_rfl) rfl #[.int .i64 a0, .slice A1 l1.length c1, .slice A2 l2.length c2, .slice A3 l3.length c3] rfl (by (try simp only [List.map_toArray, List.map_cons, List.map_nil]); first | done | rfl | (simp only [List.length_drop, List.length_take]; rfl)) ?_; (with_reducible refine (spec_l5Link.calls k a0 _ _ l1 _ _ l2 _ _ l3 true _ ?side1 ?side2 ?side3 ?side4 ?side5 ?side6 A5.out).mono ?_); (case side1 => repeat (first | exact HR1.out | (with_reducible refine Kd.C_alloc ?_ _) | (with_reducible refine Kd.C_drewN ?_ _) | (with_reducible refine Kd.C_drew ?_))); (case side2 => exact HC1.out); (case side3 => repeat (first | exact HR2.out | (with_reducible refine Kd.C_alloc ?_ _) | (with_reducible refine Kd.C_drewN ?_ _) | (with_reducible refine Kd.C_drew ?_))); (case side4 => exact HC2.out); (case side5 => repeat (first | exact HR3.out | (with_reducible refine Kd.C_alloc ?_ _) | (with_reducible refine Kd.C_drewN ?_ _) | (with_reducible refine Kd.C_drew ?_))); (case side6 => exact HC3.out); rintro e w' ⟨rfl, ⟨nd, rfl⟩⟩; refine ⟨_, rfl, ?_⟩) | ((with_reducible refine gate_callee (f := 37) rfl ?_); refine goesL_ (some 20) rfl rfl Try.func37 (by kernel_rfl) rfl #[.int .i64 a0, .slice A1 l1.length c1, .slice A2 l2.length c2, .slice A3 l3.length c3, .int .i64 400] rfl (by (try simp only [List.map_toArray, List.map_cons, List.map_nil]); first | done | rfl | (simp only [List.length_drop, List.length_take]; rfl)) ?_; (with_reducible refine (spec_l5Run.calls k a0 _ _ l1 _ _ l2 _ _ l3 400 t455 t458 t459 true _ ?side1 ?side2 ?side3 ?side4 ?side5 ?side6 A7.out).mono ?_); (case side1 => repeat (first | exact HR1.out | (with_reducible refine Kd.C_alloc ?_ _) | (with_reducible refine Kd.C_drewN ?_ _) | (with_reducible refine Kd.C_drew ?_))); (case side2 => exact HC1.out); (case side3 => repeat (first | exact HR2.out | (with_reducible refine Kd.C_alloc ?_ _) | (with_reducible refine Kd.C_drewN ?_ _) | (with_reducible refine Kd.C_drew ?_))); (case side4 => exact HC2.out); (case side5 => repeat (first | exact HR3.out | (with_reducible refine Kd.C_alloc ?_ _) | (with_reducible refine Kd.C_drewN ?_ _) | (with_reducible refine Kd.C_drew ?_))); (case side6 => exact HC3.out); rintro e w9 ⟨v456, rfl, ho0, hb⟩; refine ⟨_, rfl, ?_⟩; have n0_ := Aside0.mk (Kd.S_lower ho0 (below_size (by repeat (first | (with_reducible first | exact HB.out | apply below_alloc | apply pw_below_drewN | apply below_drew1) | exact HB.out)))); have n1_ := Aside0.mk (below_step (by repeat (first | (with_reducible first | exact HB.out | apply below_alloc | apply pw_below_drewN | apply below_drew1) | exact HB.out)) hb); clear HB; have HO457 := n0_; have HB := n1_; clear n0_ n1_; (try clear hb); (try clear hb2); (try clear hk); (try clear hi); (try clear ho0)) | ((with_reducible refine gate_dst (N := 9) rfl ?_); refine box_event ?hg (N := 9) ?hd (cs := #[.slice none 0 0, .int .i64 0, .int .i64 0, .bool false]) (t := 28) ?hr ?_; (case hd => rfl); (case hg => rfl); (case hr => first | (go_simp; done) | (go_simp; rfl)); intro gb461 hg w10 hbox hb; have n0_ := Aside0.mk (Kd.S_below (by (with_reducible repeat (first | apply Kd.S_alloc | apply Kd.S_drewN | apply Kd.S_drew)); exact HO457.out) hb); have n1_ := Aside0.mk (below_step (by repeat (first | (with_reducible first | exact HB.out | apply below_alloc | apply pw_below_drewN | apply below_drew1) | exact HB.out)) hb); have n2_ := Aside0.mk (hbox); have n3_ := Aside0.mk ((by rw [hg]; exact (below_size (by repeat (first | (with_reducible first | exact HB.out | apply below_alloc | apply pw_below_drewN | apply below_drew1) | exact HB.out))) : w.heap.size ≤ gb461)); have n4_ := Aside0.mk ((by rw [hg]; exact (below_size (by repeat (first | (with_reducible first | exact HB.out | apply below_alloc | apply pw_below_drewN | apply below_drew1) | exact HB.out))) : w.heap.size ≤ gb461)); clear HO457; clear HB; have HO457 := n0_; have HB := n1_; have BK461 := n2_; have GW461 := n3_; have GE461 := n4_; clear n0_ n1_ n2_ n3_ n4_; clear hb hbox hg; obtain ⟨Ao11, co11, eo11⟩ := Kd.S_slice HO457.out; subst eo11; have hcz12_0 : w10.cell? ⟨gb461, 0, none⟩ = some (.slice none 0 0) := (blk_cell BK461.out 0).trans rfl; have hcz12_1 : w10.cell? ⟨gb461, 1, none⟩ = some (.int .i64 0) := (blk_cell BK461.out 1).trans rfl; have hcz12_2 : w10.cell? ⟨gb461, 2, none⟩ = some (.int .i64 0) := (blk_cell BK461.out 2).trans rfl; have hcz12_3 : w10.cell? ⟨gb461, 3, none⟩ = some (.bool false) := (blk_cell BK461.out 3).trans rfl; have hfz12_0 := blk_frozen BK461.out 0; have hfz12_1 := blk_frozen BK461.out 1; have hfz12_2 := blk_frozen BK461.out 2; have hfz12_3 := blk_frozen BK461.out 3))
      go_ret
      exact ⟨by first | rfl | (simp [errW_none, errW_some] <;> rfl) | (simp [*, errW_none, errW_some] <;> rfl), by repeat (first | (with_reducible first | exact HB.out | apply below_alloc | apply pw_below_drewN | apply below_drew1 | refine below_set ?_ GE461.out) | exact HB.out)⟩
    · replace c8 := Bool.eq_false_iff.mpr c8
      subst c8
      have H1 : (some (-1)) = some r := by rw [if_neg (show ¬ (false = true) by decide)] at H; exact H
      clear H
      have H := H1
      clear H1
      obtain rfl := Option.some.inj H
      go_enter Try.func13, Try.ntmps13
      go_wp2_with (first | ((with_reducible refine gate_callee (f := 35) rfl ?_); refine goesL_ (some 14) rfl rfl Try.func35 (by kernel_rfl) rfl #[.int .i64 a0, .slice A1 l1.length c1, .slice A2 l2.length c2, .slice A3 l3.length c3] rfl (by (try simp only [List.map_toArray, List.map_cons, List.map_nil]); first | done | rfl | (simp only [List.length_drop, List.length_take]; rfl)) ?_; (with_reducible refine (spec_l5Link.calls k a0 _ _ l1 _ _ l2 _ _ l3 true _ ?side1 ?side2 ?side3 ?side4 ?side5 ?side6 A5.out).mono ?_); (case side1 => repeat (first | exact HR1.out | (with_reducible refine Kd.C_alloc ?_ _) | (with_reducible refine Kd.C_drewN ?_ _) | (with_reducible refine Kd.C_drew ?_))); (case side2 => exact HC1.out); (case side3 => repeat (first | exact HR2.out | (with_reducible refine Kd.C_alloc ?_ _) | (with_reducible refine Kd.C_drewN ?_ _) | (with_reducible refine Kd.C_drew ?_))); (case side4 => exact HC2.out); (case side5 => repeat (first | exact HR3.out | (with_reducible refine Kd.C_alloc ?_ _) | (with_reducible refine Kd.C_drewN ?_ _) | (with_reducible refine Kd.C_drew ?_))); (case side6 => exact HC3.out); rintro e w' ⟨rfl, ⟨nd, rfl⟩⟩; refine ⟨_, rfl, ?_⟩) | ((with_reducible refine gate_callee (f := 37) rfl ?_); refine goesL_ (some 20) rfl rfl Try.func37 (by kernel_rfl) rfl #[.int .i64 a0, .slice A1 l1.length c1, .slice A2 l2.length c2, .slice A3 l3.length c3, .int .i64 400] rfl (by (try simp only [List.map_toArray, List.map_cons, List.map_nil]); first | done | rfl | (simp only [List.length_drop, List.length_take]; rfl)) ?_; (with_reducible refine (spec_l5Run.calls k a0 _ _ l1 _ _ l2 _ _ l3 400 t455 t458 t459 false _ ?side1 ?side2 ?side3 ?side4 ?side5 ?side6 A7.out).mono ?_); (case side1 => repeat (first | exact HR1.out | (with_reducible refine Kd.C_alloc ?_ _) | (with_reducible refine Kd.C_drewN ?_ _) | (with_reducible refine Kd.C_drew ?_))); (case side2 => exact HC1.out); (case side3 => repeat (first | exact HR2.out | (with_reducible refine Kd.C_alloc ?_ _) | (with_reducible refine Kd.C_drewN ?_ _) | (with_reducible refine Kd.C_drew ?_))); (case side4 => exact HC2.out); (case side5 => repeat (first | exact HR3.out | (with_reducible refine Kd.C_alloc ?_ _) | (with_reducible refine Kd.C_drewN ?_ _) | (with_reducible refine Kd.C_drew ?_))); (case side6 => exact HC3.out); rintro e w13 ⟨v456, rfl, ho0, hb⟩; refine ⟨_, rfl, ?_⟩; have n0_ := Aside0.mk (Kd.S_lower ho0 (below_size (by repeat (first | (with_reducible first | exact HB.out | apply below_alloc | apply pw_below_drewN | apply below_drew1) | exact HB.out)))); have n1_ := Aside0.mk (below_step (by repeat (first | (with_reducible first | exact HB.out | apply below_alloc | apply pw_below_drewN | apply below_drew1) | exact HB.out)) hb); clear HB; have HO457 := n0_; have HB := n1_; clear n0_ n1_; (try clear hb); (try clear hb2); (try clear hk); (try clear hi); (try clear ho0)) | ((with_reducible refine gate_dst (N := 9) rfl ?_); refine box_event ?hg (N := 9) ?hd (cs := #[.slice none 0 0, .int .i64 0, .int .i64 0, .bool false]) (t := 28) ?hr ?_; (case hd => rfl); (case hg => rfl); (case hr => first | (go_simp; done) | (go_simp; rfl)); intro gb461 hg w14 hbox hb; have n0_ := Aside0.mk (Kd.S_below (by (with_reducible repeat (first | apply Kd.S_alloc | apply Kd.S_drewN | apply Kd.S_drew)); exact HO457.out) hb); have n1_ := Aside0.mk (below_step (by repeat (first | (with_reducible first | exact HB.out | apply below_alloc | apply pw_below_drewN | apply below_drew1) | exact HB.out)) hb); have n2_ := Aside0.mk (hbox); have n3_ := Aside0.mk ((by rw [hg]; exact (below_size (by repeat (first | (with_reducible first | exact HB.out | apply below_alloc | apply pw_below_drewN | apply below_drew1) | exact HB.out))) : w.heap.size ≤ gb461)); have n4_ := Aside0.mk ((by rw [hg]; exact (below_size (by repeat (first | (with_reducible first | exact HB.out | apply below_alloc | apply pw_below_drewN | apply below_drew1) | exact HB.out))) : w.heap.size ≤ gb461)); clear HO457; clear HB; have HO457 := n0_; have HB := n1_; have BK461 := n2_; have GW461 := n3_; have GE461 := n4_; clear n0_ n1_ n2_ n3_ n4_; clear hb hbox hg; obtain ⟨Ao15, co15, eo15⟩ := Kd.S_slice HO457.out; subst eo15; have hcz16_0 : w14.cell? ⟨gb461, 0, none⟩ = some (.slice none 0 0) := (blk_cell BK461.out 0).trans rfl; have hcz16_1 : w14.cell? ⟨gb461, 1, none⟩ = some (.int .i64 0) := (blk_cell BK461.out 1).trans rfl; have hcz16_2 : w14.cell? ⟨gb461, 2, none⟩ = some (.int .i64 0) := (blk_cell BK461.out 2).trans rfl; have hcz16_3 : w14.cell? ⟨gb461, 3, none⟩ = some (.bool false) := (blk_cell BK461.out 3).trans rfl; have hfz16_0 := blk_frozen BK461.out 0; have hfz16_1 := blk_frozen BK461.out 1; have hfz16_2 := blk_frozen BK461.out 2; have hfz16_3 := blk_frozen BK461.out 3))
      go_ret
      exact ⟨by first | rfl | (simp [errW_none, errW_some] <;> rfl) | (simp [*, errW_none, errW_some] <;> rfl), by repeat (first | (with_reducible first | exact HB.out | apply below_alloc | apply pw_below_drewN | apply below_drew1 | refine below_set ?_ GE461.out) | exact HB.out)⟩
  · replace c6 := Bool.eq_false_iff.mpr c6
    subst c6
    have H1 : (some (-1)) = some r := by rw [if_neg (show ¬ (false = true) by decide)] at H; exact H
    clear H
    have H := H1
    clear H1
    obtain rfl := Option.some.inj H
    go_enter Try.func13, Try.ntmps13
    go_wp2_with (first | ((with_reducible refine gate_callee (f := 35) rfl ?_); refine goesL_ (some 14) rfl rfl Try.func35 (by kernel_rfl) rfl #[.int .i64 a0, .slice A1 l1.length c1, .slice A2 l2.length c2, .slice A3 l3.length c3] rfl (by (try simp only [List.map_toArray, List.map_cons, List.map_nil]); first | done | rfl | (simp only [List.length_drop, List.length_take]; rfl)) ?_; (with_reducible refine (spec_l5Link.calls k a0 _ _ l1 _ _ l2 _ _ l3 false _ ?side1 ?side2 ?side3 ?side4 ?side5 ?side6 A5.out).mono ?_); (case side1 => repeat (first | exact HR1.out | (with_reducible refine Kd.C_alloc ?_ _) | (with_reducible refine Kd.C_drewN ?_ _) | (with_reducible refine Kd.C_drew ?_))); (case side2 => exact HC1.out); (case side3 => repeat (first | exact HR2.out | (with_reducible refine Kd.C_alloc ?_ _) | (with_reducible refine Kd.C_drewN ?_ _) | (with_reducible refine Kd.C_drew ?_))); (case side4 => exact HC2.out); (case side5 => repeat (first | exact HR3.out | (with_reducible refine Kd.C_alloc ?_ _) | (with_reducible refine Kd.C_drewN ?_ _) | (with_reducible refine Kd.C_drew ?_))); (case side6 => exact HC3.out); rintro e w' ⟨rfl, ⟨nd, rfl⟩⟩; refine ⟨_, rfl, ?_⟩))
    go_ret
    exact ⟨by first | rfl | (simp [errW_none, errW_some] <;> rfl) | (simp [*, errW_none, errW_some] <;> rfl), by repeat (first | (with_reducible first | exact HB.out | apply below_alloc | apply pw_below_drewN | apply below_drew1) | exact HB.out)⟩

def impl_LinkRounds.f (k : Nat) (a0 : Int) (l1 : List (List Int)) (l2 : List Int) (l3 : List Int) : Option (Int) := (impl_RunLink.f k a0 l1 l2 l3 400).bind fun bt472 => (if bt472.2.2.2.2 = true then (if bt472.2.2.2.1 = true then (some bt472.2.1) else (some (-1))) else (some (-1)))
set_option maxHeartbeats 8000000 in
set_option maxRecDepth 100000 in
theorem impl_LinkRounds.calls (k : Nat) (a0 : Int) (A1 : Option Addr) (c1 : Nat) (l1 : List (List Int)) (A2 : Option Addr) (c2 : Nat) (l2 : List Int) (A3 : Option Addr) (c3 : Nat) (l3 : List Int) (r : Int) (w : World) (hr1 : Kd.C (Kd.slice 5 (Kd.int .u8)) w A1 l1.length l1) (hc1 : l1.length ≤ c1) (hr2 : Kd.C (Kd.int .i64) w A2 l2.length l2) (hc2 : l2.length ≤ c2) (hr3 : Kd.C (Kd.int .i64) w A3 l3.length l3) (hc3 : l3.length ≤ c3) (h : impl_LinkRounds.f k a0 l1 l2 l3 = some r) :
    Calls Try.prog 16 #[.int .i64 a0, .slice A1 l1.length c1, .slice A2 l2.length c2, .slice A3 l3.length c3] w fun e w' => e = .returned (.int .i64 r) ∧ Below w.heap.size w w' := by
  have hu28 := Try.underlying28
  have HR1 := Aside0.mk hr1
  have HC1 := Aside0.mk hc1
  clear hr1 hc1
  have HR2 := Aside0.mk hr2
  have HC2 := Aside0.mk hc2
  clear hr2 hc2
  have HR3 := Aside0.mk hr3
  have HC3 := Aside0.mk hc3
  clear hr3 hc3
  have HB := Aside0.mk (Below.refl w.heap.size w)
  have H : ((impl_RunLink.f k a0 l1 l2 l3 400).bind fun bt472 => (if bt472.2.2.2.2 = true then (if bt472.2.2.2.1 = true then (some bt472.2.1) else (some (-1))) else (some (-1)))) = some r := h
  clear h
  replace H := Option.bind_eq_some_iff.mp H
  obtain ⟨⟨t472, t475, t476, t477, t478⟩, A50, H⟩ := H
  replace H : (if t478 = true then (if t477 = true then (some t475) else (some (-1))) else (some (-1))) = some r := H
  have A5 := Aside0.mk A50
  clear A50
  by_cases c6 : t478 = true
  · subst c6
    have H1 : (if t477 = true then (some t475) else (some (-1))) = some r := by rw [if_pos rfl] at H; exact H
    clear H
    have H := H1
    clear H1
    by_cases c7 : t477 = true
    · subst c7
      have H1 : (some t475) = some r := by rw [if_pos rfl] at H; exact H
      clear H
      have H := H1
      clear H1
      obtain rfl := Option.some.inj H
      go_enter Try.func16, Try.ntmps16
      go_wp2_with (first | ((with_reducible refine gate_callee (f := 10) rfl ?_); refine goesL_ (some 16) rfl rfl Try.func10 (by kernel_rfl) rfl #[.int .i64 a0, .slice A1 l1.length c1, .slice A2 l2.length c2, .slice A3 l3.length c3, .int .i64 400] rfl (by (try simp only [List.map_toArray, List.map_cons, List.map_nil]); first | done | rfl | (simp only [List.length_drop, List.length_take]; rfl)) ?_; (with_reducible refine (impl_RunLink.calls k a0 _ _ l1 _ _ l2 _ _ l3 400 t472 t475 t476 true true _ ?side1 ?side2 ?side3 ?side4 ?side5 ?side6 A5.out).mono ?_); (case side1 => repeat (first | exact HR1.out | (with_reducible refine Kd.C_alloc ?_ _) | (with_reducible refine Kd.C_drewN ?_ _) | (with_reducible refine Kd.C_drew ?_))); (case side2 => exact HC1.out); (case side3 => repeat (first | exact HR2.out | (with_reducible refine Kd.C_alloc ?_ _) | (with_reducible refine Kd.C_drewN ?_ _) | (with_reducible refine Kd.C_drew ?_))); (case side4 => exact HC2.out); (case side5 => repeat (first | exact HR3.out | (with_reducible refine Kd.C_alloc ?_ _) | (with_reducible refine Kd.C_drewN ?_ _) | (with_reducible refine Kd.C_drew ?_))); (case side6 => exact HC3.out); rintro e w8 ⟨v473, rfl, ho0, hb⟩; refine ⟨_, rfl, ?_⟩; have n0_ := Aside0.mk (Kd.S_lower ho0 (below_size (by repeat (first | (with_reducible first | exact HB.out | apply below_alloc | apply pw_below_drewN | apply below_drew1) | exact HB.out)))); have n1_ := Aside0.mk (below_step (by repeat (first | (with_reducible first | exact HB.out | apply below_alloc | apply pw_below_drewN | apply below_drew1) | exact HB.out)) hb); clear HB; have HO474 := n0_; have HB := n1_; clear n0_ n1_; (try clear hb); (try clear hb2); (try clear hk); (try clear hi); (try clear ho0)) | ((with_reducible refine gate_dst (N := 9) rfl ?_); refine box_event ?hg (N := 9) ?hd (cs := #[.slice none 0 0, .int .i64 0, .int .i64 0, .bool false]) (t := 28) ?hr ?_; (case hd => rfl); (case hg => rfl); (case hr => first | (go_simp; done) | (go_simp; rfl)); intro gb479 hg w9 hbox hb; have n0_ := Aside0.mk (Kd.S_below (by (with_reducible repeat (first | apply Kd.S_alloc | apply Kd.S_drewN | apply Kd.S_drew)); exact HO474.out) hb); have n1_ := Aside0.mk (below_step (by repeat (first | (with_reducible first | exact HB.out | apply below_alloc | apply pw_below_drewN | apply below_drew1) | exact HB.out)) hb); have n2_ := Aside0.mk (hbox); have n3_ := Aside0.mk ((by rw [hg]; exact (below_size (by repeat (first | (with_reducible first | exact HB.out | apply below_alloc | apply pw_below_drewN | apply below_drew1) | exact HB.out))) : w.heap.size ≤ gb479)); have n4_ := Aside0.mk ((by rw [hg]; exact (below_size (by repeat (first | (with_reducible first | exact HB.out | apply below_alloc | apply pw_below_drewN | apply below_drew1) | exact HB.out))) : w.heap.size ≤ gb479)); clear HO474; clear HB; have HO474 := n0_; have HB := n1_; have BK479 := n2_; have GW479 := n3_; have GE479 := n4_; clear n0_ n1_ n2_ n3_ n4_; clear hb hbox hg; obtain ⟨Ao10, co10, eo10⟩ := Kd.S_slice HO474.out; subst eo10; have hcz11_0 : w9.cell? ⟨gb479, 0, none⟩ = some (.slice none 0 0) := (blk_cell BK479.out 0).trans rfl; have hcz11_1 : w9.cell? ⟨gb479, 1, none⟩ = some (.int .i64 0) := (blk_cell BK479.out 1).trans rfl; have hcz11_2 : w9.cell? ⟨gb479, 2, none⟩ = some (.int .i64 0) := (blk_cell BK479.out 2).trans rfl; have hcz11_3 : w9.cell? ⟨gb479, 3, none⟩ = some (.bool false) := (blk_cell BK479.out 3).trans rfl; have hfz11_0 := blk_frozen BK479.out 0; have hfz11_1 := blk_frozen BK479.out 1; have hfz11_2 := blk_frozen BK479.out 2; have hfz11_3 := blk_frozen BK479.out 3))
      go_ret
      exact ⟨by first | rfl | (simp [errW_none, errW_some] <;> rfl) | (simp [*, errW_none, errW_some] <;> rfl), by repeat (first | (with_reducible first | exact HB.out | apply below_alloc | apply pw_below_drewN | apply below_drew1 | refine below_set ?_ GE479.out) | exact HB.out)⟩
    · replace c7 := Bool.eq_false_iff.mpr c7
      subst c7
      have H1 : (some (-1)) = some r := by rw [if_neg (show ¬ (false = true) by decide)] at H; exact H
      clear H
      have H := H1
      clear H1
      obtain rfl := Option.some.inj H
      go_enter Try.func16, Try.ntmps16
      go_wp2_with (first | ((with_reducible refine gate_callee (f := 10) rfl ?_); refine goesL_ (some 16) rfl rfl Try.func10 (by kernel_rfl) rfl #[.int .i64 a0, .slice A1 l1.length c1, .slice A2 l2.length c2, .slice A3 l3.length c3, .int .i64 400] rfl (by (try simp only [List.map_toArray, List.map_cons, List.map_nil]); first | done | rfl | (simp only [List.length_drop, List.length_take]; rfl)) ?_; (with_reducible refine (impl_RunLink.calls k a0 _ _ l1 _ _ l2 _ _ l3 400 t472 t475 t476 false true _ ?side1 ?side2 ?side3 ?side4 ?side5 ?side6 A5.out).mono ?_); (case side1 => repeat (first | exact HR1.out | (with_reducible refine Kd.C_alloc ?_ _) | (with_reducible refine Kd.C_drewN ?_ _) | (with_reducible refine Kd.C_drew ?_))); (case side2 => exact HC1.out); (case side3 => repeat (first | exact HR2.out | (with_reducible refine Kd.C_alloc ?_ _) | (with_reducible refine Kd.C_drewN ?_ _) | (with_reducible refine Kd.C_drew ?_))); (case side4 => exact HC2.out); (case side5 => repeat (first | exact HR3.out | (with_reducible refine Kd.C_alloc ?_ _) | (with_reducible refine Kd.C_drewN ?_ _) | (with_reducible refine Kd.C_drew ?_))); (case side6 => exact HC3.out); rintro e w12 ⟨v473, rfl, ho0, hb⟩; refine ⟨_, rfl, ?_⟩; have n0_ := Aside0.mk (Kd.S_lower ho0 (below_size (by repeat (first | (with_reducible first | exact HB.out | apply below_alloc | apply pw_below_drewN | apply below_drew1) | exact HB.out)))); have n1_ := Aside0.mk (below_step (by repeat (first | (with_reducible first | exact HB.out | apply below_alloc | apply pw_below_drewN | apply below_drew1) | exact HB.out)) hb); clear HB; have HO474 := n0_; have HB := n1_; clear n0_ n1_; (try clear hb); (try clear hb2); (try clear hk); (try clear hi); (try clear ho0)) | ((with_reducible refine gate_dst (N := 9) rfl ?_); refine box_event ?hg (N := 9) ?hd (cs := #[.slice none 0 0, .int .i64 0, .int .i64 0, .bool false]) (t := 28) ?hr ?_; (case hd => rfl); (case hg => rfl); (case hr => first | (go_simp; done) | (go_simp; rfl)); intro gb479 hg w13 hbox hb; have n0_ := Aside0.mk (Kd.S_below (by (with_reducible repeat (first | apply Kd.S_alloc | apply Kd.S_drewN | apply Kd.S_drew)); exact HO474.out) hb); have n1_ := Aside0.mk (below_step (by repeat (first | (with_reducible first | exact HB.out | apply below_alloc | apply pw_below_drewN | apply below_drew1) | exact HB.out)) hb); have n2_ := Aside0.mk (hbox); have n3_ := Aside0.mk ((by rw [hg]; exact (below_size (by repeat (first | (with_reducible first | exact HB.out | apply below_alloc | apply pw_below_drewN | apply below_drew1) | exact HB.out))) : w.heap.size ≤ gb479)); have n4_ := Aside0.mk ((by rw [hg]; exact (below_size (by repeat (first | (with_reducible first | exact HB.out | apply below_alloc | apply pw_below_drewN | apply below_drew1) | exact HB.out))) : w.heap.size ≤ gb479)); clear HO474; clear HB; have HO474 := n0_; have HB := n1_; have BK479 := n2_; have GW479 := n3_; have GE479 := n4_; clear n0_ n1_ n2_ n3_ n4_; clear hb hbox hg; obtain ⟨Ao14, co14, eo14⟩ := Kd.S_slice HO474.out; subst eo14; have hcz15_0 : w13.cell? ⟨gb479, 0, none⟩ = some (.slice none 0 0) := (blk_cell BK479.out 0).trans rfl; have hcz15_1 : w13.cell? ⟨gb479, 1, none⟩ = some (.int .i64 0) := (blk_cell BK479.out 1).trans rfl; have hcz15_2 : w13.cell? ⟨gb479, 2, none⟩ = some (.int .i64 0) := (blk_cell BK479.out 2).trans rfl; have hcz15_3 : w13.cell? ⟨gb479, 3, none⟩ = some (.bool false) := (blk_cell BK479.out 3).trans rfl; have hfz15_0 := blk_frozen BK479.out 0; have hfz15_1 := blk_frozen BK479.out 1; have hfz15_2 := blk_frozen BK479.out 2; have hfz15_3 := blk_frozen BK479.out 3))
      go_ret
      exact ⟨by first | rfl | (simp [errW_none, errW_some] <;> rfl) | (simp [*, errW_none, errW_some] <;> rfl), by repeat (first | (with_reducible first | exact HB.out | apply below_alloc | apply pw_below_drewN | apply below_drew1 | refine below_set ?_ GE479.out) | exact HB.out)⟩
  · replace c6 := Bool.eq_false_iff.mpr c6
    subst c6
    have H1 : (some (-1)) = some r := by rw [if_neg (show ¬ (false = true) by decide)] at H; exact H
    clear H
    have H := H1
    clear H1
    obtain rfl := Option.some.inj H
    go_enter Try.func16, Try.ntmps16
    go_wp2_with (first | ((with_reducible refine gate_callee (f := 10) rfl ?_); refine goesL_ (some 16) rfl rfl Try.func10 (by kernel_rfl) rfl #[.int .i64 a0, .slice A1 l1.length c1, .slice A2 l2.length c2, .slice A3 l3.length c3, .int .i64 400] rfl (by (try simp only [List.map_toArray, List.map_cons, List.map_nil]); first | done | rfl | (simp only [List.length_drop, List.length_take]; rfl)) ?_; (with_reducible refine (impl_RunLink.calls k a0 _ _ l1 _ _ l2 _ _ l3 400 t472 t475 t476 t477 false _ ?side1 ?side2 ?side3 ?side4 ?side5 ?side6 A5.out).mono ?_); (case side1 => repeat (first | exact HR1.out | (with_reducible refine Kd.C_alloc ?_ _) | (with_reducible refine Kd.C_drewN ?_ _) | (with_reducible refine Kd.C_drew ?_))); (case side2 => exact HC1.out); (case side3 => repeat (first | exact HR2.out | (with_reducible refine Kd.C_alloc ?_ _) | (with_reducible refine Kd.C_drewN ?_ _) | (with_reducible refine Kd.C_drew ?_))); (case side4 => exact HC2.out); (case side5 => repeat (first | exact HR3.out | (with_reducible refine Kd.C_alloc ?_ _) | (with_reducible refine Kd.C_drewN ?_ _) | (with_reducible refine Kd.C_drew ?_))); (case side6 => exact HC3.out); rintro e w16 ⟨v473, rfl, ho0, hb⟩; refine ⟨_, rfl, ?_⟩; have n0_ := Aside0.mk (Kd.S_lower ho0 (below_size (by repeat (first | (with_reducible first | exact HB.out | apply below_alloc | apply pw_below_drewN | apply below_drew1) | exact HB.out)))); have n1_ := Aside0.mk (below_step (by repeat (first | (with_reducible first | exact HB.out | apply below_alloc | apply pw_below_drewN | apply below_drew1) | exact HB.out)) hb); clear HB; have HO474 := n0_; have HB := n1_; clear n0_ n1_; (try clear hb); (try clear hb2); (try clear hk); (try clear hi); (try clear ho0)) | ((with_reducible refine gate_dst (N := 9) rfl ?_); refine box_event ?hg (N := 9) ?hd (cs := #[.slice none 0 0, .int .i64 0, .int .i64 0, .bool false]) (t := 28) ?hr ?_; (case hd => rfl); (case hg => rfl); (case hr => first | (go_simp; done) | (go_simp; rfl)); intro gb479 hg w17 hbox hb; have n0_ := Aside0.mk (Kd.S_below (by (with_reducible repeat (first | apply Kd.S_alloc | apply Kd.S_drewN | apply Kd.S_drew)); exact HO474.out) hb); have n1_ := Aside0.mk (below_step (by repeat (first | (with_reducible first | exact HB.out | apply below_alloc | apply pw_below_drewN | apply below_drew1) | exact HB.out)) hb); have n2_ := Aside0.mk (hbox); have n3_ := Aside0.mk ((by rw [hg]; exact (below_size (by repeat (first | (with_reducible first | exact HB.out | apply below_alloc | apply pw_below_drewN | apply below_drew1) | exact HB.out))) : w.heap.size ≤ gb479)); have n4_ := Aside0.mk ((by rw [hg]; exact (below_size (by repeat (first | (with_reducible first | exact HB.out | apply below_alloc | apply pw_below_drewN | apply below_drew1) | exact HB.out))) : w.heap.size ≤ gb479)); clear HO474; clear HB; have HO474 := n0_; have HB := n1_; have BK479 := n2_; have GW479 := n3_; have GE479 := n4_; clear n0_ n1_ n2_ n3_ n4_; clear hb hbox hg; obtain ⟨Ao18, co18, eo18⟩ := Kd.S_slice HO474.out; subst eo18; have hcz19_0 : w17.cell? ⟨gb479, 0, none⟩ = some (.slice none 0 0) := (blk_cell BK479.out 0).trans rfl; have hcz19_1 : w17.cell? ⟨gb479, 1, none⟩ = some (.int .i64 0) := (blk_cell BK479.out 1).trans rfl; have hcz19_2 : w17.cell? ⟨gb479, 2, none⟩ = some (.int .i64 0) := (blk_cell BK479.out 2).trans rfl; have hcz19_3 : w17.cell? ⟨gb479, 3, none⟩ = some (.bool false) := (blk_cell BK479.out 3).trans rfl; have hfz19_0 := blk_frozen BK479.out 0; have hfz19_1 := blk_frozen BK479.out 1; have hfz19_2 := blk_frozen BK479.out 2; have hfz19_3 := blk_frozen BK479.out 3))
    go_ret
    exact ⟨by first | rfl | (simp [errW_none, errW_some] <;> rfl) | (simp [*, errW_none, errW_some] <;> rfl), by repeat (first | (with_reducible first | exact HB.out | apply below_alloc | apply pw_below_drewN | apply below_drew1 | refine below_set ?_ GE479.out) | exact HB.out)⟩

end Go.Proofs.Ytookabfmbimnoaa.Lk

namespace Go.Proofs.Ytookabfmbimnoaa.Lk
open Go.RowKit Go.Proofs.YtookabfmbimnoaaW.PrintWords Go.Proofs.YtookabfmbimnoaaW.PrintLast Go.Proofs.YtookabfmbimnoaaW.PrintMore
set_option linter.unusedVariables false
set_option linter.unusedSimpArgs false

def linkB0 (a0 : Int) (l1 : List (List Int)) (l2 l3 : List Int) : Bool := winOk a0 && (decide (l1.length ≤ 60) && (l1.all shortB && (fatesOk l2 && fatesOk l3)))
theorem linkB_split (a0 : Int) (l1 : List (List Int)) (l2 l3 : List Int) (a4 : Int) : linkB a0 l1 l2 l3 a4 = (linkB0 a0 l1 l2 l3 && rndOk a4) := by
  unfold linkB linkB0
  simp only [Bool.and_assoc]
def roundsV (a0 : Int) (l1 : List (List Int)) (l2 l3 : List Int) : Int := if linkB0 a0 l1 l2 l3 = true then (if l1.length ≤ (runR a0 l1 l2 l3 400).kn then ((runR a0 l1 l2 l3 400).rounds : Int) else -1) else -1
theorem implRounds (k : Nat) (a0 : Int) (l1 : List (List Int)) (l2 l3 : List Int) (hb : bytesOk l1 = true) : impl_LinkRounds.f k a0 l1 l2 l3 = some (roundsV a0 l1 l2 l3) := by
  unfold impl_LinkRounds.f impl_RunLink.f roundsV
  rw [if_pos hb, linkB_split, show rndOk 400 = true by decide, Bool.and_true]
  cases h : linkB0 a0 l1 l2 l3 with
  | true =>
    rw [if_pos rfl, if_pos rfl, Option.bind_some]
    simp only [if_true]
    by_cases hk : l1.length ≤ (runR a0 l1 l2 l3 400).kn
    · rw [decide_eq_true hk, if_pos rfl, if_pos hk]
    · rw [decide_eq_false hk, if_neg (by simp), if_neg hk]
  | false =>
    rw [if_neg (by simp), if_neg (by simp), Option.bind_some]
    rfl
end Go.Proofs.Ytookabfmbimnoaa.Lk

namespace Go.Proofs.Ytookabfmbimnoaa.Lk
open Go.RowKit Go.Proofs.YtookabfmbimnoaaW.PrintWords Go.Proofs.YtookabfmbimnoaaW.PrintLast Go.Proofs.YtookabfmbimnoaaW.PrintMore
set_option linter.unusedVariables false
set_option linter.unusedSimpArgs false

structure LClear (w : Nat) (list : List (List Int)) (st : LSt) : Prop where
  s1 : st.s1 = st.kn
  kn : st.kn ≤ list.length
  low : st.kn ≤ st.rounds * w
end Go.Proofs.Ytookabfmbimnoaa.Lk
