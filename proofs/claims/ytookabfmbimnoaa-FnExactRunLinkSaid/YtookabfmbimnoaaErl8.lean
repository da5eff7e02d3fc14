/- What the walks of this claim need: printed by a program of this session (wip/pack.py) out of the session's texts and of the words that the kit's print.sh lays; under no condition beyond those in each theorem. Lean checks it. -/
import Derived.Test.YtookabfmbimnoaaErl7
namespace Go.Proofs.Ytookabfmbimnoaa.Lk
open Go.RowKit Go.Proofs.YtookabfmbimnoaaW.PrintWords Go.Proofs.YtookabfmbimnoaaW.PrintLast Go.Proofs.YtookabfmbimnoaaW.PrintMore
set_option linter.unusedVariables false
set_option linter.unusedSimpArgs false

set_option maxHeartbeats 8000000 in
set_option maxRecDepth 100000 in
theorem RunLink_no (a0 : Int) (A1 : Option Addr) (c1 : Nat) (l1 : List (List Int)) (A2 : Option Addr) (c2 : Nat) (l2 : List Int) (A3 : Option Addr) (c3 : Nat) (l3 : List Int) (a4 : Int) (w : World)
    (hr1 : Kd.C (Kd.slice 5 (Kd.int .u8)) w A1 l1.length l1) (hc1 : l1.length ≤ c1) (hr2 : Kd.C (Kd.int .i64) w A2 l2.length l2) (hc2 : l2.length ≤ c2) (hr3 : Kd.C (Kd.int .i64) w A3 l3.length l3) (hc3 : l3.length ≤ c3) (h : impl_linkOk.f a0 l1 l2 l3 a4 = some false) :
    Calls Try.prog 10 #[.int .i64 a0, .slice A1 l1.length c1, .slice A2 l2.length c2, .slice A3 l3.length c3, .int .i64 a4] w fun e w' => e = .returned (.tuple #[.agg #[.slice none 0 0, .int .i64 0, .int .i64 0, .bool false], .bool false]) ∧ Below w.heap.size w w' := by
  have HC := Aside0.mk (fun (W : World) (hb : Below w.heap.size w W) => impl_linkOk.calls a0 A1 c1 l1 A2 c2 l2 A3 c3 l3 a4 false W (Kd.C_below hr1 hb) hc1 (Kd.C_below hr2 hb) hc2 (Kd.C_below hr3 hb) hc3 h)
  clear hr1 hc1 hr2 hc2 hr3 hc3 h
  go_enter Try.func10, Try.ntmps10
  go_wp2_with fail
  have hb1 : Below w.heap.size w (w.alloc (.cells #[.slice none 0 0, .int .i64 0, .int .i64 0, .bool false] 28)) := below_alloc (Below.refl _ _) _
  have hx : (w.alloc (.cells #[.slice none 0 0, .int .i64 0, .int .i64 0, .bool false] 28)).heap[w.heap.size]? = some (.cells #[.slice none 0 0, .int .i64 0, .int .i64 0, .bool false] 28 (0, 0)) := blk_new _ _
  generalize w.alloc (.cells #[.slice none 0 0, .int .i64 0, .int .i64 0, .bool false] 28) = W at hb1 hx ⊢
  refine (HC.out W hb1).mono ?_
  rintro e w' ⟨rfl, hb⟩
  replace hx := blk_below hx hb
  replace hb := Aside0.mk (below_step hb1 hb)
  clear hb1 HC
  generalize hg : w.heap.size = g at hx hb ⊢
  have x0 : w'.cell? ⟨g, 0, none⟩ = some (.slice none 0 0) := by simp [World.cell?, hx]
  have x1 : w'.cell? ⟨g, 1, none⟩ = some (.int .i64 0) := by simp [World.cell?, hx]
  have x2 : w'.cell? ⟨g, 2, none⟩ = some (.int .i64 0) := by simp [World.cell?, hx]
  have x3 : w'.cell? ⟨g, 3, none⟩ = some (.bool false) := by simp [World.cell?, hx]
  have y0 : w'.frozen? ⟨g, 0, none⟩ = false := by simp [World.frozen?, hx]
  have y1 : w'.frozen? ⟨g, 1, none⟩ = false := by simp [World.frozen?, hx]
  have y2 : w'.frozen? ⟨g, 2, none⟩ = false := by simp [World.frozen?, hx]
  have y3 : w'.frozen? ⟨g, 3, none⟩ = false := by simp [World.frozen?, hx]
  go_wp2_with fail
  refine bodyPost_ret (results_ct (p := 10) (u := 11) (ty := 28) rfl _ _ g 28 #[.slice none 0 0, .int .i64 0, .int .i64 0, .bool false] (0, 0) _ rfl (heap_set (heap_set (heap_set (heap_set hx)))) Try.underlying28 rfl (by kernel_rfl)) rfl ?_
  refine ⟨rfl, ?_⟩
  subst hg
  exact below_set (below_set (below_set (below_set hb.out (Nat.le_refl _)) (Nat.le_refl _)) (Nat.le_refl _)) (Nat.le_refl _)
theorem loopL_stop {w : Nat} {list : List (List Int)} {there back : List Int} (k : Nat) {st : LSt} (h : ¬ st.kn < list.length) : loopL w list there back k st = st := by
  cases k with
  | zero => rfl
  | succ k => rw [loopL, if_neg h]
theorem loopL_go {w : Nat} {list : List (List Int)} {there back : List Int} (k : Nat) {st : LSt} (h : st.kn < list.length) : loopL w list there back (k + 1) st = loopL w list there back k (stepL w list there back st) := by rw [loopL, if_pos h]
/-- What stays true of the state. -/
structure StOk (st : LSt) : Prop where
  kn : st.kn ≤ 80
  s1 : st.s1 ≤ 8 * st.rounds
  s2 : st.s2 ≤ st.rounds
  got : st.got.length ≤ 16 * st.rounds
theorem stepL_ok {w : Nat} {list : List (List Int)} {there back : List Int} {st : LSt} (hw : w ≤ 8) (hl : list.length ≤ 60) (hk : st.kn < list.length) (h : StOk st) : StOk (stepL w list there back st) := by
  have h1 := acks_le w (((arrivals (there.drop st.s1) (sentN w list.length st.kn)).foldl (recv1 list st.kn (there.drop st.s1)) st.got).length % 16) (back.drop st.s2) (arrivals (back.drop st.s2) 1) st.kn
  have h2 := recvs_le list st.kn (there.drop st.s1) (arrivals (there.drop st.s1) (sentN w list.length st.kn)) st.got
  have h3 := arrivals_length (back.drop st.s2) 1
  have h4 := arrivals_length (there.drop st.s1) (sentN w list.length st.kn)
  have h5 : sentN w list.length st.kn ≤ w := by unfold sentN; omega
  have h6 : (arrivals (back.drop st.s2) 1).length * w ≤ 2 * 8 := Nat.mul_le_mul h3 hw
  have := h.kn; have := h.s1; have := h.s2; have := h.got
  constructor
  · show _ ≤ 80
    simp only [stepL]
    omega
  · simp only [stepL]; omega
  · simp only [stepL]; omega
  · simp only [stepL]; omega
set_option maxHeartbeats 8000000 in
set_option maxRecDepth 100000 in
theorem RunLink_yes (win : Nat) (A1 : Option Addr) (c1 : Nat) (l1 : List (List Int)) (A2 : Option Addr) (c2 : Nat) (l2 : List Int) (A3 : Option Addr) (c3 : Nat) (l3 : List Int) (m : Nat) (w : World)
    (hr1 : Kd.C (Kd.slice 5 (Kd.int .u8)) w A1 l1.length l1) (hc1 : l1.length ≤ c1) (hr2 : Kd.C (Kd.int .i64) w A2 l2.length l2) (hc2 : l2.length ≤ c2) (hr3 : Kd.C (Kd.int .i64) w A3 l3.length l3) (hc3 : l3.length ≤ c3) (h : impl_linkOk.f (win : Int) l1 l2 l3 (m : Int) = some true) (hbo : bytesOk l1 = true) :
    Calls Try.prog 10 #[.int .i64 (win : Int), .slice A1 l1.length c1, .slice A2 l2.length c2, .slice A3 l3.length c3, .int .i64 (m : Int)] w fun e w' => ∃ v0_ : Value, e = .returned (.tuple #[.agg #[v0_, .int .i64 ((runL win l1 l2 l3 m).rounds : Int), .int .i64 (((runL win l1 l2 l3 m).s1 + (runL win l1 l2 l3 m).s2 : Nat) : Int), .bool (decide (l1.length ≤ (runL win l1 l2 l3 m).kn))], .bool true]) ∧ Kd.S (Kd.slice 5 (Kd.int .u8)) 22 w' w.heap.size (fun _ => True) v0_ (runL win l1 l2 l3 m).got ∧ Below w.heap.size w w' := by
  have HC := Aside0.mk (fun (W : World) (hb : Below w.heap.size w W) => impl_linkOk.calls (win : Int) A1 c1 l1 A2 c2 l2 A3 c3 l3 (m : Int) true W (Kd.C_below hr1 hb) hc1 (Kd.C_below hr2 hb) hc2 (Kd.C_below hr3 hb) hc3 h)
  have h0 := Option.some.inj h
  simp only [Bool.and_eq_true, winOk, rndOk, decide_eq_true_eq] at h0
  obtain ⟨⟨hw1, hw2⟩, hl1, hsh, hf2, hf3, hm1, hm2⟩ := h0
  have HW1 := Aside0.mk (show 1 ≤ win by omega)
  have HW2 := Aside0.mk (show win ≤ 8 by omega)
  have HL := Aside0.mk hl1
  have HSH := Aside0.mk hsh
  have HF2 := Aside0.mk hf2
  have HF3 := Aside0.mk hf3
  have HM := Aside0.mk (show m ≤ 400 by omega)
  have HBO := Aside0.mk hbo
  have HR1 := Aside0.mk hr1
  have HR2 := Aside0.mk hr2
  have HR3 := Aside0.mk hr3
  have HC1 := Aside0.mk hc1
  have HC2 := Aside0.mk hc2
  have HC3 := Aside0.mk hc3
  clear hr1 hc1 hr2 hc2 hr3 hc3 h hw1 hw2 hl1 hsh hf2 hf3 hm1 hm2 hbo
  have HRUN := Aside0.mk (show runL win l1 l2 l3 m = loopL win l1 l2 l3 m ⟨[], 0, 0, 0, 0⟩ from rfl)
  generalize runL win l1 l2 l3 m = res at HRUN ⊢
  go_enter Try.func10, Try.ntmps10
  go_wp2_with fail
  have hb1 : Below w.heap.size w (w.alloc (.cells #[.slice none 0 0, .int .i64 0, .int .i64 0, .bool false] 28)) := below_alloc (Below.refl _ _) _
  have hx : (w.alloc (.cells #[.slice none 0 0, .int .i64 0, .int .i64 0, .bool false] 28)).heap[w.heap.size]? = some (.cells #[.slice none 0 0, .int .i64 0, .int .i64 0, .bool false] 28 (0, 0)) := blk_new _ _
  generalize w.alloc (.cells #[.slice none 0 0, .int .i64 0, .int .i64 0, .bool false] 28) = W at hb1 hx ⊢
  refine (HC.out W hb1).mono ?_
  rintro e w' ⟨rfl, hb⟩
  replace hx := blk_below hx hb
  replace hb := Aside0.mk (below_step hb1 hb)
  clear hb1 HC
  go_wp2_with fail
  generalize hg : w.heap.size = g at hx
  have hg1 := heap_lt hx
  have HX0 : ∃ (W2 : World) (G : Nat), G = w'.heap.size ∧ W2 = (((w'.alloc (Obj.cells #[Value.slice none 0 0, Value.int IntKind.i64 0, Value.int IntKind.i64 0, Value.bool false] 28)).alloc (Obj.cells #[Value.slice A2 l2.length c2, Value.int IntKind.i64 0] 52)).alloc (Obj.cells #[Value.slice A3 l3.length c3, Value.int IntKind.i64 0] 52)) ∧ Below w.heap.size w W2 ∧ g < G ∧ w.heap.size ≤ G ∧ BoxL W2 g G (.slice none 0 0) 0 0 0 (.slice A2 l2.length c2) (.slice A3 l3.length c3) := by
    refine ⟨_, _, rfl, rfl, below_alloc (below_alloc (below_alloc hb.out _) _) _, hg1, hb.out.size, blk_alloc (blk_alloc (blk_alloc hx _) _) _, blk_alloc (blk_alloc (blk_new _ _) _) _, ?_, ?_⟩
    · refine blk_alloc ?_ _
      have := blk_new (w'.alloc (Obj.cells #[Value.slice none 0 0, Value.int IntKind.i64 0, Value.int IntKind.i64 0, Value.bool false] 28)) (Obj.cells #[Value.slice A2 l2.length c2, Value.int IntKind.i64 0] 52)
      simpa using this
    · have := blk_new ((w'.alloc (Obj.cells #[Value.slice none 0 0, Value.int IntKind.i64 0, Value.int IntKind.i64 0, Value.bool false] 28)).alloc (Obj.cells #[Value.slice A2 l2.length c2, Value.int IntKind.i64 0] 52)) (Obj.cells #[Value.slice A3 l3.length c3, Value.int IntKind.i64 0] 52)
      simpa using this
  obtain ⟨W2, G, hG, hW2, hB2, hgG, hwG, hbox⟩ := HX0
  rw [← hG]
  rw [← hW2]
  clear hW2 hb hx hg1
  have HGG := Aside0.mk hgG
  have HWG := Aside0.mk hwG
  have HG0 := Aside0.mk hg
  have HB := Aside0.mk hB2
  have HBOX := Aside0.mk hbox
  clear hgG hwG hB2 hbox hG hg w' W
  go_loopg [15] m (fun kq v15 w' => ∃ (st : LSt) (vg : Value), v15 = .int .i64 (st.kn : Int) ∧ Aside0 (st.rounds + kq = m) ∧ Aside0 (loopL win l1 l2 l3 kq st = res) ∧ Aside0 (StOk st) ∧ Aside0 (BoxL w' g G vg st.rounds st.s1 st.s2 (.slice A2 l2.length c2) (.slice A3 l3.length c3)) ∧ Aside0 (Kd.S (Kd.slice 5 (Kd.int .u8)) 22 w' w.heap.size (fun _ => True) vg st.got) ∧ Aside0 (Below w.heap.size w w'))
  case atStart => exact ⟨⟨[], 0, 0, 0, 0⟩, .slice none 0 0, rfl, ⟨by simp⟩, ⟨HRUN.out.symm⟩, ⟨⟨by simp, by simp, by simp, by simp⟩⟩, HBOX, ⟨Kd.S_nil _ _ _ _ _⟩, HB⟩
  case round =>
    clear HB HBOX HRUN
    obtain ⟨st, vg, rfl, HK, HR, HOK, HBOX, HS, HB⟩ := hrel
    by_cases hlt : st.kn < l1.length
    · have e1 : decide ((st.kn : Int) < l1.length) = true := decide_eq_true (by omega)
      have e1n : decide (st.kn < l1.length) = true := decide_eq_true (by omega)
      cases gk with
      | zero =>
        have hr : loopL win l1 l2 l3 0 st = st := rfl
        have e2 : decide ((st.rounds : Int) < m) = false := decide_eq_false (by have := HK.out; omega)
        have e2n : decide (st.rounds < m) = false := decide_eq_false (by have := HK.out; omega)
        have e3 : decide ((st.kn : Int) ≥ l1.length) = false := decide_eq_false (by omega)
        have e4 : decide ((l1.length : Int) ≤ st.kn) = false := decide_eq_false (by omega)
        have e5 := Aside0.mk (show decide (l1.length ≤ st.kn) = false from decide_eq_false (by omega))
        obtain rfl : st = res := hr.symm.trans HR.out
        obtain ⟨Ag, cg, rfl⟩ := Kd.S_slice HS.out
        obtain ⟨⟨x0, x1, x2, x3⟩, y0, y1, y2, y3⟩ := HBOX.out.cellsG
        obtain ⟨⟨z0, z1, z2, z3⟩, q0, q1, q2, q3⟩ := HBOX.out.cells0
        obtain ⟨u1, u2⟩ := HBOX.out.cellsS
        have hw1 : wrap64 ((st.s1 : Int) + st.s2) = ((st.s1 + st.s2 : Nat) : Int) := by rw [w64 _ (by have := HOK.out.s1; have := HOK.out.s2; have := HK.out; have := HM.out; omega)]; simp
        have hne : g ≠ G := by have := HGG.out; omega
        have hne2 : G ≠ g := by have := HGG.out; omega
        go_wp2_with fail
        refine bodyPost_ret (v := .tuple #[.agg #[.slice Ag st.got.length cg, .int .i64 st.rounds, .int .i64 ((st.s1 : Int) + st.s2), .bool (decide (l1.length ≤ st.kn))], .bool true]) ?hres rfl ?_
        case hres => exact (results_ct (p := 10) (u := 11) (ty := 28) rfl _ _ g 28 #[.slice Ag st.got.length cg, .int .i64 st.rounds, .int .i64 ((st.s1 : Int) + st.s2), .bool (decide (l1.length ≤ st.kn))] (0, 0) _ rfl (heap_set (heap_set (heap_set (heap_set (BoxL.other (BoxL.other HBOX.out.b0 G hne2 _ _) G hne2 _ _))))) Try.underlying28 rfl (by kernel_rfl))
        refine ⟨.slice Ag st.got.length cg, by rw [show ((st.s1 + st.s2 : Nat) : Int) = (st.s1 : Int) + st.s2 by simp], ?_, ?_⟩
        · have hS1 := Kd.S_set HS.out HBOX.out.b1 (by decide) 2 (.int .i64 ((st.s1 : Int) + st.s2))
          have hS2 := Kd.S_set hS1 (heap_set HBOX.out.b1) (by decide) 3 (.bool (decide (l1.length ≤ st.kn)))
          have h0 := BoxL.other (BoxL.other HBOX.out.b0 G hne2 2 (.int .i64 ((st.s1 : Int) + st.s2))) G hne2 3 (.bool (decide (l1.length ≤ st.kn)))
          exact Kd.S_set (Kd.S_set (Kd.S_set (Kd.S_set hS2 h0 (by decide) _ _) (heap_set h0) (by decide) _ _) (heap_set (heap_set h0)) (by decide) _ _) (heap_set (heap_set (heap_set h0))) (by decide) _ _
        · have hg0 := HG0.out
          exact below_set (below_set (below_set (below_set (below_set (below_set HB.out HWG.out) HWG.out) (by omega)) (by omega)) (by omega)) (by omega)
      | succ k1 =>
        have e2 : decide ((st.rounds : Int) < m) = true := decide_eq_true (by have := HK.out; omega)
        have e2n : decide (st.rounds < m) = true := decide_eq_true (by have := HK.out; omega)
        obtain ⟨x0, x1, y0, y1⟩ := HBOX.out.cells
        have hw1 : wrap64 ((st.rounds : Int) + 1) = ((st.rounds + 1 : Nat) : Int) := by rw [w64 _ (by have := HK.out; have := HM.out; omega)]; simp
        go_wp2_with fail
        obtain ⟨wA, hwA⟩ : ∃ W : World, W = wr.setCell ⟨G, 1, none⟩ (.int .i64 ((st.rounds : Int) + 1)) := ⟨_, rfl⟩
        rw [← hwA]
        have HBOXA := Aside0.mk (show BoxL wA g G vg (st.rounds + 1) st.s1 st.s2 (.slice A2 l2.length c2) (.slice A3 l3.length c3) by
          have := HBOX.out.setR HGG.out (st.rounds + 1)
          rw [hwA]
          simpa using this)
        have HSA := Aside0.mk (show Kd.S (Kd.slice 5 (Kd.int .u8)) 22 wA w.heap.size (fun _ => True) vg st.got by
          rw [hwA]
          exact Kd.S_set HS.out HBOX.out.b1 (by decide) _ _)
        have HBA := Aside0.mk (show Below w.heap.size w wA by
          rw [hwA]
          exact below_set HB.out HWG.out)
        clear hwA HBOX HS HB x0 x1 y0 y1 hw1
        have HLT := Aside0.mk hlt
        have HN := Aside0.mk (show sentN win l1.length st.kn = min l1.length (st.kn + win) - st.kn from rfl)
        have HNL := Aside0.mk (show sentN win l1.length st.kn ≤ 8 by unfold sentN; have := HW2.out; omega)
        generalize hn : sentN win l1.length st.kn = n at HN HNL
        have HNE := Aside0.mk hn
        clear hn hlt
        have HB := Aside0.mk (Below.refl wA.heap.size wA)
        go_loopg [16, 17] n (fun kq v16 v17 w' => ∃ i : Nat, v17 = .int .i64 ((st.kn + i : Nat) : Int) ∧ Aside0 (i + kq = n) ∧ Aside0 (Kd.R (Kd.slice 5 (Kd.int .u8)) 22 w' wA.heap.size (fun _ => True) v16 (impl_packs l1 st.kn i)) ∧ Aside0 (Below wA.heap.size wA w'))
        case atStart => exact ⟨0, rfl, ⟨by simp⟩, ⟨Kd.R_nil _ _ _ _ _⟩, HB⟩
        case round =>
          clear HB
          obtain ⟨i, rfl, HI, HO, HB⟩ := hrel
          cases gk with
          | zero =>
            have hi : i = n := by have := HI.out; omega
            subst hi
            have t0 : ¬ ((st.kn : Int) + i < min (l1.length : Int) (wrap64 ((st.kn : Int) + win))) := by rw [w64 _ (by have := HOK.out.kn; have := HW2.out; omega)]; have := HN.out; have := HLT.out; omega
            have t1 := eq_false t0
            have t2 : ((st.kn + i : Nat) : Int) < min (l1.length : Int) (wrap64 ((st.kn : Int) + win)) ↔ False := by rw [Int.natCast_add]; exact iff_false_intro t0
            have t3 : decide (((st.kn + i : Nat) : Int) < min (l1.length : Int) (wrap64 ((st.kn : Int) + win))) = false := decide_eq_false (fun h => t2.1 h)
            have t4 : decide ((st.kn : Int) + i < min (l1.length : Int) (wrap64 ((st.kn : Int) + win))) = false := decide_eq_false t0
            clear t2
            obtain ⟨A16, c16, e16⟩ := Kd.R_slice HO.out
            subst e16
            obtain ⟨hq1, hq2, hq3⟩ := Kd.R_reads' HO.out
            have HBW := Aside0.mk (below_step HBA.out HB.out)
            have HBOXW := Aside0.mk (HBOXA.out.below HB.out)
            have HSW := Aside0.mk (Kd.S_below HSA.out HB.out)
            have HSHORT := Aside0.mk (impl_packs_short HSH.out st.kn i)
            have HPL := Aside0.mk (impl_packs_length l1 st.kn i)
            have HUN := Aside0.mk (fun (x : Int) (h0 : 0 ≤ x) (h1 : x < i) => impl_unOf HSH.out HBO.out st.kn i (l2.drop st.s1) x h0 h1)
            generalize impl_packs l1 st.kn i = pks at hq1 hq2 hq3 HSHORT HPL HUN HO ⊢
            clear HSA HBOXA HBA HO HB
            go_wp2_with fail
            refine (pass_ok (G + 1) A2 c2 l2 st.s1 A16 c16 pks _ (Kd.C_below HR2.out HBW.out) HC2.out hq3 hq2 HBOXW.out.b2 HF2.out (by have := HPL.out; have := HNL.out; omega) (by have := HOK.out.s1; have := HK.out; have := HM.out; omega) HSHORT.out).mono ?_
            rintro e w' ⟨v3, w3, rfl, ho, hb, rfl⟩
            obtain ⟨wB, hwB⟩ : ∃ W : World, W = w3.setCell ⟨G + 1, 1, none⟩ (.int .i64 ((st.s1 + pks.length : Nat) : Int)) := ⟨_, rfl⟩
            rw [← hwB]
            have HBOX := Aside0.mk (show BoxL wB g G vg (st.rounds + 1) (st.s1 + i) st.s2 (.slice A2 l2.length c2) (.slice A3 l3.length c3) by
              rw [hwB, HPL.out]
              exact (HBOXW.out.below hb).setS1 HGG.out _)
            have HS := Aside0.mk (show Kd.S (Kd.slice 5 (Kd.int .u8)) 22 wB w.heap.size (fun _ => True) vg st.got by
              rw [hwB]
              exact Kd.S_set (Kd.S_below HSW.out hb) (HBOXW.out.below hb).b2 (by decide) _ _)
            have HB := Aside0.mk (show Below w.heap.size w wB by
              rw [hwB]
              exact below_set (below_step HBW.out hb) (by have := HWG.out; omega))
            have HV := Aside0.mk (show Kd.R (Kd.slice 5 (Kd.int .u8)) 22 wB w.heap.size (fun k => True ∧ some k ≠ vg.ownBlock) v3 (passWire (l2.drop st.s1) pks) by
              rw [hwB]
              exact Kd.R_set (Kd.R_lower (Kd.R_new' ho (Kd.S_lt HSW.out)) (below_size HBW.out)) (HBOXW.out.below hb).b2 (by decide) _ _)
            have HAR := Aside0.mk (show passWire (l2.drop st.s1) pks = (arrivals (l2.drop st.s1) i).map (passOf (l2.drop st.s1) pks) by unfold passWire; rw [HPL.out])
            have HAM := Aside0.mk (arrivals_mem (l2.drop st.s1) i)
            have HAL := Aside0.mk (arrivals_length (l2.drop st.s1) i)
            obtain ⟨got2, hgot2⟩ : ∃ x, x = (arrivals (l2.drop st.s1) i).foldl (recv1 l1 st.kn (l2.drop st.s1)) st.got := ⟨_, rfl⟩
            have HGOT2 := Aside0.mk hgot2
            have HGT := Aside0.mk hgot2
            have HLEN := Aside0.mk (show (passWire (l2.drop st.s1) pks).length = (arrivals (l2.drop st.s1) i).length by rw [HAR.out, List.length_map])
            generalize passWire (l2.drop st.s1) pks = arr at HV HAR HLEN
            generalize arrivals (l2.drop st.s1) i = ar at HAR HAM HAL HGOT2 HLEN hgot2
            generalize l2.drop st.s1 = fs at HUN HAR HGOT2 hgot2
            clear hwB HBOXW HSW HBW hb ho hgot2 hq1 hq2 hq3 t0 t1 t3 t4
            obtain ⟨A87, c87, e87⟩ := Kd.R_slice HV.out
            subst e87
            go_wp2_with fail
            go_loopg [89] ar.length (fun kq v89 w' => ∃ (j : Nat) (vg' : Value) (got' : List (List Int)), v89 = .int .i64 (j : Int) ∧ Aside0 (j + kq = ar.length) ∧ Aside0 ((ar.drop j).foldl (recv1 l1 st.kn fs) got' = got2) ∧ Aside0 (got'.length ≤ st.got.length + j) ∧ Aside0 (BoxL w' g G vg' (st.rounds + 1) (st.s1 + i) st.s2 (.slice A2 l2.length c2) (.slice A3 l3.length c3)) ∧ Aside0 (Kd.S (Kd.slice 5 (Kd.int .u8)) 22 w' w.heap.size (fun _ => True) vg' got') ∧ Aside0 (Kd.R (Kd.slice 5 (Kd.int .u8)) 22 w' w.heap.size (fun k => True ∧ some k ≠ vg'.ownBlock) (.slice A87 arr.length c87) arr) ∧ Aside0 (Below w.heap.size w w'))
            case atStart => exact ⟨0, vg, st.got, rfl, ⟨by simp⟩, ⟨HGOT2.out.symm⟩, ⟨Nat.le_refl _⟩, HBOX, HS, HV, HB⟩
            case round =>
              clear HBOX HS HV HB
              obtain ⟨j, vg', got', rfl, HJ, HG2, HGL, HBOX, HS, HV, HB⟩ := hrel
              cases gk with
              | zero =>
                obtain rfl : ar.length = j := by have := HJ.out; omega
                have c1 : decide ((ar.length : Int) < arr.length) = false := decide_eq_false (by have := HLEN.out; omega)
                have c1n : decide (ar.length < arr.length) = false := decide_eq_false (by have := HLEN.out; omega)
                obtain ⟨Ag, cg, eg⟩ := Kd.S_slice HS.out
                subst eg
                obtain ⟨x0, x1, y0, y1⟩ := HBOX.out.cells
                rw [List.drop_length] at HG2
                obtain rfl : got' = got2 := HG2.out
                have hrem : Int.tmod (got'.length : Int) 16 = ((got'.length % 16 : Nat) : Int) := by rw [Int.tmod_eq_emod_of_nonneg (by omega)]; simp
                clear HG2 HV HUN HAR HLEN
                go_wp2_with fail
                have HQ := Aside0.mk (show got'.length % 16 < 16 from Nat.mod_lt _ (by omega))
                have HPB := Aside0.mk (show impl_PackLink.f 700 2 ((got'.length : Int) % 16) [] = some (impl_packv 2 ((got'.length % 16 : Nat) : Int) [], true) by
                  have := impl_pack 2 ((got'.length % 16 : Nat) : Int) [] (.inr ⟨rfl, rfl⟩) (by omega) (by have := HQ.out; omega) (by simp) (fun x hx => by simp at hx)
                  simpa using this)
                have HUB := Aside0.mk (fun (x : Int) (h0 : 0 ≤ x) (h1 : x < 1) => impl_unBack (got'.length % 16) HQ.out (l3.drop st.s2) x h0 h1)
                have HPBL := Aside0.mk (show (impl_packv 2 ((got'.length % 16 : Nat) : Int) []).length = 3 by rw [impl_packv_length]; rfl)
                generalize impl_packv 2 ((got'.length % 16 : Nat) : Int) [] = pb at HPB HUB HPBL
                refine (impl_PackLink.calls 700 2 _ none 0 [] pb true _ ?s0 ?s1 HPB.out).mono ?_
                case s0 => exact (Kd.R_reads' (Kd.R_nil (Kd.int .u8) 5 _ 0 (fun _ => True))).2.2
                case s1 => exact Nat.le_refl _
                rintro e w' ⟨ve, rfl, he, hb⟩
                have n0_ := Aside0.mk (Kd.S_below HS.out hb)
                have n1_ := Aside0.mk (HBOX.out.below hb)
                have n2_ := Aside0.mk (below_step HB.out hb)
                clear HS HBOX HB hb x0 x1 y0 y1
                have HS := n0_
                have HBOX := n1_
                have HB := n2_
                clear n0_ n1_ n2_
                obtain ⟨Ab, cb, eb⟩ := Kd.R_slice he
                subst eb
                go_wp2_with fail
                have hcb : Kd.C (Kd.slice 5 (Kd.int .u8)) (w'.alloc (.cells #[.slice Ab pb.length cb] 22)) (some ⟨w'.heap.size, 0, none⟩) [pb].length [pb] := by
                  refine ⟨rfl, by simp, fun _ => ⟨_, rfl, fun j p hj => ?_⟩⟩
                  cases j with
                  | zero =>
                    simp only [List.getElem?_cons_zero, Option.some.injEq] at hj
                    subst hj
                    refine ⟨[.slice Ab pb.length cb], rfl, (Kd.slice 5 (Kd.int .u8)).K_below (below_alloc (Below.refl _ _) _) ((Kd.slice 5 (Kd.int .u8)).K_of_M (Kd.M_row he)), fun i u hu => ?_⟩
                    cases i with
                    | zero =>
                      simp only [List.getElem?_cons_zero, Option.some.injEq] at hu
                      subst hu
                      simp [Addr.add]
                    | succ i => simp at hu
                  | succ j => simp at hj
                have ha1 : Below w'.heap.size w' (w'.alloc (.cells #[.slice Ab pb.length cb] 22)) := below_alloc (Below.refl _ _) _
                refine (pass_ok (G + 1 + 1) A3 c3 l3 st.s2 (some ⟨w'.heap.size, 0, none⟩) 1 [pb] _ (Kd.C_below HR3.out (below_alloc HB.out _)) HC3.out hcb (Nat.le_refl _) (HBOX.out.below ha1).b3 HF3.out (by simp) (by have := HOK.out.s2; have := HK.out; have := HM.out; omega) (by intro b hb; rw [List.mem_singleton] at hb; subst hb; have := HPBL.out; omega)).mono ?_
                rintro e w2 ⟨v3, w3, rfl, ho, hb, rfl⟩
                replace hb := ha1.trans (hb.mono ha1.size)
                obtain ⟨wC, hwC⟩ : ∃ W : World, W = w3.setCell ⟨G + 1 + 1, 1, none⟩ (.int .i64 ((st.s2 + [pb].length : Nat) : Int)) := ⟨_, rfl⟩
                rw [← hwC]
                have n1_ := Aside0.mk (show BoxL wC g G (.slice Ag got'.length cg) (st.rounds + 1) (st.s1 + i) (st.s2 + 1) (.slice A2 l2.length c2) (.slice A3 l3.length c3) by
                  rw [hwC]
                  exact (HBOX.out.below hb).setS2 HGG.out _)
                have n2_ := Aside0.mk (show Kd.S (Kd.slice 5 (Kd.int .u8)) 22 wC w.heap.size (fun _ => True) (.slice Ag got'.length cg) got' by
                  rw [hwC]
                  exact Kd.S_set (Kd.S_below HS.out hb) (HBOX.out.below hb).b3 (by decide) _ _)
                have n3_ := Aside0.mk (show Below w.heap.size w wC by
                  rw [hwC]
                  exact below_set (below_step HB.out hb) (by have := HWG.out; omega))
                have n4_ := Aside0.mk (show Kd.R (Kd.slice 5 (Kd.int .u8)) 22 wC w.heap.size (fun _ => True) v3 (passWire (l3.drop st.s2) [pb]) by
                  rw [hwC]
                  exact Kd.R_set (Kd.R_lower ho (Nat.le_trans (below_size HB.out) ha1.size)) (HBOX.out.below hb).b3 (by decide) _ _)
                clear HBOX HS HB hwC hb ho hcb ha1 he
                have HBOX := n1_
                have HS := n2_
                have HBC := n3_
                have HV := n4_
                clear n1_ n2_ n3_ n4_
                have HAR := Aside0.mk (show passWire (l3.drop st.s2) [pb] = (arrivals (l3.drop st.s2) 1).map (passOf (l3.drop st.s2) [pb]) from rfl)
                have HBM := Aside0.mk (arrivals_mem (l3.drop st.s2) 1)
                have HBL := Aside0.mk (arrivals_length (l3.drop st.s2) 1)
                obtain ⟨kn2, hkn2⟩ : ∃ x, x = (arrivals (l3.drop st.s2) 1).foldl (ack1 win (got'.length % 16) (l3.drop st.s2)) st.kn := ⟨_, rfl⟩
                have HKN2 := Aside0.mk hkn2
                have HLEN := Aside0.mk (show (passWire (l3.drop st.s2) [pb]).length = (arrivals (l3.drop st.s2) 1).length by rw [HAR.out, List.length_map])
                have HSTEP := Aside0.mk (show stepL win l1 l2 l3 st = ⟨got', kn2, st.s1 + i, st.s2 + 1, st.rounds + 1⟩ by rw [show stepL win l1 l2 l3 st = (let got := (arrivals (l2.drop st.s1) (sentN win l1.length st.kn)).foldl (recv1 l1 st.kn (l2.drop st.s1)) st.got; (⟨got, (arrivals (l3.drop st.s2) 1).foldl (ack1 win (got.length % 16) (l3.drop st.s2)) st.kn, st.s1 + sentN win l1.length st.kn, st.s2 + 1, st.rounds + 1⟩ : LSt)) from rfl, HNE.out]; simp only; rw [← HGT.out, ← hkn2])
                generalize passWire (l3.drop st.s2) [pb] = arr2 at HV HAR HLEN
                generalize arrivals (l3.drop st.s2) 1 = ar2 at HAR HBM HBL HKN2 HLEN hkn2
                generalize l3.drop st.s2 = gs at HUB HAR HKN2 hkn2
                clear hkn2
                obtain ⟨A130, c130, e130⟩ := Kd.R_slice HV.out
                subst e130
                have HB := Aside0.mk (Below.refl wC.heap.size wC)
                go_wp2_with fail
                go_loopg [15, 132] ar2.length (fun kq v15 v132 w' => ∃ (j kn' : Nat), v15 = .int .i64 (kn' : Int) ∧ v132 = .int .i64 (j : Int) ∧ Aside0 (j + kq = ar2.length) ∧ Aside0 ((ar2.drop j).foldl (ack1 win (got'.length % 16) gs) kn' = kn2) ∧ Aside0 (kn' ≤ st.kn + 8 * j) ∧ Aside0 (Below wC.heap.size wC w'))
                case atStart => exact ⟨0, st.kn, rfl, rfl, ⟨by simp⟩, ⟨HKN2.out.symm⟩, ⟨by omega⟩, HB⟩
                case round =>
                  clear HB
                  obtain ⟨j, kn', rfl, rfl, HJ, HG2, HGL, HB⟩ := hrel
                  cases gk with
                  | zero =>
                    obtain rfl : ar2.length = j := by have := HJ.out; omega
                    have c1 : decide ((ar2.length : Int) < arr2.length) = false := decide_eq_false (by have := HLEN.out; omega)
                    have c1n : decide (ar2.length < arr2.length) = false := decide_eq_false (by have := HLEN.out; omega)
                    rw [List.drop_length] at HG2
                    obtain rfl : kn' = kn2 := HG2.out
                    clear HG2 HUB HAR HLEN HV
                    go_wp2_with fail
                    go_roundg k1
                    case measure => omega
                    case rel => exact ⟨⟨got', kn', st.s1 + i, st.s2 + 1, st.rounds + 1⟩, .slice Ag got'.length cg, rfl, ⟨by have := HK.out; show st.rounds + 1 + k1 = m; omega⟩, ⟨by rw [← HSTEP.out, ← loopL_go _ HLT.out]; exact HR.out⟩, ⟨by rw [← HSTEP.out]; exact stepL_ok HW2.out HL.out HLT.out HOK.out⟩, ⟨HBOX.out.below HB.out⟩, ⟨Kd.S_below HS.out HB.out⟩, ⟨below_step HBC.out HB.out⟩⟩
                  | succ k4 =>
                    have hj : j < ar2.length := by have := HJ.out; omega
                    have c1 : decide ((j : Int) < arr2.length) = true := decide_eq_true (by have := HLEN.out; omega)
                    have c1n : decide (j < arr2.length) = true := decide_eq_true (by have := HLEN.out; omega)
                    have c2 : (0 ≤ (j : Int)) = True := eq_true (by omega)
                    have c3 : ((j : Int) < arr2.length) = True := eq_true (by have := HLEN.out; omega)
                    have c3n : (j < arr2.length) = True := eq_true (by have := HLEN.out; omega)
                    have hja : j < arr2.length := by have := HLEN.out; omega
                    obtain ⟨ad, Ab2, cb2, hA, hx, hcap, hrr⟩ := at_L2 (Kd.C_below (Kd.R_reads' HV.out).2.2 HB.out) (j : Int) (by omega) (by omega)
                    subst hA
                    have HD := Aside0.mk (show ar2.drop j = ar2[j] :: ar2.drop (j + 1) from List.drop_eq_getElem_cons hj)
                    have ha := HBM.out ar2[j] (List.getElem_mem hj)
                    have hu := HUB.out ar2[j] ha.1 ha.2
                    have hpj : rd_L2 arr2 (j : Int) = passOf gs [pb] ar2[j] := by rw [rd_L2_get hja]; simp [HAR.out]
                    rw [hpj, Int.toNat_natCast] at hx
                    rw [hpj] at hcap hrr
                    generalize passOf gs [pb] ar2[j] = pj at hx hcap hrr hu
                    generalize ar2[j] = idx at HD ha hu
                    have HU := Aside0.mk hu
                    have HRB := Aside0.mk hrr
                    have HCB := Aside0.mk hcap
                    clear hu hrr hcap ha hpj hj hja
                    have hw1 : wrap64 ((j : Int) + 1) = ((j + 1 : Nat) : Int) := by rw [w64 _ (by have := HJ.out; have := HBL.out; omega)]; simp
                    by_cases hf : fateN gs idx.toNat = 4
                    · have HREC := Aside0.mk (show ack1 win (got'.length % 16) gs kn' idx = kn' by unfold ack1; rw [if_pos hf])
                      unfold unBack at HU
                      rw [if_pos hf] at HU
                      clear hf
                      go_wp2_with (go_at_call 34; (with_reducible refine (impl_UnpackLink.calls 700 _ _ pj _ _ _ _ _ ?s0 ?s1 HU.out).mono ?_); (case s0 => exact HRB.out); (case s1 => exact HCB.out); rintro e w' ⟨ve, rfl, he, hb⟩; have n2_ := Aside0.mk (below_step HB.out hb); clear HB; have HB := n2_; clear n2_ he hb)
                      go_roundg k4
                      case measure => omega
                      case rel => exact ⟨j + 1, kn', rfl, by rw [hw1], ⟨by have := HJ.out; omega⟩, ⟨by have := HG2.out; rw [HD.out, List.foldl_cons, HREC.out] at this; exact this⟩, ⟨by have := HGL.out; omega⟩, HB⟩
                    · have HREC := Aside0.mk (show ack1 win (got'.length % 16) gs kn' idx = ackFind kn' win (got'.length % 16) by unfold ack1; rw [if_neg hf])
                      unfold unBack at HU
                      rw [if_neg hf] at HU
                      clear hf
                      go_wp2_with (go_at_call 34; (with_reducible refine (impl_UnpackLink.calls 700 _ _ pj _ _ _ _ _ ?s0 ?s1 HU.out).mono ?_); (case s0 => exact HRB.out); (case s1 => exact HCB.out); rintro e w' ⟨ve, rfl, he, hb⟩; have n2_ := Aside0.mk (below_step HB.out hb); clear HB; have HB := n2_; clear n2_ he hb)
                      go_loopg [15, 34] (win + 1) (fun kq v15 v34 wx => ∃ d : Nat, v15 = .int .i64 (kn' : Int) ∧ v34 = .int .i64 ((kn' + d : Nat) : Int) ∧ wx = w' ∧ Aside0 (d + kq = win + 1) ∧ Aside0 (∀ e, e < d → (kn' + e) % 16 ≠ got'.length % 16))
                      case atStart => exact ⟨0, rfl, rfl, rfl, ⟨by simp⟩, ⟨fun e he => absurd he (by omega)⟩⟩
                      case round =>
                        obtain ⟨d, rfl, rfl, rfl, HDK, HMISS⟩ := hrel
                        have hwk : wrap64 ((kn' : Int) + win) = (kn' : Int) + win := w64 _ (by have := HGL.out; have := HOK.out.kn; have := HBL.out; have := HJ.out; have := HW2.out; omega)
                        have hwd : wrap64 ((kn' : Int) + d + 1) = ((kn' + (d + 1) : Nat) : Int) := by rw [w64 _ (by have := HGL.out; have := HOK.out.kn; have := HBL.out; have := HJ.out; have := HW2.out; have := HDK.out; omega)]; simp; omega
                        cases gk with
                        | zero =>
                          have hdw : ¬ d ≤ win := by have := HDK.out; omega
                          have g1 : decide (d ≤ win) = false := decide_eq_false hdw
                          have g2 : decide ((d : Int) ≤ win) = false := decide_eq_false (by omega)
                          have g3 : decide ((kn' : Int) + d ≤ (kn' : Int) + win) = false := decide_eq_false (by omega)
                          have g4 : decide (((kn' + d : Nat) : Int) ≤ (kn' : Int) + win) = false := decide_eq_false (by omega)
                          have HACK := Aside0.mk (show ackFind kn' win (got'.length % 16) = kn' from ackFind_miss (fun e he => HMISS.out e (by omega)))
                          clear hdw
                          go_wp2_with fail
                          go_roundg k4
                          case measure => omega
                          case rel => exact ⟨j + 1, kn', rfl, by rw [hw1], ⟨by have := HJ.out; omega⟩, ⟨by have := HG2.out; rw [HD.out, List.foldl_cons, HREC.out, HACK.out] at this; exact this⟩, ⟨by have := HGL.out; omega⟩, HB⟩
                        | succ k5 =>
                          have hdw : d ≤ win := by have := HDK.out; omega
                          have g1 : decide (d ≤ win) = true := decide_eq_true hdw
                          have g2 : decide ((d : Int) ≤ win) = true := decide_eq_true (by omega)
                          have g3 : decide ((kn' : Int) + d ≤ (kn' : Int) + win) = true := decide_eq_true (by omega)
                          have g4 : decide (((kn' + d : Nat) : Int) ≤ (kn' : Int) + win) = true := decide_eq_true (by omega)
                          have g5 : Int.tmod ((kn' : Int) + d) 16 = ((kn' : Int) + d) % 16 := Int.tmod_eq_emod_of_nonneg (by omega)
                          have HDW := Aside0.mk hdw
                          clear hdw
                          by_cases hq : (kn' + d) % 16 = got'.length % 16
                          · have HACK := Aside0.mk (show ackFind kn' win (got'.length % 16) = kn' + d from ackFind_hit HDW.out hq HMISS.out)
                            have q1 : ((((kn' + d) % 16 : Nat) : Int) == (got'.length : Int) % 16) = true := beq_iff_eq.mpr (by omega)
                            have q2 : ((((kn' : Int) + d) % 16) == (got'.length : Int) % 16) = true := beq_iff_eq.mpr (by omega)
                            clear hq
                            go_wp2_with fail
                            go_roundg k4
                            case measure => omega
                            case rel => exact ⟨j + 1, kn' + d, by first | rfl | simp, by rw [hw1], ⟨by have := HJ.out; omega⟩, ⟨by have := HG2.out; rw [HD.out, List.foldl_cons, HREC.out, HACK.out] at this; exact this⟩, ⟨by have := HGL.out; have := HDW.out; have := HW2.out; omega⟩, HB⟩
                          · have HQN := Aside0.mk hq
                            have q1 : ((((kn' + d) % 16 : Nat) : Int) == (got'.length : Int) % 16) = false := beq_eq_false_iff_ne.mpr (by omega)
                            have q2 : ((((kn' : Int) + d) % 16) == (got'.length : Int) % 16) = false := beq_eq_false_iff_ne.mpr (by omega)
                            clear hq
                            go_wp2_with fail
                            go_roundg k5
                            case measure => omega
                            case rel => exact ⟨d + 1, rfl, by first | rfl | (rw [hwd]) | (rw [← hwd]; simp), rfl, ⟨by have := HDK.out; omega⟩, ⟨fun e he => by rcases Nat.lt_or_ge e d with h | h; exact HMISS.out e h; have h2 : e = d := (by omega); rw [h2]; exact HQN.out⟩⟩
              | succ k3 =>
                have hj : j < ar.length := by have := HJ.out; omega
                have c1 : decide ((j : Int) < arr.length) = true := decide_eq_true (by have := HLEN.out; omega)
                have c1n : decide (j < arr.length) = true := decide_eq_true (by have := HLEN.out; omega)
                have c2 : (0 ≤ (j : Int)) = True := eq_true (by omega)
                have c3 : ((j : Int) < arr.length) = True := eq_true (by have := HLEN.out; omega)
                have c3n : (j < arr.length) = True := eq_true (by have := HLEN.out; omega)
                have hja : j < arr.length := by have := HLEN.out; omega
                obtain ⟨ad, Ab, cb, hA, hx, hcap, hrr⟩ := at_L2 (Kd.R_reads' HV.out).2.2 (j : Int) (by omega) (by omega)
                subst hA
                have hd : ar.drop j = ar[j] :: ar.drop (j + 1) := List.drop_eq_getElem_cons hj
                have HD := Aside0.mk hd
                have ha := HAM.out ar[j] (List.getElem_mem hj)
                have hu := HUN.out ar[j] ha.1 ha.2
                have hpj : rd_L2 arr (j : Int) = passOf fs pks ar[j] := by rw [rd_L2_get hja]; simp [HAR.out]
                rw [hpj, Int.toNat_natCast] at hx
                rw [hpj] at hcap hrr
                generalize passOf fs pks ar[j] = pj at hx hcap hrr hu
                generalize ar[j] = idx at HD ha hu
                have HU := Aside0.mk hu
                have HRB := Aside0.mk hrr
                have HCB := Aside0.mk hcap
                have HID := Aside0.mk ha
                clear hd hu hrr hcap ha hpj hj hja
                have hw1 : wrap64 ((j : Int) + 1) = ((j + 1 : Nat) : Int) := by rw [w64 _ (by have := HJ.out; have := HAL.out; have := HNL.out; omega)]; simp
                by_cases hf : fateN fs idx.toNat = 4
                · have HREC := Aside0.mk (show recv1 l1 st.kn fs got' idx = got' by unfold recv1; rw [if_pos hf])
                  unfold unOf at HU
                  rw [if_pos hf] at HU
                  clear hf
                  go_wp2_with (go_at_call 34; (with_reducible refine (impl_UnpackLink.calls 700 _ _ pj _ _ _ _ _ ?s0 ?s1 HU.out).mono ?_); (case s0 => exact HRB.out); (case s1 => exact HCB.out); rintro e w' ⟨ve, rfl, he, hb⟩; have n0_ := Aside0.mk (Kd.S_below HS.out hb); have n1_ := Aside0.mk (Kd.R_below HV.out hb); have n2_ := Aside0.mk (below_step HB.out hb); have n3_ := Aside0.mk (HBOX.out.below hb); clear HS HV HB HBOX; have HS := n0_; have HV := n1_; have HB := n2_; have HBOX := n3_; clear n0_ n1_ n2_ n3_ he hb)
                  go_roundg k3
                  case measure => omega
                  case rel => exact ⟨j + 1, vg', got', by rw [hw1], ⟨by have := HJ.out; omega⟩, ⟨by have := HG2.out; rw [HD.out, List.foldl_cons, HREC.out] at this; exact this⟩, ⟨by have := HGL.out; omega⟩, HBOX, HS, HV, HB⟩
                · unfold unOf at HU
                  rw [if_neg hf] at HU
                  obtain ⟨Ag, cg, eg⟩ := Kd.S_slice HS.out
                  subst eg
                  have hrem : Int.tmod (got'.length : Int) 16 = ((got'.length % 16 : Nat) : Int) := by rw [Int.tmod_eq_emod_of_nonneg (by omega)]; simp
                  have hrem2 : Int.tmod (got'.length : Int) 16 = (got'.length : Int) % 16 := by rw [Int.tmod_eq_emod_of_nonneg (by omega)]
                  by_cases hq : (st.kn + idx.toNat) % 16 = got'.length % 16
                  · have HREC := Aside0.mk (show recv1 l1 st.kn fs got' idx = got' ++ [l1.getD (st.kn + idx.toNat) []] by unfold recv1; rw [if_neg hf, if_pos hq])
                    rw [hq] at HU
                    generalize l1.getD (st.kn + idx.toNat) [] = d at HREC HU
                    clear hq hf
                    have e6 : (((got'.length % 16 : Nat) : Int) == (got'.length : Int) % 16) = true := by simp
                    go_wp2_with (first
              | (go_at_call 34; (with_reducible refine (impl_UnpackLink.calls 700 _ _ pj _ _ _ _ _ ?s0 ?s1 HU.out).mono ?_); (case s0 => exact HRB.out); (case s1 => exact HCB.out); rintro e w' ⟨ve, rfl, he, hb⟩; have n4_ := Aside0.mk (fun (k : Nat) (hk : some k = ve.ownBlock) (e : some k = (Value.slice Ag got'.length cg).ownBlock) => (by have h1 := Kd.R_base he k hk.symm; have h2 := Kd.S_lt HS.out k e.symm; omega : False)); have n5_ := Aside0.mk (Kd.R_tight rfl (Kd.R_lower he (below_size HB.out))); have n0_ := Aside0.mk (Kd.S_elder' HS.out (Kd.R_base he) hb); have n1_ := Aside0.mk (Kd.R_below HV.out hb); have n2_ := Aside0.mk (below_step HB.out hb); have n3_ := Aside0.mk (HBOX.out.below hb); clear HS HV HB HBOX; have HS := n0_; have HV := n1_; have HB := n2_; have HBOX := n3_; obtain ⟨x0, x1, y0, y1⟩ := HBOX.out.cells; have HAP := n4_; have HE := n5_; clear n0_ n1_ n2_ n3_ n4_ n5_ he hb; obtain ⟨Ae, ce, ee⟩ := Kd.R_slice HE.out; subst ee)
              | ((with_reducible refine gate_builtin (b := .append) (xs := #[.tmp 114, .tmp 116]) rfl ?_); at_builtin; refine Kd.S_append (Kd.slice 5 (Kd.int .u8)) (w0 := w) w.heap.size rfl (.tmp 114) (.tmp 116) 23 22 (.slice none 0 0) 24 rfl Try.underlying23 info22 rfl (by decide) (by omega) (.slice Ag got'.length cg) got' d [.slice Ae d.length ce] (fun _ => True) (fun k_ => some k_ = (.slice Ae d.length ce : Value).ownBlock) rfl (by first | rfl | (show Value.slice _ 1 1 = _; simp)) ?aP (fun k_ hk_ => ⟨trivial, fun e_ => HAP.out k_ hk_ e_⟩) ?aF ?aO ?aB ?aS ?aL ?_; (case aP => exact Kd.M_row HE.out); (case aB => exact HB.out); (case aF => exact (fun _ _ => trivial)); (case aO => exact HS.out); (case aS => exact below_size HB.out); (case aL => have := HGL.out; have := HOK.out.got; have := HK.out; have := HM.out; have := HAL.out; have := HNL.out; have := HJ.out; omega); intro v1 w1 ho hb hg hat; have n0_ := Aside0.mk (Kd.R_after HV.out hg hat); have n1_ := Aside0.mk (HBOX.out.grown hg (Kd.S_typed HS.out)); have n2_ := Aside0.mk ho; have n3_ := Aside0.mk hb; clear x0 x1 y0 y1 HV HBOX HS HB HAP HE; have HV := n0_; have HBOX := n1_; have HSN := n2_; have HB := n3_; clear n0_ n1_ n2_ n3_ ho hb hg hat; obtain ⟨A1_, c1_, e1_⟩ := Kd.S_slice HSN.out; subst e1_; obtain ⟨x0, x1, y0, y1⟩ := HBOX.out.cells))
                    go_roundg k3
                    case measure => omega
                    case rel =>
                      have hl2 : got'.length + 1 = (got' ++ [d]).length := by simp
                      exact ⟨j + 1, .slice A1_ (got' ++ [d]).length c1_, got' ++ [d], by rw [hw1], ⟨by have := HJ.out; omega⟩, ⟨by have := HG2.out; rw [HD.out, List.foldl_cons, HREC.out] at this; exact this⟩, ⟨by have := HGL.out; simp; omega⟩, ⟨by rw [hl2]; exact HBOX.out.setG HGG.out _⟩, ⟨by rw [hl2]; exact Kd.S_set HSN.out HBOX.out.b1 (by decide) _ _⟩, ⟨by rw [hl2]; exact Kd.R_set HV.out HBOX.out.b1 (by decide) _ _⟩, ⟨below_set HB.out HWG.out⟩⟩
                  · have HREC := Aside0.mk (show recv1 l1 st.kn fs got' idx = got' by unfold recv1; rw [if_neg hf, if_neg hq])
                    have e6 : ((((st.kn + idx.toNat) % 16 : Nat) : Int) == (got'.length : Int) % 16) = false := beq_eq_false_iff_ne.mpr (by omega)
                    have e7 : (((st.kn : Int) + (idx.toNat : Int)) % 16 == (got'.length : Int) % 16) = false := beq_eq_false_iff_ne.mpr (by omega)
                    generalize idx.toNat = ix at *
                    clear hq hf
                    go_wp2_with (go_at_call 34; (with_reducible refine (impl_UnpackLink.calls 700 _ _ pj _ _ _ _ _ ?s0 ?s1 HU.out).mono ?_); (case s0 => exact HRB.out); (case s1 => exact HCB.out); rintro e w' ⟨ve, rfl, he, hb⟩; have n0_ := Aside0.mk (Kd.S_below HS.out hb); have n1_ := Aside0.mk (Kd.R_below HV.out hb); have n2_ := Aside0.mk (below_step HB.out hb); have n3_ := Aside0.mk (HBOX.out.below hb); clear HS HV HB HBOX; have HS := n0_; have HV := n1_; have HB := n2_; have HBOX := n3_; obtain ⟨x0, x1, y0, y1⟩ := HBOX.out.cells; clear n0_ n1_ n2_ n3_ he hb)
                    go_roundg k3
                    case measure => omega
                    case rel => exact ⟨j + 1, _, got', by rw [hw1], ⟨by have := HJ.out; omega⟩, ⟨by have := HG2.out; rw [HD.out, List.foldl_cons, HREC.out] at this; exact this⟩, ⟨by have := HGL.out; omega⟩, HBOX, HS, HV, HB⟩
          | succ k2 =>
            have hi : i < n := by have := HI.out; omega
            have t0 : ((st.kn : Int) + i < min (l1.length : Int) (wrap64 ((st.kn : Int) + win))) := by rw [w64 _ (by have := HOK.out.kn; have := HW2.out; omega)]; have := HN.out; have := HLT.out; omega
            have t1 := eq_true t0
            have t3 : decide (((st.kn + i : Nat) : Int) < min (l1.length : Int) (wrap64 ((st.kn : Int) + win))) = true := decide_eq_true (by rw [Int.natCast_add]; exact t0)
            have t4 : decide ((st.kn : Int) + i < min (l1.length : Int) (wrap64 ((st.kn : Int) + win))) = true := decide_eq_true t0
            have hki : st.kn + i < l1.length := by have := HN.out; omega
            have t5 : (0 ≤ ((st.kn + i : Nat) : Int)) = True := eq_true (by omega)
            have t6 : (((st.kn + i : Nat) : Int) < l1.length) = True := eq_true (by omega)
            have t7 : (0 ≤ (st.kn : Int) + i) = True := eq_true (by omega)
            have t8 : ((st.kn : Int) + i < l1.length) = True := eq_true (by omega)
            have t9 : Int.tmod ((st.kn + i : Nat) : Int) 16 = (((st.kn + i) % 16 : Nat) : Int) := by rw [Int.tmod_eq_emod_of_nonneg (by omega)]; simp
            have t10 : Int.tmod ((st.kn : Int) + i) 16 = (((st.kn + i) % 16 : Nat) : Int) := by rw [← Int.natCast_add]; exact t9
            obtain ⟨ad, Ab, cb, hA, hx, hcap, hrr⟩ := at_L2 HR1.out ((st.kn + i : Nat) : Int) (by omega) (by omega)
            subst hA
            replace hx := ((HBA.out.trans (HB.out.mono HBA.out.size)).cell (World.block_lt_of_cell? _ _ hx)).trans hx
            rw [rd_L2_get hki] at hx hcap hrr
            have HSUCC := Aside0.mk (impl_packs_succ l1 st.kn i)
            have hgd : l1.getD (st.kn + i) [] = l1[st.kn + i] := by rw [List.getD_eq_getElem?_getD, List.getElem?_eq_getElem hki]; rfl
            rw [hgd] at HSUCC
            have HPK := Aside0.mk (impl_pack 1 (((st.kn + i) % 16 : Nat) : Int) l1[st.kn + i] (.inl rfl) (by omega) (by omega) (by rw [← hgd]; exact short_getD HSH.out _) (by rw [← hgd]; exact bytesOk_getD HBO.out _))
            clear hgd
            generalize l1[st.kn + i] = b at hx hcap hrr HSUCC HPK
            have HRB := Aside0.mk hrr
            have HCB := Aside0.mk hcap
            clear hrr hcap
            rw [Int.toNat_natCast] at hx
            generalize impl_packv 1 (((st.kn + i) % 16 : Nat) : Int) b = pk at HSUCC HPK
            have HPK2 := Aside0.mk (show impl_PackLink.f 700 1 (((st.kn : Int) + i) % 16) b = some (pk, true) by have := HPK.out; simpa using this)
            have HX := Aside0.mk (impl_packs_length l1 st.kn i)
            have hw1 : wrap64 ((st.kn : Int) + i + 1) = ((st.kn + (i + 1) : Nat) : Int) := by rw [w64 _ (by have := HL.out; omega)]; simp; omega
            go_wp2_with (first
              | (go_at_call 32; (with_reducible refine (impl_PackLink.calls 700 1 _ Ab cb b pk true _ (Kd.C_below HRB.out (HBA.out.trans (HB.out.mono HBA.out.size))) HCB.out HPK2.out).mono ?_); rintro e w' ⟨ve, rfl, he, hb⟩; obtain ⟨_, hown⟩ := Kd.R_own HO.out; have n2_ := Aside0.mk (Kd.R_lower (Kd.R_mono (ok' := fun k_ => some k_ ≠ (u16 : Value).ownBlock) (Kd.R_new he hown) (fun _ hk => hk.2)) (below_size HB.out)); clear hown; have n0_ := Aside0.mk (Kd.R_below HO.out hb); have n1_ := Aside0.mk (below_step HB.out hb); clear HO HB; have HO := n0_; have HB := n1_; have HE := n2_; clear n0_ n1_ n2_ hb he; obtain ⟨Ae, ce, ee⟩ := Kd.R_slice HE.out; subst ee)
              | ((with_reducible refine gate_builtin (b := .append) (xs := #[.tmp 82, .tmp 84]) rfl ?_); at_builtin; refine Kd.R_append (Kd.slice 5 (Kd.int .u8)) (w0 := wA) wA.heap.size rfl (.tmp 82) (.tmp 84) 23 22 (.slice none 0 0) 24 rfl Try.underlying23 info22 rfl (by decide) (by omega) u16 (impl_packs l1 st.kn i) pk [(.slice Ae pk.length ce)] (fun _ => True) (fun k_ => some k_ ≠ (u16 : Value).ownBlock) rfl (by first | rfl | (show Value.slice _ 1 1 = _; simp)) ?aP (fun _ hk => ⟨trivial, hk⟩) ?aF ?aO ?aB ?aS ?aL ?_; (case aP => exact Kd.M_row HE.out); (case aB => exact (by repeat (first | (with_reducible first | exact HB.out | apply below_alloc | apply pw_below_drewN | apply below_drew1) | exact HB.out))); (case aF => exact (fun _ _ => trivial)); (case aO => exact (by (with_reducible repeat (first | apply Kd.R_alloc | apply Kd.R_drewN | apply Kd.R_drew)); exact HO.out)); (case aS => exact (below_size (by repeat (first | (with_reducible first | exact HB.out | apply below_alloc | apply pw_below_drewN | apply below_drew1) | exact HB.out)))); (case aL => have := HX.out; have := HN.out; have := HL.out; first | omega | (simp; omega) | (simp at *; omega)); intro v2 w8 ho hb hg hat; have n0_ := Aside0.mk (hb); have n1_ := Aside0.mk (ho); clear HB; clear HO; have HB := n0_; have HO2 := n1_; clear n0_ n1_; clear ho hb hg hat))
            go_roundg k2
            case measure => omega
            case rel => exact ⟨i + 1, by first | rfl | (rw [← hw1]; simp) | (rw [hw1]) | (simp; omega), ⟨by have := HI.out; omega⟩, ⟨by rw [HSUCC.out]; exact HO2.out⟩, ⟨(by repeat (first | (with_reducible first | exact HB.out | apply below_alloc | apply pw_below_drewN | apply below_drew1) | exact HB.out))⟩⟩
    · have e1 : decide ((st.kn : Int) < l1.length) = false := decide_eq_false (by omega)
      have e1n : decide (st.kn < l1.length) = false := decide_eq_false (by omega)
      have e3 : decide ((st.kn : Int) ≥ l1.length) = true := decide_eq_true (by omega)
      have e4 : decide ((l1.length : Int) ≤ st.kn) = true := decide_eq_true (by omega)
      have e5 := Aside0.mk (show decide (l1.length ≤ st.kn) = true from decide_eq_true (by omega))
      have hr : loopL win l1 l2 l3 gk st = st := loopL_stop gk hlt
      obtain rfl : st = res := hr.symm.trans HR.out
      obtain ⟨Ag, cg, rfl⟩ := Kd.S_slice HS.out
      obtain ⟨⟨x0, x1, x2, x3⟩, y0, y1, y2, y3⟩ := HBOX.out.cellsG
      obtain ⟨⟨z0, z1, z2, z3⟩, q0, q1, q2, q3⟩ := HBOX.out.cells0
      obtain ⟨u1, u2⟩ := HBOX.out.cellsS
      have hw1 : wrap64 ((st.s1 : Int) + st.s2) = ((st.s1 + st.s2 : Nat) : Int) := by rw [w64 _ (by have := HOK.out.s1; have := HOK.out.s2; have := HK.out; have := HM.out; omega)]; simp
      have hne : g ≠ G := by have := HGG.out; omega
      have hne2 : G ≠ g := by have := HGG.out; omega
      go_wp2_with fail
      refine bodyPost_ret (v := .tuple #[.agg #[.slice Ag st.got.length cg, .int .i64 st.rounds, .int .i64 ((st.s1 : Int) + st.s2), .bool (decide (l1.length ≤ st.kn))], .bool true]) ?hres rfl ?_
      case hres => exact (results_ct (p := 10) (u := 11) (ty := 28) rfl _ _ g 28 #[.slice Ag st.got.length cg, .int .i64 st.rounds, .int .i64 ((st.s1 : Int) + st.s2), .bool (decide (l1.length ≤ st.kn))] (0, 0) _ rfl (heap_set (heap_set (heap_set (heap_set (BoxL.other (BoxL.other HBOX.out.b0 G hne2 _ _) G hne2 _ _))))) Try.underlying28 rfl (by kernel_rfl))
      refine ⟨.slice Ag st.got.length cg, by rw [show ((st.s1 + st.s2 : Nat) : Int) = (st.s1 : Int) + st.s2 by simp], ?_, ?_⟩
      · have hS1 := Kd.S_set HS.out HBOX.out.b1 (by decide) 2 (.int .i64 ((st.s1 : Int) + st.s2))
        have hS2 := Kd.S_set hS1 (heap_set HBOX.out.b1) (by decide) 3 (.bool (decide (l1.length ≤ st.kn)))
        have h0 := BoxL.other (BoxL.other HBOX.out.b0 G hne2 2 (.int .i64 ((st.s1 : Int) + st.s2))) G hne2 3 (.bool (decide (l1.length ≤ st.kn)))
        exact Kd.S_set (Kd.S_set (Kd.S_set (Kd.S_set hS2 h0 (by decide) _ _) (heap_set h0) (by decide) _ _) (heap_set (heap_set h0)) (by decide) _ _) (heap_set (heap_set (heap_set h0))) (by decide) _ _
      · have hg0 := HG0.out
        exact below_set (below_set (below_set (below_set (below_set (below_set HB.out HWG.out) HWG.out) (by omega)) (by omega)) (by omega)) (by omega)
end Go.Proofs.Ytookabfmbimnoaa.Lk

namespace Go.Proofs.Ytookabfmbimnoaa.Lk
open Go.RowKit Go.Proofs.YtookabfmbimnoaaW.PrintWords Go.Proofs.YtookabfmbimnoaaW.PrintLast Go.Proofs.YtookabfmbimnoaaW.PrintMore
set_option linter.unusedVariables false
set_option linter.unusedSimpArgs false

theorem S_of_nil {α : Type} {d : Kd α} {e : Nat} {w : World} {base : Nat} {ok : Nat → Prop} {v : Value} (h : d.R e w base ok v []) : Kd.S d e w base ok v [] := by
  obtain ⟨h0, inner, ho, hr⟩ := h
  exact ⟨fun _ => 0, h0, inner, ho, hr.1, fun j p hj => by simp at hj⟩
set_option maxHeartbeats 8000000 in
set_option maxRecDepth 100000 in
theorem l5Run_ok (win : Nat) (A1 : Option Addr) (c1 : Nat) (l1 : List (List Int)) (A2 : Option Addr) (c2 : Nat) (l2 : List Int) (A3 : Option Addr) (c3 : Nat) (l3 : List Int) (m : Nat) (w : World)
    (hr1 : Kd.C (Kd.slice 5 (Kd.int .u8)) w A1 l1.length l1) (hc1 : l1.length ≤ c1) (hr2 : Kd.C (Kd.int .i64) w A2 l2.length l2) (hc2 : l2.length ≤ c2) (hr3 : Kd.C (Kd.int .i64) w A3 l3.length l3) (hc3 : l3.length ≤ c3) (h : impl_linkOk.f (win : Int) l1 l2 l3 (m : Int) = some true) (hbo : bytesOk l1 = true) :
    Calls Try.prog 37 #[.int .i64 (win : Int), .slice A1 l1.length c1, .slice A2 l2.length c2, .slice A3 l3.length c3, .int .i64 (m : Int)] w fun e w' => ∃ v0_ : Value, e = .returned (.agg #[v0_, .int .i64 ((runL win l1 l2 l3 m).rounds : Int), .int .i64 (((runL win l1 l2 l3 m).s1 + (runL win l1 l2 l3 m).s2 : Nat) : Int), .bool (decide (l1.length ≤ (runL win l1 l2 l3 m).kn))]) ∧ Kd.S (Kd.slice 5 (Kd.int .u8)) 22 w' w.heap.size (fun _ => True) v0_ (runL win l1 l2 l3 m).got ∧ Below w.heap.size w w' := by
  have h0 := Option.some.inj h
  simp only [Bool.and_eq_true, winOk, rndOk, decide_eq_true_eq] at h0
  obtain ⟨⟨hw1, hw2⟩, hl1, hsh, hf2, hf3, hm1, hm2⟩ := h0
  have HW1 := Aside0.mk (show 1 ≤ win by omega)
  have HW2 := Aside0.mk (show win ≤ 8 by omega)
  have HL := Aside0.mk hl1
  have HSH := Aside0.mk hsh
  have HF2 := Aside0.mk hf2
  have HF3 := Aside0.mk hf3
  have HM := Aside0.mk (show m ≤ 400 by omega)
  have HBO := Aside0.mk hbo
  have HR1 := Aside0.mk hr1
  have HR2 := Aside0.mk hr2
  have HR3 := Aside0.mk hr3
  have HC1 := Aside0.mk hc1
  have HC2 := Aside0.mk hc2
  have HC3 := Aside0.mk hc3
  clear hr1 hc1 hr2 hc2 hr3 hc3 h hw1 hw2 hl1 hsh hf2 hf3 hm1 hm2 hbo
  have HRUN := Aside0.mk (show runL win l1 l2 l3 m = loopL win l1 l2 l3 m ⟨[], 0, 0, 0, 0⟩ from rfl)
  generalize runL win l1 l2 l3 m = res at HRUN ⊢
  have HB := Aside0.mk (Below.refl w.heap.size w)
  go_enter Try.func37, Try.ntmps37
  go_wp2_with (first
      | ((with_reducible refine gate_dst (N := 14) rfl ?_); refine Kd.R_lit (Kd.slice 5 (Kd.int .u8)) _ 22 ?hg (N := 14) ?hd (xs := ([] : List _)) (inner := []) (ok := fun _ => True) (okp := fun _ => True) ?hr ?hp (fun _ hk => hk) trivial (Below.refl _ _) (Nat.le_refl _) (by simp) ?_; (case hd => rfl); (case hg => rfl); (case hr => first | (go_simp; done) | (go_simp; rfl)); (case hp => exact (Reps.none _ _)); intro v0 w6 ho7 hb hg_ hnew_; clear hg_ hnew_; have NB := Aside0.mk hb; have NO := Aside0.mk ho7; have n0_ := Aside0.mk (Kd.R_lower ho7 (below_size (by repeat (first | (with_reducible first | exact HB.out | apply below_alloc | apply pw_below_drewN | apply below_drew1) | exact HB.out)))); have n1_ := Aside0.mk (below_step (by repeat (first | (with_reducible first | exact HB.out | apply below_alloc | apply pw_below_drewN | apply below_drew1) | exact HB.out)) hb); clear HB; have HO0 := n0_; have HB := n1_; clear n0_ n1_; clear hb ho7; obtain ⟨Al, cl, el⟩ := Kd.R_slice HO0.out; subst el))
  clear HO0 HB
  obtain ⟨W1, hW1⟩ : ∃ W : World, W = w.alloc (.cells #[.slice none 0 0, .int .i64 0, .int .i64 0, .bool false] 28) := ⟨_, rfl⟩
  rw [← hW1] at NB NO
  have HBW := Aside0.mk (show Below w.heap.size w W1 by rw [hW1]; exact below_alloc (Below.refl _ _) _)
  have hx1 : W1.heap[w.heap.size]? = some (.cells #[.slice none 0 0, .int .i64 0, .int .i64 0, .bool false] 28 (0, 0)) := by rw [hW1]; exact blk_new _ _
  clear hW1
  generalize hg : w.heap.size = g at hx1
  have HGE := Aside0.mk (Nat.le_of_eq hg)
  have HX1 := Aside0.mk hx1
  clear hx1 hg
  have hS0 := S_of_nil NO.out
  have HXX : ∃ (W2 : World) (G : Nat), G = w6.heap.size ∧ W2 = w6.alloc (Obj.cells #[Value.slice Al 0 cl, Value.int IntKind.i64 0, Value.int IntKind.i64 0, Value.bool false, Value.int IntKind.i64 0, Value.slice A2 l2.length c2, Value.slice A3 l3.length c3] 76) ∧ g < G ∧ SBox W1 W2 G l2 l3 ⟨[], 0, 0, 0, 0⟩ := by
    refine ⟨_, _, rfl, rfl, heap_lt (blk_below HX1.out NB.out), ⟨⟨.slice Al 0 cl, .slice A2 l2.length c2, .slice A3 l3.length c3, blk_new _ _, Kd.S_alloc hS0 _, .inl ⟨A2, c2, rfl, HC2.out, Kd.C_below HR2.out HBW.out⟩, .inl ⟨A3, c3, rfl, HC3.out, Kd.C_below HR3.out HBW.out⟩⟩, NB.out.size, below_alloc NB.out _⟩⟩
  obtain ⟨W2, G, hG, hW2, hgG, hbox⟩ := HXX
  rw [← hG, ← hW2]
  have HR1W := Aside0.mk (Kd.C_below HR1.out HBW.out)
  clear hW2 hS0 NO NB HR1 HR2 HR3
  have HGG := Aside0.mk hgG
  have HBOX := Aside0.mk hbox
  clear hgG hbox hG w6
  go_loopg [33] m (fun kq v33 w' => ∃ (st : LSt), Aside0 (st.rounds + kq = m) ∧ Aside0 (loopL win l1 l2 l3 kq st = res) ∧ Aside0 (StOk st) ∧ Aside0 (SBox W1 w' G l2 l3 st))
  case atStart => exact ⟨⟨[], 0, 0, 0, 0⟩, ⟨by simp⟩, ⟨HRUN.out.symm⟩, ⟨⟨by simp, by simp, by simp, by simp⟩⟩, HBOX⟩
  case round =>
    clear HBOX HRUN
    obtain ⟨st, HK, HR, HOK, HBOX⟩ := hrel
    obtain ⟨⟨vg, vt, vb, hx, hS, hT, hV⟩, hge2, hbel⟩ := HBOX.out
    obtain ⟨⟨x0, x1, x2, x3, x4, x5, x6⟩, y0, y1, y2, y3, y4, y5, y6⟩ := cells76 hx
    have HX := Aside0.mk hx
    have HS := Aside0.mk hS
    have HT := Aside0.mk hT
    have HV := Aside0.mk hV
    have HGE2 := Aside0.mk hge2
    have HB := Aside0.mk hbel
    clear hx hS hT hV hge2 hbel HBOX
    cases gk with
    | zero =>
      have hr : loopL win l1 l2 l3 0 st = st := rfl
      have e2 : decide ((st.rounds : Int) < m) = false := decide_eq_false (by have := HK.out; omega)
      have e2n : decide (st.rounds < m) = false := decide_eq_false (by have := HK.out; omega)
      by_cases hlt : st.kn < l1.length
      · have e3 : decide ((st.kn : Int) ≥ l1.length) = false := decide_eq_false (by omega)
        have e4 : decide ((l1.length : Int) ≤ st.kn) = false := decide_eq_false (by omega)
        clear hlt
        obtain rfl : st = res := hr.symm.trans HR.out
        obtain ⟨Ag, cg, eg⟩ := Kd.S_slice HS.out
        subst eg
        have hne : g ≠ G := by have := HGG.out; omega
        have hne2 : G ≠ g := by have := HGG.out; omega
        have HXG := Aside0.mk (blk_below HX1.out HB.out)
        have z0 : wr.cell? ⟨g, 0, none⟩ = some (.slice none 0 0) := by simp [World.cell?, HXG.out]
        have z1 : wr.cell? ⟨g, 1, none⟩ = some (.int .i64 0) := by simp [World.cell?, HXG.out]
        have z2 : wr.cell? ⟨g, 2, none⟩ = some (.int .i64 0) := by simp [World.cell?, HXG.out]
        have z3 : wr.cell? ⟨g, 3, none⟩ = some (.bool false) := by simp [World.cell?, HXG.out]
        have q0 : wr.frozen? ⟨g, 0, none⟩ = false := by simp [World.frozen?, HXG.out]
        have q1 : wr.frozen? ⟨g, 1, none⟩ = false := by simp [World.frozen?, HXG.out]
        have q2 : wr.frozen? ⟨g, 2, none⟩ = false := by simp [World.frozen?, HXG.out]
        have q3 : wr.frozen? ⟨g, 3, none⟩ = false := by simp [World.frozen?, HXG.out]
        go_wp2_with fail
        refine bodyPost_ret (v := .agg #[.slice Ag st.got.length cg, .int .i64 st.rounds, .int .i64 ((st.s1 : Int) + st.s2), .bool (decide (l1.length ≤ st.kn))]) ?hres rfl ?_
        case hres => exact results_single (r := .cell 10 28) rfl (.cell g 28 #[.slice Ag st.got.length cg, .int .i64 st.rounds, .int .i64 ((st.s1 : Int) + st.s2), .bool (decide (l1.length ≤ st.kn))] (0, 0) _ rfl (heap_set (heap_set (heap_set (heap_set (BoxL.other HXG.out G hne2 _ _))))) Try.underlying28 rfl (by kernel_rfl) .nil)
        refine ⟨.slice Ag st.got.length cg, by rw [show ((st.s1 + st.s2 : Nat) : Int) = (st.s1 : Int) + st.s2 by simp], ?_, ?_⟩
        · have hS1 := Kd.S_set HS.out HX.out (by decide) 3 (.bool (decide (l1.length ≤ st.kn)))
          have h0 := BoxL.other HXG.out G hne2 3 (.bool (decide (l1.length ≤ st.kn)))
          exact Kd.S_lower (Kd.S_set (Kd.S_set (Kd.S_set (Kd.S_set hS1 h0 (by decide) _ _) (heap_set h0) (by decide) _ _) (heap_set (heap_set h0)) (by decide) _ _) (heap_set (heap_set (heap_set h0))) (by decide) _ _) HBW.out.size
        · have hB2 : Below w.heap.size w wr := below_step HBW.out HB.out
          have hgG2 := Nat.le_trans HBW.out.size HGE2.out
          exact below_set (below_set (below_set (below_set (below_set hB2 hgG2) HGE.out) HGE.out) HGE.out) HGE.out
      · have e3 : decide ((st.kn : Int) ≥ l1.length) = true := decide_eq_true (by omega)
        have e4 : decide ((l1.length : Int) ≤ st.kn) = true := decide_eq_true (by omega)
        clear hlt
        obtain rfl : st = res := hr.symm.trans HR.out
        obtain ⟨Ag, cg, eg⟩ := Kd.S_slice HS.out
        subst eg
        have hne : g ≠ G := by have := HGG.out; omega
        have hne2 : G ≠ g := by have := HGG.out; omega
        have HXG := Aside0.mk (blk_below HX1.out HB.out)
        have z0 : wr.cell? ⟨g, 0, none⟩ = some (.slice none 0 0) := by simp [World.cell?, HXG.out]
        have z1 : wr.cell? ⟨g, 1, none⟩ = some (.int .i64 0) := by simp [World.cell?, HXG.out]
        have z2 : wr.cell? ⟨g, 2, none⟩ = some (.int .i64 0) := by simp [World.cell?, HXG.out]
        have z3 : wr.cell? ⟨g, 3, none⟩ = some (.bool false) := by simp [World.cell?, HXG.out]
        have q0 : wr.frozen? ⟨g, 0, none⟩ = false := by simp [World.frozen?, HXG.out]
        have q1 : wr.frozen? ⟨g, 1, none⟩ = false := by simp [World.frozen?, HXG.out]
        have q2 : wr.frozen? ⟨g, 2, none⟩ = false := by simp [World.frozen?, HXG.out]
        have q3 : wr.frozen? ⟨g, 3, none⟩ = false := by simp [World.frozen?, HXG.out]
        go_wp2_with fail
        refine bodyPost_ret (v := .agg #[.slice Ag st.got.length cg, .int .i64 st.rounds, .int .i64 ((st.s1 : Int) + st.s2), .bool (decide (l1.length ≤ st.kn))]) ?hres rfl ?_
        case hres => exact results_single (r := .cell 10 28) rfl (.cell g 28 #[.slice Ag st.got.length cg, .int .i64 st.rounds, .int .i64 ((st.s1 : Int) + st.s2), .bool (decide (l1.length ≤ st.kn))] (0, 0) _ rfl (heap_set (heap_set (heap_set (heap_set (BoxL.other HXG.out G hne2 _ _))))) Try.underlying28 rfl (by kernel_rfl) .nil)
        refine ⟨.slice Ag st.got.length cg, by rw [show ((st.s1 + st.s2 : Nat) : Int) = (st.s1 : Int) + st.s2 by simp], ?_, ?_⟩
        · have hS1 := Kd.S_set HS.out HX.out (by decide) 3 (.bool (decide (l1.length ≤ st.kn)))
          have h0 := BoxL.other HXG.out G hne2 3 (.bool (decide (l1.length ≤ st.kn)))
          exact Kd.S_lower (Kd.S_set (Kd.S_set (Kd.S_set (Kd.S_set hS1 h0 (by decide) _ _) (heap_set h0) (by decide) _ _) (heap_set (heap_set h0)) (by decide) _ _) (heap_set (heap_set (heap_set h0))) (by decide) _ _) HBW.out.size
        · have hB2 : Below w.heap.size w wr := below_step HBW.out HB.out
          have hgG2 := Nat.le_trans HBW.out.size HGE2.out
          exact below_set (below_set (below_set (below_set (below_set hB2 hgG2) HGE.out) HGE.out) HGE.out) HGE.out
    | succ k1 =>
      have e2 : decide ((st.rounds : Int) < m) = true := decide_eq_true (by have := HK.out; omega)
      have e2n : decide (st.rounds < m) = true := decide_eq_true (by have := HK.out; omega)
      by_cases hlt : st.kn < l1.length
      · have e1 : decide ((st.kn : Int) < l1.length) = true := decide_eq_true (by omega)
        have e1n : decide (st.kn < l1.length) = true := decide_eq_true (by omega)
        have HLT := Aside0.mk hlt
        clear hlt
        have hw1 : wrap64 ((st.rounds : Int) + 1) = ((st.rounds + 1 : Nat) : Int) := by rw [w64 _ (by have := HK.out; have := HM.out; omega)]; simp
        go_wp2_with fail
        have hsb : SBox W1 (wr.setCell ⟨G, 1, none⟩ (.int .i64 ((st.rounds : Int) + 1))) G l2 l3 { st with rounds := st.rounds + 1 } := by
          refine ⟨⟨vg, vt, vb, ?_, Kd.S_set HS.out HX.out (by decide) _ _, HT.out.set HX.out (by decide) _ _, HV.out.set HX.out (by decide) _ _⟩, HGE2.out, below_set HB.out HGE2.out⟩
          rw [heap_set HX.out]
          show some (Obj.cells _ 76 (0, 0)) = _
          simp
        refine (send_ok G win A1 c1 l1 l2 l3 { st with rounds := st.rounds + 1 } W1 _ HR1W.out HC1.out hsb ⟨HLT.out, HL.out, HW1.out, HW2.out, by show st.rounds + 1 ≤ 400; have := HK.out; have := HM.out; omega, by show st.s1 ≤ _; have := HOK.out.s1; have := HK.out; have := HM.out; omega, by show st.s2 ≤ _; have := HOK.out.s2; have := HK.out; have := HM.out; omega, by show st.got.length ≤ _; have := HOK.out.got; have := HK.out; have := HM.out; omega⟩ HF2.out HSH.out HBO.out).mono ?_
        rintro e w' ⟨rfl, hsb2⟩
        clear hsb
        have HSB2 := Aside0.mk hsb2
        clear hsb2
        go_wp2_with fail
        refine (answer_ok G win l2 l3 _ W1 _ HSB2.out (by show st.kn ≤ 60; have := HLT.out; have := HL.out; omega) HW2.out (by show st.s1 + sentN win l1.length st.kn ≤ _; have : sentN win l1.length st.kn ≤ win := by { unfold sentN; omega }; have := HW2.out; have := HOK.out.s1; have := HK.out; have := HM.out; omega) (by show st.s2 ≤ _; have := HOK.out.s2; have := HK.out; have := HM.out; omega) HF3.out).mono ?_
        rintro e w2 ⟨rfl, hsb3⟩
        clear HSB2
        have HSB3 := Aside0.mk (show SBox W1 w2 G l2 l3 (stepL win l1 l2 l3 st) from hsb3)
        clear hsb3
        go_wp2_with fail
        go_roundg k1
        case measure => omega
        case rel => exact ⟨stepL win l1 l2 l3 st, ⟨by have := HK.out; show st.rounds + 1 + k1 = m; omega⟩, ⟨by rw [← loopL_go _ HLT.out]; exact HR.out⟩, ⟨stepL_ok HW2.out HL.out HLT.out HOK.out⟩, HSB3⟩
      · have e1 : decide ((st.kn : Int) < l1.length) = false := decide_eq_false (by omega)
        have e1n : decide (st.kn < l1.length) = false := decide_eq_false (by omega)
        have e3 : decide ((st.kn : Int) ≥ l1.length) = true := decide_eq_true (by omega)
        have e4 : decide ((l1.length : Int) ≤ st.kn) = true := decide_eq_true (by omega)
        have hr : loopL win l1 l2 l3 (k1 + 1) st = st := loopL_stop (k1 + 1) hlt
        clear hlt
        obtain rfl : st = res := hr.symm.trans HR.out
        obtain ⟨Ag, cg, eg⟩ := Kd.S_slice HS.out
        subst eg
        have hne : g ≠ G := by have := HGG.out; omega
        have hne2 : G ≠ g := by have := HGG.out; omega
        have HXG := Aside0.mk (blk_below HX1.out HB.out)
        have z0 : wr.cell? ⟨g, 0, none⟩ = some (.slice none 0 0) := by simp [World.cell?, HXG.out]
        have z1 : wr.cell? ⟨g, 1, none⟩ = some (.int .i64 0) := by simp [World.cell?, HXG.out]
        have z2 : wr.cell? ⟨g, 2, none⟩ = some (.int .i64 0) := by simp [World.cell?, HXG.out]
        have z3 : wr.cell? ⟨g, 3, none⟩ = some (.bool false) := by simp [World.cell?, HXG.out]
        have q0 : wr.frozen? ⟨g, 0, none⟩ = false := by simp [World.frozen?, HXG.out]
        have q1 : wr.frozen? ⟨g, 1, none⟩ = false := by simp [World.frozen?, HXG.out]
        have q2 : wr.frozen? ⟨g, 2, none⟩ = false := by simp [World.frozen?, HXG.out]
        have q3 : wr.frozen? ⟨g, 3, none⟩ = false := by simp [World.frozen?, HXG.out]
        go_wp2_with fail
        refine bodyPost_ret (v := .agg #[.slice Ag st.got.length cg, .int .i64 st.rounds, .int .i64 ((st.s1 : Int) + st.s2), .bool (decide (l1.length ≤ st.kn))]) ?hres rfl ?_
        case hres => exact results_single (r := .cell 10 28) rfl (.cell g 28 #[.slice Ag st.got.length cg, .int .i64 st.rounds, .int .i64 ((st.s1 : Int) + st.s2), .bool (decide (l1.length ≤ st.kn))] (0, 0) _ rfl (heap_set (heap_set (heap_set (heap_set (BoxL.other HXG.out G hne2 _ _))))) Try.underlying28 rfl (by kernel_rfl) .nil)
        refine ⟨.slice Ag st.got.length cg, by rw [show ((st.s1 + st.s2 : Nat) : Int) = (st.s1 : Int) + st.s2 by simp], ?_, ?_⟩
        · have hS1 := Kd.S_set HS.out HX.out (by decide) 3 (.bool (decide (l1.length ≤ st.kn)))
          have h0 := BoxL.other HXG.out G hne2 3 (.bool (decide (l1.length ≤ st.kn)))
          exact Kd.S_lower (Kd.S_set (Kd.S_set (Kd.S_set (Kd.S_set hS1 h0 (by decide) _ _) (heap_set h0) (by decide) _ _) (heap_set (heap_set h0)) (by decide) _ _) (heap_set (heap_set (heap_set h0))) (by decide) _ _) HBW.out.size
        · have hB2 : Below w.heap.size w wr := below_step HBW.out HB.out
          have hgG2 := Nat.le_trans HBW.out.size HGE2.out
          exact below_set (below_set (below_set (below_set (below_set hB2 hgG2) HGE.out) HGE.out) HGE.out) HGE.out
end Go.Proofs.Ytookabfmbimnoaa.Lk

namespace Go.Proofs.Ytookabfmbimnoaa.Lk
open Go.RowKit Go.Proofs.YtookabfmbimnoaaW.PrintWords Go.Proofs.YtookabfmbimnoaaW.PrintLast Go.Proofs.YtookabfmbimnoaaW.PrintMore
set_option linter.unusedVariables false
set_option linter.unusedSimpArgs false

def linkB (a0 : Int) (l1 : List (List Int)) (l2 l3 : List Int) (a4 : Int) : Bool := winOk a0 && (decide (l1.length ≤ 60) && (l1.all shortB && (fatesOk l2 && (fatesOk l3 && rndOk a4))))
def runR (a0 : Int) (l1 : List (List Int)) (l2 l3 : List Int) (a4 : Int) : LSt := runL a0.toNat l1 l2 l3 a4.toNat
def impl_RunLink.f (_k : Nat) (a0 : Int) (l1 : List (List Int)) (l2 l3 : List Int) (a4 : Int) : Option (List (List Int) × Int × Int × Bool × Bool) :=
  if bytesOk l1 = true then (if linkB a0 l1 l2 l3 a4 = true then some ((runR a0 l1 l2 l3 a4).got, ((runR a0 l1 l2 l3 a4).rounds : Int), (((runR a0 l1 l2 l3 a4).s1 + (runR a0 l1 l2 l3 a4).s2 : Nat) : Int), decide (l1.length ≤ (runR a0 l1 l2 l3 a4).kn), true) else some ([], 0, 0, false, false)) else none
theorem linkB_win {a0 : Int} {l1 : List (List Int)} {l2 l3 : List Int} {a4 : Int} (h : linkB a0 l1 l2 l3 a4 = true) : 0 ≤ a0 ∧ 0 ≤ a4 := by
  simp only [linkB, Bool.and_eq_true, winOk, rndOk, decide_eq_true_eq] at h
  omega
theorem impl_RunLink.calls (k : Nat) (a0 : Int) (A1 : Option Addr) (c1 : Nat) (l1 : List (List Int)) (A2 : Option Addr) (c2 : Nat) (l2 : List Int) (A3 : Option Addr) (c3 : Nat) (l3 : List Int) (a4 : Int) (r1 : List (List Int)) (r2 r3 : Int) (r4 r5 : Bool) (w : World)
    (hr1 : Kd.C (Kd.slice 5 (Kd.int .u8)) w A1 l1.length l1) (hc1 : l1.length ≤ c1) (hr2 : Kd.C (Kd.int .i64) w A2 l2.length l2) (hc2 : l2.length ≤ c2) (hr3 : Kd.C (Kd.int .i64) w A3 l3.length l3) (hc3 : l3.length ≤ c3) (h : impl_RunLink.f k a0 l1 l2 l3 a4 = some (r1, r2, r3, r4, r5)) :
    Calls Try.prog 10 #[.int .i64 a0, .slice A1 l1.length c1, .slice A2 l2.length c2, .slice A3 l3.length c3, .int .i64 a4] w fun e w' => ∃ v0_ : Value, e = .returned (.tuple #[.agg #[v0_, .int .i64 r2, .int .i64 r3, .bool r4], .bool r5]) ∧ Kd.S (Kd.slice 5 (Kd.int .u8)) 22 w' w.heap.size (fun _ => True) v0_ r1 ∧ Below w.heap.size w w' := by
  unfold impl_RunLink.f at h
  by_cases hb : bytesOk l1 = true
  case neg => rw [if_neg hb] at h; cases h
  rw [if_pos hb] at h
  by_cases hl : linkB a0 l1 l2 l3 a4 = true
  · rw [if_pos hl] at h
    have h := Option.some.inj h
    simp only [Prod.mk.injEq] at h
    obtain ⟨rfl, rfl, rfl, rfl, rfl⟩ := h
    obtain ⟨h0, h4⟩ := linkB_win hl
    obtain ⟨win, rfl⟩ := Int.eq_ofNat_of_zero_le h0
    obtain ⟨m, rfl⟩ := Int.eq_ofNat_of_zero_le h4
    exact RunLink_yes win A1 c1 l1 A2 c2 l2 A3 c3 l3 m w hr1 hc1 hr2 hc2 hr3 hc3 (congrArg some hl) hb
  · rw [if_neg hl] at h
    have h := Option.some.inj h
    simp only [Prod.mk.injEq] at h
    obtain ⟨rfl, rfl, rfl, rfl, rfl⟩ := h
    refine (RunLink_no a0 A1 c1 l1 A2 c2 l2 A3 c3 l3 a4 w hr1 hc1 hr2 hc2 hr3 hc3 (congrArg some (Bool.eq_false_iff.mpr hl))).mono ?_
    rintro e w' ⟨rfl, hbw⟩
    exact ⟨_, rfl, Kd.S_nil _ _ _ _ _, hbw⟩
def spec_l5Run.f (_k : Nat) (a0 : Int) (l1 : List (List Int)) (l2 l3 : List Int) (a4 : Int) : Option (List (List Int) × Int × Int × Bool) :=
  if bytesOk l1 = true ∧ linkB a0 l1 l2 l3 a4 = true then some ((runR a0 l1 l2 l3 a4).got, ((runR a0 l1 l2 l3 a4).rounds : Int), (((runR a0 l1 l2 l3 a4).s1 + (runR a0 l1 l2 l3 a4).s2 : Nat) : Int), decide (l1.length ≤ (runR a0 l1 l2 l3 a4).kn)) else none
theorem spec_l5Run.calls (k : Nat) (a0 : Int) (A1 : Option Addr) (c1 : Nat) (l1 : List (List Int)) (A2 : Option Addr) (c2 : Nat) (l2 : List Int) (A3 : Option Addr) (c3 : Nat) (l3 : List Int) (a4 : Int) (r1 : List (List Int)) (r2 r3 : Int) (r4 : Bool) (w : World)
    (hr1 : Kd.C (Kd.slice 5 (Kd.int .u8)) w A1 l1.length l1) (hc1 : l1.length ≤ c1) (hr2 : Kd.C (Kd.int .i64) w A2 l2.length l2) (hc2 : l2.length ≤ c2) (hr3 : Kd.C (Kd.int .i64) w A3 l3.length l3) (hc3 : l3.length ≤ c3) (h : spec_l5Run.f k a0 l1 l2 l3 a4 = some (r1, r2, r3, r4)) :
    Calls Try.prog 37 #[.int .i64 a0, .slice A1 l1.length c1, .slice A2 l2.length c2, .slice A3 l3.length c3, .int .i64 a4] w fun e w' => ∃ v0_ : Value, e = .returned (.agg #[v0_, .int .i64 r2, .int .i64 r3, .bool r4]) ∧ Kd.S (Kd.slice 5 (Kd.int .u8)) 22 w' w.heap.size (fun _ => True) v0_ r1 ∧ Below w.heap.size w w' := by
  unfold spec_l5Run.f at h
  by_cases hc : bytesOk l1 = true ∧ linkB a0 l1 l2 l3 a4 = true
  case neg => rw [if_neg hc] at h; cases h
  rw [if_pos hc] at h
  have h := Option.some.inj h
  simp only [Prod.mk.injEq] at h
  obtain ⟨rfl, rfl, rfl, rfl⟩ := h
  obtain ⟨h0, h4⟩ := linkB_win hc.2
  obtain ⟨win, rfl⟩ := Int.eq_ofNat_of_zero_le h0
  obtain ⟨m, rfl⟩ := Int.eq_ofNat_of_zero_le h4
  exact l5Run_ok win A1 c1 l1 A2 c2 l2 A3 c3 l3 m w hr1 hc1 hr2 hc2 hr3 hc3 (congrArg some hc.2) hc.1
end Go.Proofs.Ytookabfmbimnoaa.Lk

namespace Go.Proofs.Ytookabfmbimnoaa.Lk
open Go.RowKit Go.Proofs.YtookabfmbimnoaaW.PrintWords Go.Proofs.YtookabfmbimnoaaW.PrintLast Go.Proofs.YtookabfmbimnoaaW.PrintMore
set_option linter.unusedVariables false
set_option linter.unusedSimpArgs false

theorem specFatesG (l : List Int) (hl : l.length ≤ 9223372036854775807) : ∀ (m i k : Nat), i + m = l.length → m + 1 ≤ k → spec_FatesValid.l0 k l (i : Int) = some (decide (l.length ≤ 200) && (l.drop i).all fateOk)
  | m, i, 0, hi, hk => by omega
  | 0, i, k + 1, hi, hk => by
    rw [spec_FatesValid.l0, if_neg (by omega), List.drop_eq_nil_of_le (by omega)]
    simp only [List.all_nil, Bool.and_true, Option.some.injEq, decide_eq_decide]
    omega
  | m + 1, i, k + 1, hi, hk => by
    have e : wrap64 ((i : Int) + 1) = ((i + 1 : Nat) : Int) := by rw [w64 _ (by omega)]; simp
    have hil : i < l.length := by omega
    have hr : rd l (i : Int) = l[i] := by
      show l.getD _ 0 = _
      rw [List.getD_eq_getElem?_getD, Int.toNat_natCast, List.getElem?_eq_getElem hil]
      rfl
    have hd : l.drop i = l[i] :: l.drop (i + 1) := List.drop_eq_getElem_cons hil
    have e2 : spec_l1In.f l[i] 0 4 = some (fateOk l[i]) := by
      unfold spec_l1In.f fateOk
      by_cases h : l[i] ≥ 0
      · rw [if_pos h, decide_eq_true h]; rfl
      · rw [if_neg h, decide_eq_false h]; rfl
    rw [spec_FatesValid.l0, if_pos (by omega), if_pos (by omega), hr, e2, Option.bind_some, hd, List.all_cons]
    cases h : fateOk l[i] with
    | true => rw [if_pos rfl, e, specFatesG l hl m (i + 1) k (by omega) (by omega), Bool.true_and]
    | false => rw [if_neg (by simp), Bool.false_and, Bool.and_false]
theorem specIn_ok (n lo hi : Int) : spec_l1In.f n lo hi = some (decide (lo ≤ n) && decide (n ≤ hi)) := by
  unfold spec_l1In.f
  by_cases h : n ≥ lo
  · rw [if_pos h, decide_eq_true h]; rfl
  · rw [if_neg h, decide_eq_false h]; rfl

end Go.Proofs.Ytookabfmbimnoaa.Lk

namespace Go.Proofs.Ytookabfmbimnoaa.Lk
open Go.RowKit Go.Proofs.YtookabfmbimnoaaW.PrintWords Go.Proofs.YtookabfmbimnoaaW.PrintLast Go.Proofs.YtookabfmbimnoaaW.PrintMore
set_option linter.unusedVariables false
set_option linter.unusedSimpArgs false

def copyOk (k : Nat) (l : List (List Int)) : Bool := decide (l.length ≤ 1000000000) && l.all fun b => laws_toByteS.f k b == some b
def laws_toByteSS.f (k : Nat) (l : List (List Int)) : Option (List (List Int)) := if copyOk k l = true then some l else none
theorem set_next {l : List (List Int)} {j : Nat} (hj : j < l.length) : (l.take j ++ List.replicate (l.length - j) ([] : List Int)).set j (rd_L2 l (j : Int)) = l.take (j + 1) ++ List.replicate (l.length - (j + 1)) [] := by
  have h1 : (l.take j).length = j := by rw [List.length_take]; omega
  rw [List.set_append_right _ _ (by omega), h1, Nat.sub_self, show l.length - j = (l.length - (j + 1)) + 1 by omega, List.replicate_succ, List.set_cons_zero, List.take_succ_eq_append_getElem hj, rd_L2_get hj, List.append_assoc]
  rfl
set_option maxHeartbeats 8000000 in
set_option maxRecDepth 100000 in
theorem laws_toByteSS.calls (k : Nat) (A0 : Option Addr) (c0 : Nat) (l0 : List (List Int)) (r : List (List Int)) (w : World) (hr0 : Kd.C (Kd.slice 5 (Kd.int .u8)) w A0 l0.length l0) (hc0 : l0.length ≤ c0) (h : laws_toByteSS.f k l0 = some r) :
    Calls Try.prog 14 #[.slice A0 l0.length c0] w fun e w' => ∃ v0_ : Value, e = .returned v0_ ∧ Kd.S (Kd.slice 5 (Kd.int .u8)) 22 w' w.heap.size (fun _ => True) v0_ r ∧ Below w.heap.size w w' := by
  have HR0 := Aside0.mk hr0
  have HC0 := Aside0.mk hc0
  clear hr0 hc0
  unfold laws_toByteSS.f at h
  by_cases hk : copyOk k l0 = true
  case neg => rw [if_neg hk] at h; cases h
  rw [if_pos hk] at h
  obtain rfl := Option.some.inj h
  clear h
  unfold copyOk at hk
  simp only [Bool.and_eq_true, List.all_eq_true, beq_iff_eq, decide_eq_true_eq] at hk
  obtain ⟨hl, hk⟩ := hk
  have HK := Aside0.mk hk
  have HL := Aside0.mk hl
  clear hk
  have HB := Aside0.mk (Below.refl w.heap.size w)
  have h0l : (0 : Int) ≤ (l0.length : Int) := by omega
  go_enter Try.func14, Try.ntmps14
  go_wp2_with (first | ((with_reducible refine gate_dst (N := 7) rfl ?_); refine Kd.S_make (Kd.slice 5 (Kd.int .u8)) _ 22 rfl (N := 7) rfl 23 _ _ rfl (l0.length : Int) rfl rfl Try.underlying23 (.slice none 0 0) 24 info22 rfl (by decide) (by omega) ([] : List Int) (ok := fun _ => True) (okp := fun _ => True) (Kd.M_row (Kd.R_nil _ _ _ _ _)) (fun _ hk => hk) trivial (by omega) (by have := HL.out; omega) (Below.refl _ _) (Nat.le_refl _) ?_; intro v3 w4 ho5 hb hg_ hnew_; clear hg_ hnew_; have n0_ := Aside0.mk (Kd.S_lower ho5 (below_size (by repeat (first | (with_reducible first | exact HB.out | apply below_alloc | apply pw_below_drewN | apply below_drew1) | exact HB.out)))); have n1_ := Aside0.mk (below_step (by repeat (first | (with_reducible first | exact HB.out | apply below_alloc | apply pw_below_drewN | apply below_drew1) | exact HB.out)) hb); clear HB; have HO := n0_; have HB := n1_; clear n0_ n1_; clear hb ho5))
  go_loopg [4] l0.length (fun kq v4 w' => ∃ j : Nat, v4 = .int .i64 (j : Int) ∧ Aside0 (j + kq = l0.length) ∧ Aside0 (Kd.S (Kd.slice 5 (Kd.int .u8)) 22 w' w.heap.size (fun _ => True) v3 (l0.take j ++ List.replicate (l0.length - j) [])) ∧ Aside0 (Below w.heap.size w w'))
  case atStart => exact ⟨0, rfl, ⟨by omega⟩, ⟨by rw [List.take_zero, List.nil_append, Nat.sub_zero]; rw [Int.toNat_natCast] at HO; exact (by (with_reducible repeat (first | apply Kd.S_alloc | apply Kd.S_drewN | apply Kd.S_drew)); exact HO.out)⟩, ⟨(by repeat (first | (with_reducible first | exact HB.out | apply below_alloc | apply pw_below_drewN | apply below_drew1) | exact HB.out))⟩⟩
  case round =>
    clear HB HO
    obtain ⟨j, rfl, HJ, HO, HB⟩ := hrel
    cases gk with
    | zero =>
      have hj : j = l0.length := by have := HJ.out; omega
      subst hj
      have c1 : decide ((l0.length : Int) < l0.length) = false := decide_eq_false (by omega)
      rw [Nat.sub_self, List.replicate_zero, List.append_nil, List.take_length] at HO
      go_wp2
      go_ret
      exact ⟨_, rfl, (by (with_reducible repeat (first | apply Kd.S_alloc | apply Kd.S_drewN | apply Kd.S_drew)); exact HO.out), (by repeat (first | (with_reducible first | exact HB.out | apply below_alloc | apply pw_below_drewN | apply below_drew1) | exact HB.out))⟩
    | succ k1 =>
      have hj : j < l0.length := by have := HJ.out; omega
      have c1 : decide ((j : Int) < l0.length) = true := decide_eq_true (by omega)
      have c2 : ((0 : Int) ≤ (j : Int)) = True := eq_true (by omega)
      have c3 : ((j : Int) < l0.length) = True := eq_true (by omega)
      have hbig2 : l0.length ≤ 1000000000 := HL.out
      obtain ⟨ad, Aj, cj, hA, hx, hcj, hrj⟩ := at_L2 (Kd.C_below HR0.out HB.out) (j : Int) (by omega) (by omega)
      subst hA
      rw [Int.toNat_natCast] at hx
      have HRJ := Aside0.mk hrj
      have HCJ := Aside0.mk hcj
      have HT := Aside0.mk (set_next hj)
      have HF := Aside0.mk (HK.out (rd_L2 l0 (j : Int)) (by rw [rd_L2_get hj]; exact List.getElem_mem hj))
      have hlen : (l0.take j ++ List.replicate (l0.length - j) ([] : List Int)).length = l0.length := by rw [List.length_append, List.length_take, List.length_replicate]; omega
      have HLEN := Aside0.mk hlen
      obtain ⟨g, cap, ev, hgb, _⟩ := Kd.S_form HO.out (by omega)
      rw [hlen] at ev
      subst ev
      obtain ⟨oki, cc, hcl, hM, hcc, hfr, hoki, hH⟩ := Kd.S_elem HO.out [] (j : Int) (by omega) (by omega)
      have HH := Aside0.mk (Kd.H_widen hH)
      have hcell : wr.cell? ⟨g, j, none⟩ = some (.slice none 0 0) ∨ True := .inr trivial
      clear hcell hH hM hcc
      have hf0 := hfr 0
      rw [Int.toNat_natCast, Nat.add_zero] at hf0
      have hsz : (Kd.slice 5 (Kd.int .u8)).sz = 1 := rfl
      rw [hsz, Nat.mul_one] at hf0
      clear hsz hfr
      have HOKI := Aside0.mk hoki
      have HCL := Aside0.mk hcl
      have HGB := Aside0.mk hgb
      have HBS := Aside0.mk (below_size HB.out)
      clear hrj hcj hlen hoki hcl HO
      generalize rd_L2 l0 (j : Int) = row at HRJ HCJ HT HF hx
      generalize l0.take j ++ List.replicate (l0.length - j) ([] : List Int) = cur at HT HLEN HH
      go_wp2_with (first
      | ((with_reducible refine gate_callee (f := 39) rfl ?_); refine goesL_ (some 20) rfl rfl Try.func39 (by kernel_rfl) rfl #[.slice Aj row.length cj] rfl (by (try simp only [List.map_toArray, List.map_cons, List.map_nil]); first | done | rfl) ?_; (with_reducible refine (laws_toByteS.calls k _ _ row row _ ?s0 HCJ.out HF.out).mono ?_); (case s0 => repeat (first | exact HRJ.out | (with_reducible refine Kd.C_alloc ?_ _) | (with_reducible refine Kd.C_drewN ?_ _) | (with_reducible refine Kd.C_drew ?_))); rintro e w' ⟨ve, rfl, he, hb⟩; refine ⟨_, rfl, ?_⟩; have hsz := HB.out.size; have n0_ := Aside0.mk (Kd.H_below HH.out hb); have n1_ := Aside0.mk (below_step HB.out hb); have n2_ := Aside0.mk he; clear HH HB; have HH := n0_; have HB := n1_; have HE := n2_; clear n0_ n1_ n2_ hb he hsz; obtain ⟨Ae, ce, ee⟩ := Kd.R_slice HE.out; subst ee)
      | ((with_reducible refine gate_store (t := 22) (p := 21) (v := .tmp 20) rfl ?_); (refine Kd.H_store (Kd.slice 5 (Kd.int .u8)) (w0 := w) w.heap.size rfl rfl 22 (.tmp 21) (.tmp 20) rfl 22 (g := g) (n := l0.length) (cap := cap) (j : Int) 0 cur row (.slice Ae row.length ce) [.slice Ae row.length ce] cc (fun _ => True) _ (fun k_ => wr.heap.size ≤ k_) rfl (by first | rfl | (show _ = j * 1 + 0; omega)) rfl rfl (by rw [show (Try.prog.info? 22).map (·.size) = some 1 from rfl]; rfl) ?aOne HH.out (by omega) (by omega) (Nat.le_refl 1) ?aM ?aP HB.out ?_); (case aOne => intro q hq; rw [List.mem_singleton] at hq; subst hq; rfl); (case aM => have hcc1 : cc.length = 1 := HCL.out; rw [show cc.take 0 = [] from rfl, List.nil_append, List.drop_eq_nil_of_le (by rw [hcc1]; exact Nat.le_refl 1), List.append_nil]; exact Kd.M_row (Kd.R_lower (Kd.R_mono (Kd.R_bound HE.out) (fun _ hk => hk.2.1)) HBS.out)); (case aP => exact fun _ hk => .inr ⟨trivial, hk⟩); (intro w8 ho hb hg); have n0_ := Aside0.mk ho; have n1_ := Aside0.mk hb; clear HH HB; have HO := n0_; have HB := n1_; clear n0_ n1_ ho hb hg))
      go_roundg k1
      case measure => omega
      case rel => exact ⟨j + 1, by go_num, ⟨by have := HJ.out; omega⟩, ⟨by rw [← HT.out]; exact (by (with_reducible repeat (first | apply Kd.S_alloc | apply Kd.S_drewN | apply Kd.S_drew)); exact HO.out)⟩, ⟨(by repeat (first | (with_reducible first | exact HB.out | apply below_alloc | apply pw_below_drewN | apply below_drew1) | exact HB.out))⟩⟩
end Go.Proofs.Ytookabfmbimnoaa.Lk

namespace Go.Proofs.Ytookabfmbimnoaa.Lk
open Go.RowKit Go.Proofs.YtookabfmbimnoaaW.PrintWords Go.Proofs.YtookabfmbimnoaaW.PrintLast Go.Proofs.YtookabfmbimnoaaW.PrintMore
attribute [local go_sem] max2_int min2_int max_two min_two max_three min_three max_four min_four   -- for this text's walks alone
set_option linter.unusedVariables false
set_option linter.unusedSimpArgs false

def laws_toIntS.l0 : Nat → List Int → List Int → Int → Option (List Int)
  | 0, _, _, _ => none
  | k + 1, x0, x3, x4 => if x4 < (x0.length : Int) then (if 0 ≤ x4 then (if x4 < (x3.length : Int) then (laws_toIntS.l0 k x0 (x3.set (x4 : Int).toNat (rd x0 x4)) (wrap64 (x4 + 1))) else (none)) else (none)) else (some x3)
def laws_toIntS.f (k : Nat) (l0 : List Int) : Option (List Int) := if 0 ≤ (l0.length : Int) then (if ((l0.length : Int) : Int).toNat ≤ 35184372088832 then (laws_toIntS.l0 k l0 (List.replicate ((l0.length : Int) : Int).toNat 0) 0) else (none)) else (none)
set_option maxHeartbeats 8000000 in
set_option maxRecDepth 100000 in
theorem laws_toIntS.calls (k : Nat) (A0 : Option Addr) (c0 : Nat) (l0 : List Int) (r : List Int) (w : World) (hr0 : Kd.C (Kd.int .i64) w A0 l0.length l0) (hc0 : l0.length ≤ c0) (h : laws_toIntS.f k l0 = some r) :
    Calls Try.prog 15 #[.slice A0 l0.length c0] w fun e w' => ∃ v0_ : Value, e = .returned (v0_) ∧ Kd.R (Kd.int .i64) 3 w' w.heap.size (fun _ => True) v0_ r ∧ Below w.heap.size w w' := by
  have HR0 := Aside0.mk hr0
  have HC0 := Aside0.mk hc0
  clear hr0 hc0
  have HB := Aside0.mk (Below.refl w.heap.size w)
  have H : (if 0 ≤ (l0.length : Int) then (if ((l0.length : Int) : Int).toNat ≤ 35184372088832 then (laws_toIntS.l0 k l0 (List.replicate ((l0.length : Int) : Int).toNat 0) 0) else (none)) else (none)) = some r := h
  clear h
  by_cases c2 : 0 ≤ (l0.length : Int)
  · rw [if_pos c2] at H
    have c2b0 := eq_true c2
    have c2b1 : decide (0 ≤ (l0.length : Int)) = true := decide_eq_true c2
    clear c2
    by_cases c3 : ((l0.length : Int) : Int).toNat ≤ 35184372088832
    · rw [if_pos c3] at H
      have c3b0 := eq_true c3
      have c3b1 : decide (((l0.length : Int) : Int).toNat ≤ 35184372088832) = true := decide_eq_true c3
      clear c3
      obtain ⟨y467, hy467⟩ : ∃ y_ : List Int, y_ = (List.replicate ((l0.length : Int) : Int).toNat 0) := ⟨_, rfl⟩
      replace H : (laws_toIntS.l0 k l0 y467 0) = some r := by first | (rw [hy467]; with_reducible exact H) | (have H2_ := (Option.bind_some _ _).symm.trans H; rw [hy467]; with_reducible exact H2_) | (have H2_ := (Option.bind_some _ _).symm.trans H; with_reducible exact H2_) | with_reducible exact H | (rw [hy467]; exact H) | exact H
      have Ny467 := Aside0.mk hy467
      clear hy467
      have H' := Aside0.mk H
      clear H
      go_enter Try.func15, Try.ntmps15
      go_wp2_with (first | ((with_reducible refine gate_dst (N := 7) rfl ?_); refine Kd.R_make (Kd.int .i64) _ 3 rfl (N := 7) rfl 24 _ _ rfl (l0.length : Int) rfl rfl Try.underlying24 (.int .i64 0) 8 info3 rfl (by decide) (by omega) 0 (ok := fun _ => True) (okp := fun _ => True) rfl (fun _ hk => hk) trivial (of_decide_eq_true (by first | (with_reducible assumption) | assumption)) (Nat.le_trans (Nat.mul_le_mul_right _ (of_decide_eq_true (by first | (with_reducible assumption) | assumption) : (l0.length : Int).toNat ≤ 35184372088832)) (by omega)) (Below.refl _ _) (Nat.le_refl _) ?_; intro v468 w4 ho5 hb hg_ hnew_; clear hg_ hnew_; (first | rw [← Ny467.out] at ho5 | (simp only [Int.reduceToNat] at ho5; rw [← Ny467.out] at ho5)); have n0_ := Aside0.mk (Kd.R_lower ho5 (below_size (by repeat (first | (with_reducible first | exact HB.out | apply below_alloc | apply pw_below_drewN | apply below_drew1) | exact HB.out)))); have n1_ := Aside0.mk (below_step (by repeat (first | (with_reducible first | exact HB.out | apply below_alloc | apply pw_below_drewN | apply below_drew1) | exact HB.out)) hb); clear HB; have HO469 := n0_; have HB := n1_; clear n0_ n1_; clear hb ho5))
      go_loopg [4] k (fun kq v4 w' => ∃ (x3_1 : List Int) (x4_1 : Int), v4 = .int .i64 x4_1 ∧ Aside0 (laws_toIntS.l0 kq l0 x3_1 x4_1 = some r) ∧ Aside0 (kq ≤ k) ∧ Aside0 (Kd.R (Kd.int .i64) 3 w' w.heap.size (fun _ => True) v468 x3_1) ∧ Aside0 (Below w.heap.size w w'))
      case atStart => exact ⟨(y467), (0), (by first | rfl | (simp; done) | (simp [*]; done)), H', ⟨Nat.le_refl _⟩, ⟨by (with_reducible repeat (first | apply Kd.R_alloc | apply Kd.R_drewN | apply Kd.R_drew)); exact HO469.out⟩, ⟨by repeat (first | (with_reducible first | exact HB.out | apply below_alloc | apply pw_below_drewN | apply below_drew1) | exact HB.out)⟩⟩
      case round =>
        clear H'
        try clear c1
        try clear c2
        try clear c2b0
        try clear c2b1
        try clear p2
        try clear c3
        try clear c3b0
        try clear c3b1
        obtain ⟨x3_1, x4_1, rfl, HA, HK1, HO_3, HB⟩ := hrel
        cases gk with
        | zero => exact absurd HA.out (by simp [laws_toIntS.l0])
        | succ k1 =>
          have H := HA.out
          clear HA
          simp only [laws_toIntS.l0] at H
          by_cases c6 : x4_1 < (l0.length : Int)
          · rw [if_pos c6] at H
            have c6b0 : decide (x4_1 < (l0.length : Int)) = true := decide_eq_true c6
            clear c6
            by_cases c7 : 0 ≤ x4_1
            · rw [if_pos c7] at H
              have c7b0 : decide (0 ≤ x4_1) = true := decide_eq_true c7
              clear c7
              by_cases c8 : x4_1 < (x3_1.length : Int)
              · rw [if_pos c8] at H
                have c8b0 : decide (x4_1 < (x3_1.length : Int)) = true := decide_eq_true c8
                clear c8
                obtain ⟨y471, hy471⟩ : ∃ y_ : List Int, y_ = (x3_1.set (x4_1 : Int).toNat (rd l0 x4_1)) := ⟨_, rfl⟩
                replace H : (laws_toIntS.l0 k1 l0 y471 (wrap64 (x4_1 + 1))) = some r := by first | (rw [hy471]; with_reducible exact H) | (have H2_ := (Option.bind_some _ _).symm.trans H; rw [hy471]; with_reducible exact H2_) | (have H2_ := (Option.bind_some _ _).symm.trans H; with_reducible exact H2_) | with_reducible exact H | (rw [hy471]; exact H) | exact H
                have Ny471 := Aside0.mk hy471
                clear hy471
                have H' := Aside0.mk H
                clear H
                have p470 : 0 ≤ (x4_1 : Int) := of_decide_eq_true (by first | (with_reducible assumption) | assumption)
                have q470 : x4_1 < (l0.length : Int) := of_decide_eq_true (by first | (with_reducible assumption) | assumption)
                obtain ⟨ad470, e470, hx470_0⟩ := Kd.at_int HR0.out x4_1 p470 q470
                cases e470
                replace hx470_0 := (HB.out.cell (World.block_lt_of_cell? w _ hx470_0)).trans hx470_0
                replace p470 := eq_true p470
                replace q470 := eq_true q470
                have p9 : 0 ≤ (x4_1 : Int) := of_decide_eq_true (by first | (with_reducible assumption) | assumption)
                have q9 : (x4_1 : Int) < ((x3_1.length : Int) : Int) := of_decide_eq_true (by first | (with_reducible assumption) | assumption)
                obtain ⟨go9, co9, eo9, gb9, gl9, cl9, HG9⟩ := Kd.R_form HO_3.out (by omega)
                (first | cases eo9 | (injection eo9 with ea_ en_ ec_; (first | subst ea_ | (injection ea_ with ea_; subst ea_)); subst ec_; clear en_))
                have GB9 := Aside0.mk gb9
                have GG9 := Aside0.mk HG9
                clear gb9 gl9 HG9
                obtain ⟨hx9_0, hf9_0⟩ := Kd.R_celln 0 HO_3.out (x4_1 : Int) p9 q9
                replace p9 := eq_true p9
                replace q9 := eq_true q9
                have HP10 := Kd.R_putg HO_3.out (x4_1 : Int) (rd l0 x4_1)
                go_wp2_with (first | ((with_reducible refine gate_store (t := 3) (p := 20) rfl ?_); refine store_event (t := 3) (p := 20) (v := ?vo_w11) (w1 := (wr.setCell ⟨go9, (x4_1 : Int).toNat, none⟩ (.int .i64 (rd l0 x4_1)))) ?hg ?ho ?hn ?hr ?_; (case ho => rfl); (case hg => rfl); (case hn => rfl); (case hr => first | (go_simp; done) | (go_simp; rfl)); intro w11 hw; have hg : wr.grownBy w11 (some go9) := (by rw [hw]; exact HP10.2); have hp_ : Kd.R (Kd.int .i64) 3 w11 w.heap.size (fun _ => True) (.slice (some ⟨go9, 0, none⟩) x3_1.length co9) y471 := (by rw [hw, Ny471.out]; exact HP10.1); clear HP10; have n0_ := Aside0.mk (hp_); have n1_ := Aside0.mk ((by rw [hw]; exact below_set (HB.out) GB9.out : Below w.heap.size w w11)); clear HO_3; clear HB; have HO_3 := n0_; have HB := n1_; clear n0_ n1_; clear hg hw hp_))
                go_roundg k1
                case measure => have := HK1.out; omega
                case rel => exact ⟨(y471), (wrap64 (x4_1 + 1)), (by first | rfl | (simp; done) | (simp [*]; done)), H', ⟨by have := HK1.out; omega⟩, ⟨by (with_reducible repeat (first | apply Kd.R_alloc | apply Kd.R_drewN | apply Kd.R_drew)); exact HO_3.out⟩, ⟨by repeat (first | (with_reducible first | exact HB.out | apply below_alloc | apply pw_below_drewN | apply below_drew1) | exact HB.out)⟩⟩
              · rw [if_neg c8] at H
                exact absurd H (by simp)
            · rw [if_neg c7] at H
              exact absurd H (by simp)
          · rw [if_neg c6] at H
            have c6b0 : decide (x4_1 < (l0.length : Int)) = false := decide_eq_false c6
            clear c6
            obtain rfl := Option.some.inj H
            go_wp2
            go_ret
            exact ⟨_, by first | rfl | (simp [errW_none, errW_some] <;> rfl) | (simp [*, errW_none, errW_some] <;> rfl), by (with_reducible repeat (first | apply Kd.R_alloc | apply Kd.R_drewN | apply Kd.R_drew)); exact HO_3.out, by repeat (first | (with_reducible first | exact HB.out | apply below_alloc | apply pw_below_drewN | apply below_drew1) | exact HB.out)⟩
    · rw [if_neg c3] at H
      exact absurd H (by simp)
  · rw [if_neg c2] at H
    exact absurd H (by simp)

def laws_eqByteS.l0 : Nat → List Int → List Int → Int → Option (Bool)
  | 0, _, _, _ => none
  | k + 1, x0, x1, x5 => if x5 < (x0.length : Int) then (if 0 ≤ x5 then (if x5 < (x1.length : Int) then (if (rd x0 x5) = (rd x1 x5) then (laws_eqByteS.l0 k x0 x1 (wrap64 (x5 + 1))) else (some false)) else (none)) else (none)) else (some true)
def laws_eqByteS.f (k : Nat) (l0 : List Int) (l1 : List Int) : Option (Bool) := if (l0.length : Int) = (l1.length : Int) then (laws_eqByteS.l0 k l0 l1 0) else (some false)
set_option maxHeartbeats 8000000 in
set_option maxRecDepth 100000 in
theorem laws_eqByteS.calls (k : Nat) (A0 : Option Addr) (c0 : Nat) (l0 : List Int) (A1 : Option Addr) (c1 : Nat) (l1 : List Int) (r : Bool) (w : World) (hr0 : Kd.C (Kd.int .u8) w A0 l0.length l0) (hc0 : l0.length ≤ c0) (hr1 : Kd.C (Kd.int .u8) w A1 l1.length l1) (hc1 : l1.length ≤ c1) (h : laws_eqByteS.f k l0 l1 = some r) :
    Calls Try.prog 40 #[.slice A0 l0.length c0, .slice A1 l1.length c1] w fun e w' => e = .returned (.bool r) ∧ Drawn0 w w' := by
  have HR0 := Aside0.mk hr0
  have HC0 := Aside0.mk hc0
  clear hr0 hc0
  have HR1 := Aside0.mk hr1
  have HC1 := Aside0.mk hc1
  clear hr1 hc1
  have H : (if (l0.length : Int) = (l1.length : Int) then (laws_eqByteS.l0 k l0 l1 0) else (some false)) = some r := h
  clear h
  by_cases c3 : (l0.length : Int) = (l1.length : Int)
  · rw [if_pos c3] at H
    have c3b0 : ((l0.length : Int) == (l1.length : Int)) = true := beq_iff_eq.mpr c3
    have c3b1 : ((l0.length : Int) != (l1.length : Int)) = false := bne_eq_false_iff_eq.mpr c3
    have c3b2 : (l0.length == l1.length) = true := by first | simpa using c3 | (simp at c3 ⊢; omega)
    clear c3
    have H' := Aside0.mk H
    clear H
    go_enter Try.func40, Try.ntmps40
    go_wp2
    repeat (go_quiet (fail); try go_wp2)
    go_loopg [5] k (fun kq v5 w' => ∃ (x5_1 : Int), v5 = .int .i64 x5_1 ∧ Aside0 (laws_eqByteS.l0 kq l0 l1 x5_1 = some r) ∧ Aside0 (kq ≤ k) ∧ Drawn0 w w')
    case atStart => exact ⟨(0), (by first | rfl | (simp; done) | (simp [*]; done)), H', ⟨Nat.le_refl _⟩, by repeat (first | exact Drawn0.refl _ | apply Drawn0.step)⟩
    case round =>
      clear H'
      try clear c1
      try clear p2
      try clear c3
      try clear c3b0
      try clear c3b1
      try clear c3b2
      obtain ⟨x5_1, rfl, HA, HK1, ⟨m1, rfl⟩⟩ := hrel
      cases gk with
      | zero => exact absurd HA.out (by simp [laws_eqByteS.l0])
      | succ k1 =>
        have H := HA.out
        clear HA
        simp only [laws_eqByteS.l0] at H
        by_cases c4 : x5_1 < (l0.length : Int)
        · rw [if_pos c4] at H
          have c4b0 : decide (x5_1 < (l0.length : Int)) = true := decide_eq_true c4
          clear c4
          by_cases c5 : 0 ≤ x5_1
          · rw [if_pos c5] at H
            have c5b0 : decide (0 ≤ x5_1) = true := decide_eq_true c5
            clear c5
            by_cases c6 : x5_1 < (l1.length : Int)
            · rw [if_pos c6] at H
              have c6b0 : decide (x5_1 < (l1.length : Int)) = true := decide_eq_true c6
              clear c6
              by_cases c7 : (rd l0 x5_1) = (rd l1 x5_1)
              · rw [if_pos c7] at H
                have c7b0 : ((rd l0 x5_1) == (rd l1 x5_1)) = true := beq_iff_eq.mpr c7
                have c7b1 : ((rd l0 x5_1) != (rd l1 x5_1)) = false := bne_eq_false_iff_eq.mpr c7
                clear c7
                have H' := Aside0.mk H
                clear H
                have p480 : 0 ≤ (x5_1 : Int) := of_decide_eq_true (by first | (with_reducible assumption) | assumption)
                have q480 : x5_1 < (l0.length : Int) := of_decide_eq_true (by first | (with_reducible assumption) | assumption)
                obtain ⟨ad480, e480, hx480_0⟩ := Kd.at_int HR0.out x5_1 p480 q480
                cases e480
                replace p480 := eq_true p480
                replace q480 := eq_true q480
                have p481 : 0 ≤ (x5_1 : Int) := of_decide_eq_true (by first | (with_reducible assumption) | assumption)
                have q481 : x5_1 < (l1.length : Int) := of_decide_eq_true (by first | (with_reducible assumption) | assumption)
                obtain ⟨ad481, e481, hx481_0⟩ := Kd.at_int HR1.out x5_1 p481 q481
                cases e481
                replace p481 := eq_true p481
                replace q481 := eq_true q481
                go_wp2
                repeat (go_quiet (fail); try go_wp2)
                go_roundg k1
                case measure => have := HK1.out; omega
                case rel => exact ⟨(wrap64 (x5_1 + 1)), (by first | rfl | (simp; done) | (simp [*]; done)), H', ⟨by have := HK1.out; omega⟩, by repeat (first | exact Drawn0.refl _ | apply Drawn0.step)⟩
              · rw [if_neg c7] at H
                have c7b0 : ((rd l0 x5_1) == (rd l1 x5_1)) = false := beq_eq_false_iff_ne.mpr c7
                have c7b1 : ((rd l0 x5_1) != (rd l1 x5_1)) = true := bne_iff_ne.mpr c7
                obtain rfl := Option.some.inj H
                have p480 : 0 ≤ (x5_1 : Int) := of_decide_eq_true (by first | (with_reducible assumption) | assumption)
                have q480 : x5_1 < (l0.length : Int) := of_decide_eq_true (by first | (with_reducible assumption) | assumption)
                obtain ⟨ad480, e480, hx480_0⟩ := Kd.at_int HR0.out x5_1 p480 q480
                cases e480
                replace p480 := eq_true p480
                replace q480 := eq_true q480
                have p481 : 0 ≤ (x5_1 : Int) := of_decide_eq_true (by first | (with_reducible assumption) | assumption)
                have q481 : x5_1 < (l1.length : Int) := of_decide_eq_true (by first | (with_reducible assumption) | assumption)
                obtain ⟨ad481, e481, hx481_0⟩ := Kd.at_int HR1.out x5_1 p481 q481
                cases e481
                replace p481 := eq_true p481
                replace q481 := eq_true q481
                go_wp2
                repeat (go_quiet (fail); try go_wp2)
                go_ret
                exact ⟨by first | rfl | (simp; done) | (simp [*]; done), by repeat (first | exact Drawn0.refl _ | apply Drawn0.step)⟩
            · rw [if_neg c6] at H
              exact absurd H (by simp)
          · rw [if_neg c5] at H
            exact absurd H (by simp)
        · rw [if_neg c4] at H
          have c4b0 : decide (x5_1 < (l0.length : Int)) = false := decide_eq_false c4
          clear c4
          obtain rfl := Option.some.inj H
          go_wp2
          repeat (go_quiet (fail); try go_wp2)
          go_ret
          exact ⟨by first | rfl | (simp; done) | (simp [*]; done), by repeat (first | exact Drawn0.refl _ | apply Drawn0.step)⟩
  · rw [if_neg c3] at H
    have c3b0 : ((l0.length : Int) == (l1.length : Int)) = false := beq_eq_false_iff_ne.mpr c3
    have c3b1 : ((l0.length : Int) != (l1.length : Int)) = true := bne_iff_ne.mpr c3
    have c3b2 : (l0.length == l1.length) = false := by first | simpa using c3 | (simp at c3 ⊢; omega)
    obtain rfl := Option.some.inj H
    go_enter Try.func40, Try.ntmps40
    go_wp2
    repeat (go_quiet (fail); try go_wp2)
    go_ret
    exact ⟨by first | rfl | (simp; done) | (simp [*]; done), by repeat (first | exact Drawn0.refl _ | apply Drawn0.step)⟩

def laws_eqByteSS.l0 : Nat → List (List Int) → List (List Int) → Int → Option (Bool)
  | 0, _, _, _ => none
  | k + 1, x0, x1, x5 => if x5 < (x0.length : Int) then (if 0 ≤ x5 then (if x5 < (x1.length : Int) then ((laws_eqByteS.f k (rd_L2 x0 x5) (rd_L2 x1 x5)).bind fun t484 => (if t484 = true then (laws_eqByteSS.l0 k x0 x1 (wrap64 (x5 + 1))) else (some false))) else (none)) else (none)) else (some true)
def laws_eqByteSS.f (k : Nat) (l0 : List (List Int)) (l1 : List (List Int)) : Option (Bool) := if (l0.length : Int) = (l1.length : Int) then (laws_eqByteSS.l0 k l0 l1 0) else (some false)
set_option maxHeartbeats 8000000 in
set_option maxRecDepth 100000 in
theorem laws_eqByteSS.calls (k : Nat) (A0 : Option Addr) (c0 : Nat) (l0 : List (List Int)) (A1 : Option Addr) (c1 : Nat) (l1 : List (List Int)) (r : Bool) (w : World) (hr0 : Kd.C (Kd.slice 5 (Kd.int .u8)) w A0 l0.length l0) (hc0 : l0.length ≤ c0) (hr1 : Kd.C (Kd.slice 5 (Kd.int .u8)) w A1 l1.length l1) (hc1 : l1.length ≤ c1) (h : laws_eqByteSS.f k l0 l1 = some r) :
    Calls Try.prog 17 #[.slice A0 l0.length c0, .slice A1 l1.length c1] w fun e w' => e = .returned (.bool r) ∧ Drawn0 w w' := by
  have HR0 := Aside0.mk hr0
  have HC0 := Aside0.mk hc0
  clear hr0 hc0
  have HR1 := Aside0.mk hr1
  have HC1 := Aside0.mk hc1
  clear hr1 hc1
  have H : (if (l0.length : Int) = (l1.length : Int) then (laws_eqByteSS.l0 k l0 l1 0) else (some false)) = some r := h
  clear h
  by_cases c3 : (l0.length : Int) = (l1.length : Int)
  · rw [if_pos c3] at H
    have c3b0 : ((l0.length : Int) == (l1.length : Int)) = true := beq_iff_eq.mpr c3
    have c3b1 : ((l0.length : Int) != (l1.length : Int)) = false := bne_eq_false_iff_eq.mpr c3
    have c3b2 : (l0.length == l1.length) = true := by first | simpa using c3 | (simp at c3 ⊢; omega)
    clear c3
    have H' := Aside0.mk H
    clear H
    go_enter Try.func17, Try.ntmps17
    go_wp2
    repeat (go_quiet (fail); try go_wp2)
    go_loopg [5] k (fun kq v5 w' => ∃ (x5_1 : Int), v5 = .int .i64 x5_1 ∧ Aside0 (laws_eqByteSS.l0 kq l0 l1 x5_1 = some r) ∧ Aside0 (kq ≤ k) ∧ Drawn0 w w')
    case atStart => exact ⟨(0), (by first | rfl | (simp; done) | (simp [*]; done)), H', ⟨Nat.le_refl _⟩, by repeat (first | exact Drawn0.refl _ | apply Drawn0.step)⟩
    case round =>
      clear H'
      try clear c1
      try clear p2
      try clear c3
      try clear c3b0
      try clear c3b1
      try clear c3b2
      obtain ⟨x5_1, rfl, HA, HK1, ⟨m1, rfl⟩⟩ := hrel
      cases gk with
      | zero => exact absurd HA.out (by simp [laws_eqByteSS.l0])
      | succ k1 =>
        have H := HA.out
        clear HA
        simp only [laws_eqByteSS.l0] at H
        by_cases c4 : x5_1 < (l0.length : Int)
        · rw [if_pos c4] at H
          have c4b0 : decide (x5_1 < (l0.length : Int)) = true := decide_eq_true c4
          clear c4
          by_cases c5 : 0 ≤ x5_1
          · rw [if_pos c5] at H
            have c5b0 : decide (0 ≤ x5_1) = true := decide_eq_true c5
            clear c5
            by_cases c6 : x5_1 < (l1.length : Int)
            · rw [if_pos c6] at H
              have c6b0 : decide (x5_1 < (l1.length : Int)) = true := decide_eq_true c6
              clear c6
              replace H := Option.bind_eq_some_iff.mp H
              obtain ⟨t484, A70, H⟩ := H
              replace H : (if t484 = true then (laws_eqByteSS.l0 k1 l0 l1 (wrap64 (x5_1 + 1))) else (some false)) = some r := H
              have A7 := Aside0.mk A70
              clear A70
              by_cases c8 : t484 = true
              · subst c8
                have H1 : (laws_eqByteSS.l0 k1 l0 l1 (wrap64 (x5_1 + 1))) = some r := by rw [if_pos rfl] at H; exact H
                clear H
                have H := H1
                clear H1
                have H' := Aside0.mk H
                clear H
                have p482 : 0 ≤ (x5_1 : Int) := of_decide_eq_true (by first | (with_reducible assumption) | assumption)
                have q482 : x5_1 < (l0.length : Int) := of_decide_eq_true (by first | (with_reducible assumption) | assumption)
                obtain ⟨ad482, A482_0, c482_0, e482, hx482_0, hl482_0, hi482_0⟩ := at_L2 HR0.out x5_1 p482 q482
                cases e482
                have HR482_0 := Aside0.mk hi482_0
                have HC482_0 := Aside0.mk hl482_0
                clear hi482_0 hl482_0
                replace p482 := eq_true p482
                replace q482 := eq_true q482
                have p483 : 0 ≤ (x5_1 : Int) := of_decide_eq_true (by first | (with_reducible assumption) | assumption)
                have q483 : x5_1 < (l1.length : Int) := of_decide_eq_true (by first | (with_reducible assumption) | assumption)
                obtain ⟨ad483, A483_0, c483_0, e483, hx483_0, hl483_0, hi483_0⟩ := at_L2 HR1.out x5_1 p483 q483
                cases e483
                have HR483_0 := Aside0.mk hi483_0
                have HC483_0 := Aside0.mk hl483_0
                clear hi483_0 hl483_0
                replace p483 := eq_true p483
                replace q483 := eq_true q483
                go_wp2_with (first | (go_at_call 40; (with_reducible refine (laws_eqByteS.calls k1 _ _ (rd_L2 l0 x5_1) _ _ (rd_L2 l1 x5_1) true _ ?side1 ?side2 ?side3 ?side4 A7.out).mono ?_); (case side1 => repeat (first | exact HR482_0.out | (with_reducible refine Kd.C_alloc ?_ _) | (with_reducible refine Kd.C_drewN ?_ _) | (with_reducible refine Kd.C_drew ?_))); (case side2 => exact HC482_0.out); (case side3 => repeat (first | exact HR483_0.out | (with_reducible refine Kd.C_alloc ?_ _) | (with_reducible refine Kd.C_drewN ?_ _) | (with_reducible refine Kd.C_drew ?_))); (case side4 => exact HC483_0.out); rintro e w' ⟨rfl, ⟨nd, rfl⟩⟩; (try first | exact ⟨rfl, _, World.drewN_drewN _ _ _⟩ | exact ⟨rfl, _, Eq.trans (World.drewN_drewN _ _ _) (congrArg (World.drewN _) (Nat.add_assoc _ _ _))⟩)))
                repeat (go_quiet (first | (go_at_call 40; (with_reducible refine (laws_eqByteS.calls k1 _ _ (rd_L2 l0 x5_1) _ _ (rd_L2 l1 x5_1) true _ ?side1 ?side2 ?side3 ?side4 A7.out).mono ?_); (case side1 => repeat (first | exact HR482_0.out | (with_reducible refine Kd.C_alloc ?_ _) | (with_reducible refine Kd.C_drewN ?_ _) | (with_reducible refine Kd.C_drew ?_))); (case side2 => exact HC482_0.out); (case side3 => repeat (first | exact HR483_0.out | (with_reducible refine Kd.C_alloc ?_ _) | (with_reducible refine Kd.C_drewN ?_ _) | (with_reducible refine Kd.C_drew ?_))); (case side4 => exact HC483_0.out); rintro e w' ⟨rfl, ⟨nd, rfl⟩⟩; (try first | exact ⟨rfl, _, World.drewN_drewN _ _ _⟩ | exact ⟨rfl, _, Eq.trans (World.drewN_drewN _ _ _) (congrArg (World.drewN _) (Nat.add_assoc _ _ _))⟩))); try go_wp2_with (first | (go_at_call 40; (with_reducible refine (laws_eqByteS.calls k1 _ _ (rd_L2 l0 x5_1) _ _ (rd_L2 l1 x5_1) true _ ?side1 ?side2 ?side3 ?side4 A7.out).mono ?_); (case side1 => repeat (first | exact HR482_0.out | (with_reducible refine Kd.C_alloc ?_ _) | (with_reducible refine Kd.C_drewN ?_ _) | (with_reducible refine Kd.C_drew ?_))); (case side2 => exact HC482_0.out); (case side3 => repeat (first | exact HR483_0.out | (with_reducible refine Kd.C_alloc ?_ _) | (with_reducible refine Kd.C_drewN ?_ _) | (with_reducible refine Kd.C_drew ?_))); (case side4 => exact HC483_0.out); rintro e w' ⟨rfl, ⟨nd, rfl⟩⟩; (try first | exact ⟨rfl, _, World.drewN_drewN _ _ _⟩ | exact ⟨rfl, _, Eq.trans (World.drewN_drewN _ _ _) (congrArg (World.drewN _) (Nat.add_assoc _ _ _))⟩))))
                go_roundg k1
                case measure => have := HK1.out; omega
                case rel => exact ⟨(wrap64 (x5_1 + 1)), (by first | rfl | (simp; done) | (simp [*]; done)), H', ⟨by have := HK1.out; omega⟩, by repeat (first | exact Drawn0.refl _ | apply Drawn0.step)⟩
              · replace c8 := Bool.eq_false_iff.mpr c8
                subst c8
                have H1 : (some false) = some r := by rw [if_neg (show ¬ (false = true) by decide)] at H; exact H
                clear H
                have H := H1
                clear H1
                obtain rfl := Option.some.inj H
                have p482 : 0 ≤ (x5_1 : Int) := of_decide_eq_true (by first | (with_reducible assumption) | assumption)
                have q482 : x5_1 < (l0.length : Int) := of_decide_eq_true (by first | (with_reducible assumption) | assumption)
                obtain ⟨ad482, A482_0, c482_0, e482, hx482_0, hl482_0, hi482_0⟩ := at_L2 HR0.out x5_1 p482 q482
                cases e482
                have HR482_0 := Aside0.mk hi482_0
                have HC482_0 := Aside0.mk hl482_0
                clear hi482_0 hl482_0
                replace p482 := eq_true p482
                replace q482 := eq_true q482
                have p483 : 0 ≤ (x5_1 : Int) := of_decide_eq_true (by first | (with_reducible assumption) | assumption)
                have q483 : x5_1 < (l1.length : Int) := of_decide_eq_true (by first | (with_reducible assumption) | assumption)
                obtain ⟨ad483, A483_0, c483_0, e483, hx483_0, hl483_0, hi483_0⟩ := at_L2 HR1.out x5_1 p483 q483
                cases e483
                have HR483_0 := Aside0.mk hi483_0
                have HC483_0 := Aside0.mk hl483_0
                clear hi483_0 hl483_0
                replace p483 := eq_true p483
                replace q483 := eq_true q483
                go_wp2_with (first | (go_at_call 40; (with_reducible refine (laws_eqByteS.calls k1 _ _ (rd_L2 l0 x5_1) _ _ (rd_L2 l1 x5_1) false _ ?side1 ?side2 ?side3 ?side4 A7.out).mono ?_); (case side1 => repeat (first | exact HR482_0.out | (with_reducible refine Kd.C_alloc ?_ _) | (with_reducible refine Kd.C_drewN ?_ _) | (with_reducible refine Kd.C_drew ?_))); (case side2 => exact HC482_0.out); (case side3 => repeat (first | exact HR483_0.out | (with_reducible refine Kd.C_alloc ?_ _) | (with_reducible refine Kd.C_drewN ?_ _) | (with_reducible refine Kd.C_drew ?_))); (case side4 => exact HC483_0.out); rintro e w' ⟨rfl, ⟨nd, rfl⟩⟩; (try first | exact ⟨rfl, _, World.drewN_drewN _ _ _⟩ | exact ⟨rfl, _, Eq.trans (World.drewN_drewN _ _ _) (congrArg (World.drewN _) (Nat.add_assoc _ _ _))⟩)))
                repeat (go_quiet (first | (go_at_call 40; (with_reducible refine (laws_eqByteS.calls k1 _ _ (rd_L2 l0 x5_1) _ _ (rd_L2 l1 x5_1) false _ ?side1 ?side2 ?side3 ?side4 A7.out).mono ?_); (case side1 => repeat (first | exact HR482_0.out | (with_reducible refine Kd.C_alloc ?_ _) | (with_reducible refine Kd.C_drewN ?_ _) | (with_reducible refine Kd.C_drew ?_))); (case side2 => exact HC482_0.out); (case side3 => repeat (first | exact HR483_0.out | (with_reducible refine Kd.C_alloc ?_ _) | (with_reducible refine Kd.C_drewN ?_ _) | (with_reducible refine Kd.C_drew ?_))); (case side4 => exact HC483_0.out); rintro e w' ⟨rfl, ⟨nd, rfl⟩⟩; (try first | exact ⟨rfl, _, World.drewN_drewN _ _ _⟩ | exact ⟨rfl, _, Eq.trans (World.drewN_drewN _ _ _) (congrArg (World.drewN _) (Nat.add_assoc _ _ _))⟩))); try go_wp2_with (first | (go_at_call 40; (with_reducible refine (laws_eqByteS.calls k1 _ _ (rd_L2 l0 x5_1) _ _ (rd_L2 l1 x5_1) false _ ?side1 ?side2 ?side3 ?side4 A7.out).mono ?_); (case side1 => repeat (first | exact HR482_0.out | (with_reducible refine Kd.C_alloc ?_ _) | (with_reducible refine Kd.C_drewN ?_ _) | (with_reducible refine Kd.C_drew ?_))); (case side2 => exact HC482_0.out); (case side3 => repeat (first | exact HR483_0.out | (with_reducible refine Kd.C_alloc ?_ _) | (with_reducible refine Kd.C_drewN ?_ _) | (with_reducible refine Kd.C_drew ?_))); (case side4 => exact HC483_0.out); rintro e w' ⟨rfl, ⟨nd, rfl⟩⟩; (try first | exact ⟨rfl, _, World.drewN_drewN _ _ _⟩ | exact ⟨rfl, _, Eq.trans (World.drewN_drewN _ _ _) (congrArg (World.drewN _) (Nat.add_assoc _ _ _))⟩))))
                go_ret
                exact ⟨by first | rfl | (simp; done) | (simp [*]; done), by repeat (first | exact Drawn0.refl _ | apply Drawn0.step)⟩
            · rw [if_neg c6] at H
              exact absurd H (by simp)
          · rw [if_neg c5] at H
            exact absurd H (by simp)
        · rw [if_neg c4] at H
          have c4b0 : decide (x5_1 < (l0.length : Int)) = false := decide_eq_false c4
          clear c4
          obtain rfl := Option.some.inj H
          go_wp2
          repeat (go_quiet (fail); try go_wp2)
          go_ret
          exact ⟨by first | rfl | (simp; done) | (simp [*]; done), by repeat (first | exact Drawn0.refl _ | apply Drawn0.step)⟩
  · rw [if_neg c3] at H
    have c3b0 : ((l0.length : Int) == (l1.length : Int)) = false := beq_eq_false_iff_ne.mpr c3
    have c3b1 : ((l0.length : Int) != (l1.length : Int)) = true := bne_iff_ne.mpr c3
    have c3b2 : (l0.length == l1.length) = false := by first | simpa using c3 | (simp at c3 ⊢; omega)
    obtain rfl := Option.some.inj H
    go_enter Try.func17, Try.ntmps17
    go_wp2
    repeat (go_quiet (fail); try go_wp2)
    go_ret
    exact ⟨by first | rfl | (simp; done) | (simp [*]; done), by repeat (first | exact Drawn0.refl _ | apply Drawn0.step)⟩

def laws_eqIntS.l0 : Nat → List Int → List Int → Int → Option (Bool)
  | 0, _, _, _ => none
  | k + 1, x0, x1, x5 => if x5 < (x0.length : Int) then (if 0 ≤ x5 then (if x5 < (x1.length : Int) then (if (rd x0 x5) = (rd x1 x5) then (laws_eqIntS.l0 k x0 x1 (wrap64 (x5 + 1))) else (some false)) else (none)) else (none)) else (some true)
def laws_eqIntS.f (k : Nat) (l0 : List Int) (l1 : List Int) : Option (Bool) := if (l0.length : Int) = (l1.length : Int) then (laws_eqIntS.l0 k l0 l1 0) else (some false)
set_option maxHeartbeats 8000000 in
set_option maxRecDepth 100000 in
theorem laws_eqIntS.calls (k : Nat) (A0 : Option Addr) (c0 : Nat) (l0 : List Int) (A1 : Option Addr) (c1 : Nat) (l1 : List Int) (r : Bool) (w : World) (hr0 : Kd.C (Kd.int .i64) w A0 l0.length l0) (hc0 : l0.length ≤ c0) (hr1 : Kd.C (Kd.int .i64) w A1 l1.length l1) (hc1 : l1.length ≤ c1) (h : laws_eqIntS.f k l0 l1 = some r) :
    Calls Try.prog 18 #[.slice A0 l0.length c0, .slice A1 l1.length c1] w fun e w' => e = .returned (.bool r) ∧ Drawn0 w w' := by
  have HR0 := Aside0.mk hr0
  have HC0 := Aside0.mk hc0
  clear hr0 hc0
  have HR1 := Aside0.mk hr1
  have HC1 := Aside0.mk hc1
  clear hr1 hc1
  have H : (if (l0.length : Int) = (l1.length : Int) then (laws_eqIntS.l0 k l0 l1 0) else (some false)) = some r := h
  clear h
  by_cases c3 : (l0.length : Int) = (l1.length : Int)
  · rw [if_pos c3] at H
    have c3b0 : ((l0.length : Int) == (l1.length : Int)) = true := beq_iff_eq.mpr c3
    have c3b1 : ((l0.length : Int) != (l1.length : Int)) = false := bne_eq_false_iff_eq.mpr c3
    have c3b2 : (l0.length == l1.length) = true := by first | simpa using c3 | (simp at c3 ⊢; omega)
    clear c3
    have H' := Aside0.mk H
    clear H
    go_enter Try.func18, Try.ntmps18
    go_wp2
    repeat (go_quiet (fail); try go_wp2)
    go_loopg [5] k (fun kq v5 w' => ∃ (x5_1 : Int), v5 = .int .i64 x5_1 ∧ Aside0 (laws_eqIntS.l0 kq l0 l1 x5_1 = some r) ∧ Aside0 (kq ≤ k) ∧ Drawn0 w w')
    case atStart => exact ⟨(0), (by first | rfl | (simp; done) | (simp [*]; done)), H', ⟨Nat.le_refl _⟩, by repeat (first | exact Drawn0.refl _ | apply Drawn0.step)⟩
    case round =>
      clear H'
      try clear c1
      try clear p2
      try clear c3
      try clear c3b0
      try clear c3b1
      try clear c3b2
      obtain ⟨x5_1, rfl, HA, HK1, ⟨m1, rfl⟩⟩ := hrel
      cases gk with
      | zero => exact absurd HA.out (by simp [laws_eqIntS.l0])
      | succ k1 =>
        have H := HA.out
        clear HA
        simp only [laws_eqIntS.l0] at H
        by_cases c4 : x5_1 < (l0.length : Int)
        · rw [if_pos c4] at H
          have c4b0 : decide (x5_1 < (l0.length : Int)) = true := decide_eq_true c4
          clear c4
          by_cases c5 : 0 ≤ x5_1
          · rw [if_pos c5] at H
            have c5b0 : decide (0 ≤ x5_1) = true := decide_eq_true c5
            clear c5
            by_cases c6 : x5_1 < (l1.length : Int)
            · rw [if_pos c6] at H
              have c6b0 : decide (x5_1 < (l1.length : Int)) = true := decide_eq_true c6
              clear c6
              by_cases c7 : (rd l0 x5_1) = (rd l1 x5_1)
              · rw [if_pos c7] at H
                have c7b0 : ((rd l0 x5_1) == (rd l1 x5_1)) = true := beq_iff_eq.mpr c7
                have c7b1 : ((rd l0 x5_1) != (rd l1 x5_1)) = false := bne_eq_false_iff_eq.mpr c7
                clear c7
                have H' := Aside0.mk H
                clear H
                have p485 : 0 ≤ (x5_1 : Int) := of_decide_eq_true (by first | (with_reducible assumption) | assumption)
                have q485 : x5_1 < (l0.length : Int) := of_decide_eq_true (by first | (with_reducible assumption) | assumption)
                obtain ⟨ad485, e485, hx485_0⟩ := Kd.at_int HR0.out x5_1 p485 q485
                cases e485
                replace p485 := eq_true p485
                replace q485 := eq_true q485
                have p486 : 0 ≤ (x5_1 : Int) := of_decide_eq_true (by first | (with_reducible assumption) | assumption)
                have q486 : x5_1 < (l1.length : Int) := of_decide_eq_true (by first | (with_reducible assumption) | assumption)
                obtain ⟨ad486, e486, hx486_0⟩ := Kd.at_int HR1.out x5_1 p486 q486
                cases e486
                replace p486 := eq_true p486
                replace q486 := eq_true q486
                go_wp2
                repeat (go_quiet (fail); try go_wp2)
                go_roundg k1
                case measure => have := HK1.out; omega
                case rel => exact ⟨(wrap64 (x5_1 + 1)), (by first | rfl | (simp; done) | (simp [*]; done)), H', ⟨by have := HK1.out; omega⟩, by repeat (first | exact Drawn0.refl _ | apply Drawn0.step)⟩
              · rw [if_neg c7] at H
                have c7b0 : ((rd l0 x5_1) == (rd l1 x5_1)) = false := beq_eq_false_iff_ne.mpr c7
                have c7b1 : ((rd l0 x5_1) != (rd l1 x5_1)) = true := bne_iff_ne.mpr c7
                obtain rfl := Option.some.inj H
                have p485 : 0 ≤ (x5_1 : Int) := of_decide_eq_true (by first | (with_reducible assumption) | assumption)
                have q485 : x5_1 < (l0.length : Int) := of_decide_eq_true (by first | (with_reducible assumption) | assumption)
                obtain ⟨ad485, e485, hx485_0⟩ := Kd.at_int HR0.out x5_1 p485 q485
                cases e485
                replace p485 := eq_true p485
                replace q485 := eq_true q485
                have p486 : 0 ≤ (x5_1 : Int) := of_decide_eq_true (by first | (with_reducible assumption) | assumption)
                have q486 : x5_1 < (l1.length : Int) := of_decide_eq_true (by first | (with_reducible assumption) | assumption)
                obtain ⟨ad486, e486, hx486_0⟩ := Kd.at_int HR1.out x5_1 p486 q486
                cases e486
                replace p486 := eq_true p486
                replace q486 := eq_true q486
                go_wp2
                repeat (go_quiet (fail); try go_wp2)
                go_ret
                exact ⟨by first | rfl | (simp; done) | (simp [*]; done), by repeat (first | exact Drawn0.refl _ | apply Drawn0.step)⟩
            · rw [if_neg c6] at H
              exact absurd H (by simp)
          · rw [if_neg c5] at H
            exact absurd H (by simp)
        · rw [if_neg c4] at H
          have c4b0 : decide (x5_1 < (l0.length : Int)) = false := decide_eq_false c4
          clear c4
          obtain rfl := Option.some.inj H
          go_wp2
          repeat (go_quiet (fail); try go_wp2)
          go_ret
          exact ⟨by first | rfl | (simp; done) | (simp [*]; done), by repeat (first | exact Drawn0.refl _ | apply Drawn0.step)⟩
  · rw [if_neg c3] at H
    have c3b0 : ((l0.length : Int) == (l1.length : Int)) = false := beq_eq_false_iff_ne.mpr c3
    have c3b1 : ((l0.length : Int) != (l1.length : Int)) = true := bne_iff_ne.mpr c3
    have c3b2 : (l0.length == l1.length) = false := by first | simpa using c3 | (simp at c3 ⊢; omega)
    obtain rfl := Option.some.inj H
    go_enter Try.func18, Try.ntmps18
    go_wp2
    repeat (go_quiet (fail); try go_wp2)
    go_ret
    exact ⟨by first | rfl | (simp; done) | (simp [*]; done), by repeat (first | exact Drawn0.refl _ | apply Drawn0.step)⟩

end Go.Proofs.Ytookabfmbimnoaa.Lk

namespace Go.Proofs.Ytookabfmbimnoaa.Lk
open Go.RowKit Go.Proofs.YtookabfmbimnoaaW.PrintWords Go.Proofs.YtookabfmbimnoaaW.PrintLast Go.Proofs.YtookabfmbimnoaaW.PrintMore
attribute [local go_sem] max2_int min2_int max_two min_two max_three min_three max_four min_four   -- for this text's walks alone
set_option linter.unusedVariables false
set_option linter.unusedSimpArgs false

def laws_eqLinkRun.f (k : Nat) (l0_0 : List (List Int)) (a0_1 : Int) (a0_2 : Int) (a0_3 : Bool) (l1_0 : List (List Int)) (a1_1 : Int) (a1_2 : Int) (a1_3 : Bool) : Option (Bool) := (laws_eqByteSS.f k l0_0 l1_0).bind fun t654 => (if t654 = true then (if a0_1 = a1_1 then (if a0_2 = a1_2 then (if (a0_3 != a1_3) = true then (some false) else (some true)) else (some false)) else (some false)) else (some false))
set_option maxHeartbeats 8000000 in
set_option maxRecDepth 100000 in
theorem laws_eqLinkRun.calls (k : Nat) (A0_0 : Option Addr) (c0_0 : Nat) (l0_0 : List (List Int)) (a0_1 : Int) (a0_2 : Int) (a0_3 : Bool) (A1_0 : Option Addr) (c1_0 : Nat) (l1_0 : List (List Int)) (a1_1 : Int) (a1_2 : Int) (a1_3 : Bool) (r : Bool) (w : World) (hr0_0 : Kd.C (Kd.slice 5 (Kd.int .u8)) w A0_0 l0_0.length l0_0) (hc0_0 : l0_0.length ≤ c0_0) (hr1_0 : Kd.C (Kd.slice 5 (Kd.int .u8)) w A1_0 l1_0.length l1_0) (hc1_0 : l1_0.length ≤ c1_0) (h : laws_eqLinkRun.f k l0_0 a0_1 a0_2 a0_3 l1_0 a1_1 a1_2 a1_3 = some r) :
    Calls Try.prog 24 #[.agg #[.slice A0_0 l0_0.length c0_0, .int .i64 a0_1, .int .i64 a0_2, .bool a0_3], .agg #[.slice A1_0 l1_0.length c1_0, .int .i64 a1_1, .int .i64 a1_2, .bool a1_3]] w fun e w' => e = .returned (.bool r) ∧ Below w.heap.size w w' := by
  have hu28 := Try.underlying28
  have HR0_0 := Aside0.mk hr0_0
  have HC0_0 := Aside0.mk hc0_0
  clear hr0_0 hc0_0
  have HR1_0 := Aside0.mk hr1_0
  have HC1_0 := Aside0.mk hc1_0
  clear hr1_0 hc1_0
  have HB := Aside0.mk (Below.refl w.heap.size w)
  have H : ((laws_eqByteSS.f k l0_0 l1_0).bind fun t654 => (if t654 = true then (if a0_1 = a1_1 then (if a0_2 = a1_2 then (if (a0_3 != a1_3) = true then (some false) else (some true)) else (some false)) else (some false)) else (some false))) = some r := h
  clear h
  replace H := Option.bind_eq_some_iff.mp H
  obtain ⟨t654, A30, H⟩ := H
  replace H : (if t654 = true then (if a0_1 = a1_1 then (if a0_2 = a1_2 then (if (a0_3 != a1_3) = true then (some false) else (some true)) else (some false)) else (some false)) else (some false)) = some r := H
  have A3 := Aside0.mk A30
  clear A30
  by_cases c4 : t654 = true
  · subst c4
    have H1 : (if a0_1 = a1_1 then (if a0_2 = a1_2 then (if (a0_3 != a1_3) = true then (some false) else (some true)) else (some false)) else (some false)) = some r := by rw [if_pos rfl] at H; exact H
    clear H
    have H := H1
    clear H1
    by_cases c5 : a0_1 = a1_1
    · rw [if_pos c5] at H
      have c5b0 : (a0_1 == a1_1) = true := beq_iff_eq.mpr c5
      have c5b1 : (a0_1 != a1_1) = false := bne_eq_false_iff_eq.mpr c5
      clear c5
      by_cases c6 : a0_2 = a1_2
      · rw [if_pos c6] at H
        have c6b0 : (a0_2 == a1_2) = true := beq_iff_eq.mpr c6
        have c6b1 : (a0_2 != a1_2) = false := bne_eq_false_iff_eq.mpr c6
        clear c6
        by_cases c7 : (a0_3 != a1_3) = true
        · rw [if_pos c7] at H
          have c7b0 : (a0_3 != a1_3) = true := c7
          (try (have c7b1 : decide (a0_3 = a1_3) = false := by simpa using c7))
          (try (have c7b2 : (a0_3 == a1_3) = false := by simpa using c7))
          (try (have c7b3 : ¬ (a0_3 = a1_3) := by simpa using c7))
          clear c7
          obtain rfl := Option.some.inj H
          go_enter Try.func24, Try.ntmps24
          go_wp2_with (first | ((with_reducible refine gate_dst (N := 2) rfl ?_); refine box_event ?hg (N := 2) ?hd (cs := #[.slice A0_0 l0_0.length c0_0, .int .i64 a0_1, .int .i64 a0_2, .bool a0_3]) (t := 28) ?hr ?_; (case hd => rfl); (case hg => rfl); (case hr => first | (go_simp; done) | (go_simp; rfl)); intro gb652 hg w8 hbox hb; have n0_ := Aside0.mk (below_step (by repeat (first | (with_reducible first | exact HB.out | apply below_alloc | apply pw_below_drewN | apply below_drew1) | exact HB.out)) hb); have n1_ := Aside0.mk (hbox); have n2_ := Aside0.mk ((by rw [hg]; exact (below_size (by repeat (first | (with_reducible first | exact HB.out | apply below_alloc | apply pw_below_drewN | apply below_drew1) | exact HB.out))) : w.heap.size ≤ gb652)); have n3_ := Aside0.mk ((by rw [hg]; exact (below_size (by repeat (first | (with_reducible first | exact HB.out | apply below_alloc | apply pw_below_drewN | apply below_drew1) | exact HB.out))) : w.heap.size ≤ gb652)); clear HB; have HB := n0_; have BK652 := n1_; have GW652 := n2_; have GE652 := n3_; clear n0_ n1_ n2_ n3_; clear hb hbox hg) | ((with_reducible refine gate_dst (N := 3) rfl ?_); refine box_event ?hg (N := 3) ?hd (cs := #[.slice A1_0 l1_0.length c1_0, .int .i64 a1_1, .int .i64 a1_2, .bool a1_3]) (t := 28) ?hr ?_; (case hd => rfl); (case hg => rfl); (case hr => first | (go_simp; done) | (go_simp; rfl)); intro gb653 hg w9 hbox hb; have n0_ := Aside0.mk (blk_below (g := gb652) (o := .cells #[.slice A0_0 l0_0.length c0_0, .int .i64 a0_1, .int .i64 a0_2, .bool a0_3] 28 (0, 0)) (by (with_reducible repeat (first | refine blk_drewN ?_ _ | refine blk_drew ?_ | refine blk_alloc ?_ _)); exact BK652.out) hb); have n1_ := Aside0.mk (below_step (by repeat (first | (with_reducible first | exact HB.out | apply below_alloc | apply pw_below_drewN | apply below_drew1 | refine below_set ?_ GE652.out) | exact HB.out)) hb); have n2_ := Aside0.mk (hbox); have n3_ := Aside0.mk ((by rw [hg]; exact (below_size (by repeat (first | (with_reducible first | exact HB.out | apply below_alloc | apply pw_below_drewN | apply below_drew1 | refine below_set ?_ GE652.out) | exact HB.out))) : w.heap.size ≤ gb653)); have n4_ := Aside0.mk ((by rw [hg]; exact (below_size (by repeat (first | (with_reducible first | exact HB.out | apply below_alloc | apply pw_below_drewN | apply below_drew1 | refine below_set ?_ GE652.out) | exact HB.out))) : w.heap.size ≤ gb653)); have n5_ := Aside0.mk ((by rw [hg]; exact Nat.ne_of_lt (blk_lt (g := gb652) (o := .cells #[.slice A0_0 l0_0.length c0_0, .int .i64 a0_1, .int .i64 a0_2, .bool a0_3] 28 (0, 0)) (by (with_reducible repeat (first | refine blk_drewN ?_ _ | refine blk_drew ?_ | refine blk_alloc ?_ _)); exact BK652.out)) : gb652 ≠ gb653)); have n6_ := Aside0.mk ((by rw [hg]; exact Nat.ne_of_gt (blk_lt (g := gb652) (o := .cells #[.slice A0_0 l0_0.length c0_0, .int .i64 a0_1, .int .i64 a0_2, .bool a0_3] 28 (0, 0)) (by (with_reducible repeat (first | refine blk_drewN ?_ _ | refine blk_drew ?_ | refine blk_alloc ?_ _)); exact BK652.out)) : gb653 ≠ gb652)); clear BK652; clear HB; have BK652 := n0_; have HB := n1_; have BK653 := n2_; have GW653 := n3_; have GE653 := n4_; have NB652_653 := n5_; have NB653_652 := n6_; clear n0_ n1_ n2_ n3_ n4_ n5_ n6_; clear hb hbox hg; have hnb10 := NB652_653.out; have hnc10 := NB653_652.out; have hcz11_0 : w9.cell? ⟨gb652, 0, none⟩ = some (.slice A0_0 l0_0.length c0_0) := (blk_cell BK652.out 0).trans rfl; have hcz11_1 : w9.cell? ⟨gb652, 1, none⟩ = some (.int .i64 a0_1) := (blk_cell BK652.out 1).trans rfl; have hcz11_2 : w9.cell? ⟨gb652, 2, none⟩ = some (.int .i64 a0_2) := (blk_cell BK652.out 2).trans rfl; have hcz11_3 : w9.cell? ⟨gb652, 3, none⟩ = some (.bool a0_3) := (blk_cell BK652.out 3).trans rfl; have hfz11_0 := blk_frozen BK652.out 0; have hfz11_1 := blk_frozen BK652.out 1; have hfz11_2 := blk_frozen BK652.out 2; have hfz11_3 := blk_frozen BK652.out 3; have hcz12_0 : w9.cell? ⟨gb653, 0, none⟩ = some (.slice A1_0 l1_0.length c1_0) := (blk_cell BK653.out 0).trans rfl; have hcz12_1 : w9.cell? ⟨gb653, 1, none⟩ = some (.int .i64 a1_1) := (blk_cell BK653.out 1).trans rfl; have hcz12_2 : w9.cell? ⟨gb653, 2, none⟩ = some (.int .i64 a1_2) := (blk_cell BK653.out 2).trans rfl; have hcz12_3 : w9.cell? ⟨gb653, 3, none⟩ = some (.bool a1_3) := (blk_cell BK653.out 3).trans rfl; have hfz12_0 := blk_frozen BK653.out 0; have hfz12_1 := blk_frozen BK653.out 1; have hfz12_2 := blk_frozen BK653.out 2; have hfz12_3 := blk_frozen BK653.out 3) | ((with_reducible refine gate_callee (f := 17) rfl ?_); refine goesL_ (some 9) rfl rfl Try.func17 (by kernel_rfl) rfl #[.slice A0_0 l0_0.length c0_0, .slice A1_0 l1_0.length c1_0] rfl (by (try simp only [List.map_toArray, List.map_cons, List.map_nil]); first | done | rfl | (simp only [List.length_drop, List.length_take]; rfl)) ?_; (with_reducible refine (laws_eqByteSS.calls k _ _ l0_0 _ _ l1_0 true _ ?side1 ?side2 ?side3 ?side4 A3.out).mono ?_); (case side1 => repeat (first | exact (Kd.C_below HR0_0.out HB.out) | (with_reducible refine Kd.C_alloc ?_ _) | (with_reducible refine Kd.C_drewN ?_ _) | (with_reducible refine Kd.C_drew ?_))); (case side2 => exact HC0_0.out); (case side3 => repeat (first | exact (Kd.C_below HR1_0.out HB.out) | (with_reducible refine Kd.C_alloc ?_ _) | (with_reducible refine Kd.C_drewN ?_ _) | (with_reducible refine Kd.C_drew ?_))); (case side4 => exact HC1_0.out); rintro e w' ⟨rfl, ⟨nd, rfl⟩⟩; refine ⟨_, rfl, ?_⟩))
          go_ret
          exact ⟨by first | rfl | (simp [errW_none, errW_some] <;> rfl) | (simp [*, errW_none, errW_some] <;> rfl), by repeat (first | (with_reducible first | exact HB.out | apply below_alloc | apply pw_below_drewN | apply below_drew1 | refine below_set ?_ GE652.out | refine below_set ?_ GE653.out) | exact HB.out)⟩
        · rw [if_neg c7] at H
          have c7b0 : (a0_3 != a1_3) = false := by simpa using c7
          (try (have c7b1 : decide (a0_3 = a1_3) = true := by simpa using c7))
          (try (have c7b2 : (a0_3 == a1_3) = true := by simpa using c7))
          clear c7
          obtain rfl := Option.some.inj H
          go_enter Try.func24, Try.ntmps24
          go_wp2_with (first | ((with_reducible refine gate_dst (N := 2) rfl ?_); refine box_event ?hg (N := 2) ?hd (cs := #[.slice A0_0 l0_0.length c0_0, .int .i64 a0_1, .int .i64 a0_2, .bool a0_3]) (t := 28) ?hr ?_; (case hd => rfl); (case hg => rfl); (case hr => first | (go_simp; done) | (go_simp; rfl)); intro gb652 hg w13 hbox hb; have n0_ := Aside0.mk (below_step (by repeat (first | (with_reducible first | exact HB.out | apply below_alloc | apply pw_below_drewN | apply below_drew1) | exact HB.out)) hb); have n1_ := Aside0.mk (hbox); have n2_ := Aside0.mk ((by rw [hg]; exact (below_size (by repeat (first | (with_reducible first | exact HB.out | apply below_alloc | apply pw_below_drewN | apply below_drew1) | exact HB.out))) : w.heap.size ≤ gb652)); have n3_ := Aside0.mk ((by rw [hg]; exact (below_size (by repeat (first | (with_reducible first | exact HB.out | apply below_alloc | apply pw_below_drewN | apply below_drew1) | exact HB.out))) : w.heap.size ≤ gb652)); clear HB; have HB := n0_; have BK652 := n1_; have GW652 := n2_; have GE652 := n3_; clear n0_ n1_ n2_ n3_; clear hb hbox hg) | ((with_reducible refine gate_dst (N := 3) rfl ?_); refine box_event ?hg (N := 3) ?hd (cs := #[.slice A1_0 l1_0.length c1_0, .int .i64 a1_1, .int .i64 a1_2, .bool a1_3]) (t := 28) ?hr ?_; (case hd => rfl); (case hg => rfl); (case hr => first | (go_simp; done) | (go_simp; rfl)); intro gb653 hg w14 hbox hb; have n0_ := Aside0.mk (blk_below (g := gb652) (o := .cells #[.slice A0_0 l0_0.length c0_0, .int .i64 a0_1, .int .i64 a0_2, .bool a0_3] 28 (0, 0)) (by (with_reducible repeat (first | refine blk_drewN ?_ _ | refine blk_drew ?_ | refine blk_alloc ?_ _)); exact BK652.out) hb); have n1_ := Aside0.mk (below_step (by repeat (first | (with_reducible first | exact HB.out | apply below_alloc | apply pw_below_drewN | apply below_drew1 | refine below_set ?_ GE652.out) | exact HB.out)) hb); have n2_ := Aside0.mk (hbox); have n3_ := Aside0.mk ((by rw [hg]; exact (below_size (by repeat (first | (with_reducible first | exact HB.out | apply below_alloc | apply pw_below_drewN | apply below_drew1 | refine below_set ?_ GE652.out) | exact HB.out))) : w.heap.size ≤ gb653)); have n4_ := Aside0.mk ((by rw [hg]; exact (below_size (by repeat (first | (with_reducible first | exact HB.out | apply below_alloc | apply pw_below_drewN | apply below_drew1 | refine below_set ?_ GE652.out) | exact HB.out))) : w.heap.size ≤ gb653)); have n5_ := Aside0.mk ((by rw [hg]; exact Nat.ne_of_lt (blk_lt (g := gb652) (o := .cells #[.slice A0_0 l0_0.length c0_0, .int .i64 a0_1, .int .i64 a0_2, .bool a0_3] 28 (0, 0)) (by (with_reducible repeat (first | refine blk_drewN ?_ _ | refine blk_drew ?_ | refine blk_alloc ?_ _)); exact BK652.out)) : gb652 ≠ gb653)); have n6_ := Aside0.mk ((by rw [hg]; exact Nat.ne_of_gt (blk_lt (g := gb652) (o := .cells #[.slice A0_0 l0_0.length c0_0, .int .i64 a0_1, .int .i64 a0_2, .bool a0_3] 28 (0, 0)) (by (with_reducible repeat (first | refine blk_drewN ?_ _ | refine blk_drew ?_ | refine blk_alloc ?_ _)); exact BK652.out)) : gb653 ≠ gb652)); clear BK652; clear HB; have BK652 := n0_; have HB := n1_; have BK653 := n2_; have GW653 := n3_; have GE653 := n4_; have NB652_653 := n5_; have NB653_652 := n6_; clear n0_ n1_ n2_ n3_ n4_ n5_ n6_; clear hb hbox hg; have hnb15 := NB652_653.out; have hnc15 := NB653_652.out; have hcz16_0 : w14.cell? ⟨gb652, 0, none⟩ = some (.slice A0_0 l0_0.length c0_0) := (blk_cell BK652.out 0).trans rfl; have hcz16_1 : w14.cell? ⟨gb652, 1, none⟩ = some (.int .i64 a0_1) := (blk_cell BK652.out 1).trans rfl; have hcz16_2 : w14.cell? ⟨gb652, 2, none⟩ = some (.int .i64 a0_2) := (blk_cell BK652.out 2).trans rfl; have hcz16_3 : w14.cell? ⟨gb652, 3, none⟩ = some (.bool a0_3) := (blk_cell BK652.out 3).trans rfl; have hfz16_0 := blk_frozen BK652.out 0; have hfz16_1 := blk_frozen BK652.out 1; have hfz16_2 := blk_frozen BK652.out 2; have hfz16_3 := blk_frozen BK652.out 3; have hcz17_0 : w14.cell? ⟨gb653, 0, none⟩ = some (.slice A1_0 l1_0.length c1_0) := (blk_cell BK653.out 0).trans rfl; have hcz17_1 : w14.cell? ⟨gb653, 1, none⟩ = some (.int .i64 a1_1) := (blk_cell BK653.out 1).trans rfl; have hcz17_2 : w14.cell? ⟨gb653, 2, none⟩ = some (.int .i64 a1_2) := (blk_cell BK653.out 2).trans rfl; have hcz17_3 : w14.cell? ⟨gb653, 3, none⟩ = some (.bool a1_3) := (blk_cell BK653.out 3).trans rfl; have hfz17_0 := blk_frozen BK653.out 0; have hfz17_1 := blk_frozen BK653.out 1; have hfz17_2 := blk_frozen BK653.out 2; have hfz17_3 := blk_frozen BK653.out 3) | ((with_reducible refine gate_callee (f := 17) rfl ?_); refine goesL_ (some 9) rfl rfl Try.func17 (by kernel_rfl) rfl #[.slice A0_0 l0_0.length c0_0, .slice A1_0 l1_0.length c1_0] rfl (by (try simp only [List.map_toArray, List.map_cons, List.map_nil]); first | done | rfl | (simp only [List.length_drop, List.length_take]; rfl)) ?_; (with_reducible refine (laws_eqByteSS.calls k _ _ l0_0 _ _ l1_0 true _ ?side1 ?side2 ?side3 ?side4 A3.out).mono ?_); (case side1 => repeat (first | exact (Kd.C_below HR0_0.out HB.out) | (with_reducible refine Kd.C_alloc ?_ _) | (with_reducible refine Kd.C_drewN ?_ _) | (with_reducible refine Kd.C_drew ?_))); (case side2 => exact HC0_0.out); (case side3 => repeat (first | exact (Kd.C_below HR1_0.out HB.out) | (with_reducible refine Kd.C_alloc ?_ _) | (with_reducible refine Kd.C_drewN ?_ _) | (with_reducible refine Kd.C_drew ?_))); (case side4 => exact HC1_0.out); rintro e w' ⟨rfl, ⟨nd, rfl⟩⟩; refine ⟨_, rfl, ?_⟩))
          go_ret
          exact ⟨by first | rfl | (simp [errW_none, errW_some] <;> rfl) | (simp [*, errW_none, errW_some] <;> rfl), by repeat (first | (with_reducible first | exact HB.out | apply below_alloc | apply pw_below_drewN | apply below_drew1 | refine below_set ?_ GE652.out | refine below_set ?_ GE653.out) | exact HB.out)⟩
      · rw [if_neg c6] at H
        have c6b0 : (a0_2 == a1_2) = false := beq_eq_false_iff_ne.mpr c6
        have c6b1 : (a0_2 != a1_2) = true := bne_iff_ne.mpr c6
        obtain rfl := Option.some.inj H
        go_enter Try.func24, Try.ntmps24
        go_wp2_with (first | ((with_reducible refine gate_dst (N := 2) rfl ?_); refine box_event ?hg (N := 2) ?hd (cs := #[.slice A0_0 l0_0.length c0_0, .int .i64 a0_1, .int .i64 a0_2, .bool a0_3]) (t := 28) ?hr ?_; (case hd => rfl); (case hg => rfl); (case hr => first | (go_simp; done) | (go_simp; rfl)); intro gb652 hg w18 hbox hb; have n0_ := Aside0.mk (below_step (by repeat (first | (with_reducible first | exact HB.out | apply below_alloc | apply pw_below_drewN | apply below_drew1) | exact HB.out)) hb); have n1_ := Aside0.mk (hbox); have n2_ := Aside0.mk ((by rw [hg]; exact (below_size (by repeat (first | (with_reducible first | exact HB.out | apply below_alloc | apply pw_below_drewN | apply below_drew1) | exact HB.out))) : w.heap.size ≤ gb652)); have n3_ := Aside0.mk ((by rw [hg]; exact (below_size (by repeat (first | (with_reducible first | exact HB.out | apply below_alloc | apply pw_below_drewN | apply below_drew1) | exact HB.out))) : w.heap.size ≤ gb652)); clear HB; have HB := n0_; have BK652 := n1_; have GW652 := n2_; have GE652 := n3_; clear n0_ n1_ n2_ n3_; clear hb hbox hg) | ((with_reducible refine gate_dst (N := 3) rfl ?_); refine box_event ?hg (N := 3) ?hd (cs := #[.slice A1_0 l1_0.length c1_0, .int .i64 a1_1, .int .i64 a1_2, .bool a1_3]) (t := 28) ?hr ?_; (case hd => rfl); (case hg => rfl); (case hr => first | (go_simp; done) | (go_simp; rfl)); intro gb653 hg w19 hbox hb; have n0_ := Aside0.mk (blk_below (g := gb652) (o := .cells #[.slice A0_0 l0_0.length c0_0, .int .i64 a0_1, .int .i64 a0_2, .bool a0_3] 28 (0, 0)) (by (with_reducible repeat (first | refine blk_drewN ?_ _ | refine blk_drew ?_ | refine blk_alloc ?_ _)); exact BK652.out) hb); have n1_ := Aside0.mk (below_step (by repeat (first | (with_reducible first | exact HB.out | apply below_alloc | apply pw_below_drewN | apply below_drew1 | refine below_set ?_ GE652.out) | exact HB.out)) hb); have n2_ := Aside0.mk (hbox); have n3_ := Aside0.mk ((by rw [hg]; exact (below_size (by repeat (first | (with_reducible first | exact HB.out | apply below_alloc | apply pw_below_drewN | apply below_drew1 | refine below_set ?_ GE652.out) | exact HB.out))) : w.heap.size ≤ gb653)); have n4_ := Aside0.mk ((by rw [hg]; exact (below_size (by repeat (first | (with_reducible first | exact HB.out | apply below_alloc | apply pw_below_drewN | apply below_drew1 | refine below_set ?_ GE652.out) | exact HB.out))) : w.heap.size ≤ gb653)); have n5_ := Aside0.mk ((by rw [hg]; exact Nat.ne_of_lt (blk_lt (g := gb652) (o := .cells #[.slice A0_0 l0_0.length c0_0, .int .i64 a0_1, .int .i64 a0_2, .bool a0_3] 28 (0, 0)) (by (with_reducible repeat (first | refine blk_drewN ?_ _ | refine blk_drew ?_ | refine blk_alloc ?_ _)); exact BK652.out)) : gb652 ≠ gb653)); have n6_ := Aside0.mk ((by rw [hg]; exact Nat.ne_of_gt (blk_lt (g := gb652) (o := .cells #[.slice A0_0 l0_0.length c0_0, .int .i64 a0_1, .int .i64 a0_2, .bool a0_3] 28 (0, 0)) (by (with_reducible repeat (first | refine blk_drewN ?_ _ | refine blk_drew ?_ | refine blk_alloc ?_ _)); exact BK652.out)) : gb653 ≠ gb652)); clear BK652; clear HB; have BK652 := n0_; have HB := n1_; have BK653 := n2_; have GW653 := n3_; have GE653 := n4_; have NB652_653 := n5_; have NB653_652 := n6_; clear n0_ n1_ n2_ n3_ n4_ n5_ n6_; clear hb hbox hg; have hnb20 := NB652_653.out; have hnc20 := NB653_652.out; have hcz21_0 : w19.cell? ⟨gb652, 0, none⟩ = some (.slice A0_0 l0_0.length c0_0) := (blk_cell BK652.out 0).trans rfl; have hcz21_1 : w19.cell? ⟨gb652, 1, none⟩ = some (.int .i64 a0_1) := (blk_cell BK652.out 1).trans rfl; have hcz21_2 : w19.cell? ⟨gb652, 2, none⟩ = some (.int .i64 a0_2) := (blk_cell BK652.out 2).trans rfl; have hcz21_3 : w19.cell? ⟨gb652, 3, none⟩ = some (.bool a0_3) := (blk_cell BK652.out 3).trans rfl; have hfz21_0 := blk_frozen BK652.out 0; have hfz21_1 := blk_frozen BK652.out 1; have hfz21_2 := blk_frozen BK652.out 2; have hfz21_3 := blk_frozen BK652.out 3; have hcz22_0 : w19.cell? ⟨gb653, 0, none⟩ = some (.slice A1_0 l1_0.length c1_0) := (blk_cell BK653.out 0).trans rfl; have hcz22_1 : w19.cell? ⟨gb653, 1, none⟩ = some (.int .i64 a1_1) := (blk_cell BK653.out 1).trans rfl; have hcz22_2 : w19.cell? ⟨gb653, 2, none⟩ = some (.int .i64 a1_2) := (blk_cell BK653.out 2).trans rfl; have hcz22_3 : w19.cell? ⟨gb653, 3, none⟩ = some (.bool a1_3) := (blk_cell BK653.out 3).trans rfl; have hfz22_0 := blk_frozen BK653.out 0; have hfz22_1 := blk_frozen BK653.out 1; have hfz22_2 := blk_frozen BK653.out 2; have hfz22_3 := blk_frozen BK653.out 3) | ((with_reducible refine gate_callee (f := 17) rfl ?_); refine goesL_ (some 9) rfl rfl Try.func17 (by kernel_rfl) rfl #[.slice A0_0 l0_0.length c0_0, .slice A1_0 l1_0.length c1_0] rfl (by (try simp only [List.map_toArray, List.map_cons, List.map_nil]); first | done | rfl | (simp only [List.length_drop, List.length_take]; rfl)) ?_; (with_reducible refine (laws_eqByteSS.calls k _ _ l0_0 _ _ l1_0 true _ ?side1 ?side2 ?side3 ?side4 A3.out).mono ?_); (case side1 => repeat (first | exact (Kd.C_below HR0_0.out HB.out) | (with_reducible refine Kd.C_alloc ?_ _) | (with_reducible refine Kd.C_drewN ?_ _) | (with_reducible refine Kd.C_drew ?_))); (case side2 => exact HC0_0.out); (case side3 => repeat (first | exact (Kd.C_below HR1_0.out HB.out) | (with_reducible refine Kd.C_alloc ?_ _) | (with_reducible refine Kd.C_drewN ?_ _) | (with_reducible refine Kd.C_drew ?_))); (case side4 => exact HC1_0.out); rintro e w' ⟨rfl, ⟨nd, rfl⟩⟩; refine ⟨_, rfl, ?_⟩))
        go_ret
        exact ⟨by first | rfl | (simp [errW_none, errW_some] <;> rfl) | (simp [*, errW_none, errW_some] <;> rfl), by repeat (first | (with_reducible first | exact HB.out | apply below_alloc | apply pw_below_drewN | apply below_drew1 | refine below_set ?_ GE652.out | refine below_set ?_ GE653.out) | exact HB.out)⟩
    · rw [if_neg c5] at H
      have c5b0 : (a0_1 == a1_1) = false := beq_eq_false_iff_ne.mpr c5
      have c5b1 : (a0_1 != a1_1) = true := bne_iff_ne.mpr c5
      obtain rfl := Option.some.inj H
      go_enter Try.func24, Try.ntmps24
      go_wp2_with (first | ((with_reducible refine gate_dst (N := 2) rfl ?_); refine box_event ?hg (N := 2) ?hd (cs := #[.slice A0_0 l0_0.length c0_0, .int .i64 a0_1, .int .i64 a0_2, .bool a0_3]) (t := 28) ?hr ?_; (case hd => rfl); (case hg => rfl); (case hr => first | (go_simp; done) | (go_simp; rfl)); intro gb652 hg w23 hbox hb; have n0_ := Aside0.mk (below_step (by repeat (first | (with_reducible first | exact HB.out | apply below_alloc | apply pw_below_drewN | apply below_drew1) | exact HB.out)) hb); have n1_ := Aside0.mk (hbox); have n2_ := Aside0.mk ((by rw [hg]; exact (below_size (by repeat (first | (with_reducible first | exact HB.out | apply below_alloc | apply pw_below_drewN | apply below_drew1) | exact HB.out))) : w.heap.size ≤ gb652)); have n3_ := Aside0.mk ((by rw [hg]; exact (below_size (by repeat (first | (with_reducible first | exact HB.out | apply below_alloc | apply pw_below_drewN | apply below_drew1) | exact HB.out))) : w.heap.size ≤ gb652)); clear HB; have HB := n0_; have BK652 := n1_; have GW652 := n2_; have GE652 := n3_; clear n0_ n1_ n2_ n3_; clear hb hbox hg) | ((with_reducible refine gate_dst (N := 3) rfl ?_); refine box_event ?hg (N := 3) ?hd (cs := #[.slice A1_0 l1_0.length c1_0, .int .i64 a1_1, .int .i64 a1_2, .bool a1_3]) (t := 28) ?hr ?_; (case hd => rfl); (case hg => rfl); (case hr => first | (go_simp; done) | (go_simp; rfl)); intro gb653 hg w24 hbox hb; have n0_ := Aside0.mk (blk_below (g := gb652) (o := .cells #[.slice A0_0 l0_0.length c0_0, .int .i64 a0_1, .int .i64 a0_2, .bool a0_3] 28 (0, 0)) (by (with_reducible repeat (first | refine blk_drewN ?_ _ | refine blk_drew ?_ | refine blk_alloc ?_ _)); exact BK652.out) hb); have n1_ := Aside0.mk (below_step (by repeat (first | (with_reducible first | exact HB.out | apply below_alloc | apply pw_below_drewN | apply below_drew1 | refine below_set ?_ GE652.out) | exact HB.out)) hb); have n2_ := Aside0.mk (hbox); have n3_ := Aside0.mk ((by rw [hg]; exact (below_size (by repeat (first | (with_reducible first | exact HB.out | apply below_alloc | apply pw_below_drewN | apply below_drew1 | refine below_set ?_ GE652.out) | exact HB.out))) : w.heap.size ≤ gb653)); have n4_ := Aside0.mk ((by rw [hg]; exact (below_size (by repeat (first | (with_reducible first | exact HB.out | apply below_alloc | apply pw_below_drewN | apply below_drew1 | refine below_set ?_ GE652.out) | exact HB.out))) : w.heap.size ≤ gb653)); have n5_ := Aside0.mk ((by rw [hg]; exact Nat.ne_of_lt (blk_lt (g := gb652) (o := .cells #[.slice A0_0 l0_0.length c0_0, .int .i64 a0_1, .int .i64 a0_2, .bool a0_3] 28 (0, 0)) (by (with_reducible repeat (first | refine blk_drewN ?_ _ | refine blk_drew ?_ | refine blk_alloc ?_ _)); exact BK652.out)) : gb652 ≠ gb653)); have n6_ := Aside0.mk ((by rw [hg]; exact Nat.ne_of_gt (blk_lt (g := gb652) (o := .cells #[.slice A0_0 l0_0.length c0_0, .int .i64 a0_1, .int .i64 a0_2, .bool a0_3] 28 (0, 0)) (by (with_reducible repeat (first | refine blk_drewN ?_ _ | refine blk_drew ?_ | refine blk_alloc ?_ _)); exact BK652.out)) : gb653 ≠ gb652)); clear BK652; clear HB; have BK652 := n0_; have HB := n1_; have BK653 := n2_; have GW653 := n3_; have GE653 := n4_; have NB652_653 := n5_; have NB653_652 := n6_; clear n0_ n1_ n2_ n3_ n4_ n5_ n6_; clear hb hbox hg; have hnb25 := NB652_653.out; have hnc25 := NB653_652.out; have hcz26_0 : w24.cell? ⟨gb652, 0, none⟩ = some (.slice A0_0 l0_0.length c0_0) := (blk_cell BK652.out 0).trans rfl; have hcz26_1 : w24.cell? ⟨gb652, 1, none⟩ = some (.int .i64 a0_1) := (blk_cell BK652.out 1).trans rfl; have hcz26_2 : w24.cell? ⟨gb652, 2, none⟩ = some (.int .i64 a0_2) := (blk_cell BK652.out 2).trans rfl; have hcz26_3 : w24.cell? ⟨gb652, 3, none⟩ = some (.bool a0_3) := (blk_cell BK652.out 3).trans rfl; have hfz26_0 := blk_frozen BK652.out 0; have hfz26_1 := blk_frozen BK652.out 1; have hfz26_2 := blk_frozen BK652.out 2; have hfz26_3 := blk_frozen BK652.out 3; have hcz27_0 : w24.cell? ⟨gb653, 0, none⟩ = some (.slice A1_0 l1_0.length c1_0) := (blk_cell BK653.out 0).trans rfl; have hcz27_1 : w24.cell? ⟨gb653, 1, none⟩ = some (.int .i64 a1_1) := (blk_cell BK653.out 1).trans rfl; have hcz27_2 : w24.cell? ⟨gb653, 2, none⟩ = some (.int .i64 a1_2) := (blk_cell BK653.out 2).trans rfl; have hcz27_3 : w24.cell? ⟨gb653, 3, none⟩ = some (.bool a1_3) := (blk_cell BK653.out 3).trans rfl; have hfz27_0 := blk_frozen BK653.out 0; have hfz27_1 := blk_frozen BK653.out 1; have hfz27_2 := blk_frozen BK653.out 2; have hfz27_3 := blk_frozen BK653.out 3) | ((with_reducible refine gate_callee (f := 17) rfl ?_); refine goesL_ (some 9) rfl rfl Try.func17 (by kernel_rfl) rfl #[.slice A0_0 l0_0.length c0_0, .slice A1_0 l1_0.length c1_0] rfl (by (try simp only [List.map_toArray, List.map_cons, List.map_nil]); first | done | rfl | (simp only [List.length_drop, List.length_take]; rfl)) ?_; (with_reducible refine (laws_eqByteSS.calls k _ _ l0_0 _ _ l1_0 true _ ?side1 ?side2 ?side3 ?side4 A3.out).mono ?_); (case side1 => repeat (first | exact (Kd.C_below HR0_0.out HB.out) | (with_reducible refine Kd.C_alloc ?_ _) | (with_reducible refine Kd.C_drewN ?_ _) | (with_reducible refine Kd.C_drew ?_))); (case side2 => exact HC0_0.out); (case side3 => repeat (first | exact (Kd.C_below HR1_0.out HB.out) | (with_reducible refine Kd.C_alloc ?_ _) | (with_reducible refine Kd.C_drewN ?_ _) | (with_reducible refine Kd.C_drew ?_))); (case side4 => exact HC1_0.out); rintro e w' ⟨rfl, ⟨nd, rfl⟩⟩; refine ⟨_, rfl, ?_⟩))
      go_ret
      exact ⟨by first | rfl | (simp [errW_none, errW_some] <;> rfl) | (simp [*, errW_none, errW_some] <;> rfl), by repeat (first | (with_reducible first | exact HB.out | apply below_alloc | apply pw_below_drewN | apply below_drew1 | refine below_set ?_ GE652.out | refine below_set ?_ GE653.out) | exact HB.out)⟩
  · replace c4 := Bool.eq_false_iff.mpr c4
    subst c4
    have H1 : (some false) = some r := by rw [if_neg (show ¬ (false = true) by decide)] at H; exact H
    clear H
    have H := H1
    clear H1
    obtain rfl := Option.some.inj H
    go_enter Try.func24, Try.ntmps24
    go_wp2_with (first | ((with_reducible refine gate_dst (N := 2) rfl ?_); refine box_event ?hg (N := 2) ?hd (cs := #[.slice A0_0 l0_0.length c0_0, .int .i64 a0_1, .int .i64 a0_2, .bool a0_3]) (t := 28) ?hr ?_; (case hd => rfl); (case hg => rfl); (case hr => first | (go_simp; done) | (go_simp; rfl)); intro gb652 hg w28 hbox hb; have n0_ := Aside0.mk (below_step (by repeat (first | (with_reducible first | exact HB.out | apply below_alloc | apply pw_below_drewN | apply below_drew1) | exact HB.out)) hb); have n1_ := Aside0.mk (hbox); have n2_ := Aside0.mk ((by rw [hg]; exact (below_size (by repeat (first | (with_reducible first | exact HB.out | apply below_alloc | apply pw_below_drewN | apply below_drew1) | exact HB.out))) : w.heap.size ≤ gb652)); have n3_ := Aside0.mk ((by rw [hg]; exact (below_size (by repeat (first | (with_reducible first | exact HB.out | apply below_alloc | apply pw_below_drewN | apply below_drew1) | exact HB.out))) : w.heap.size ≤ gb652)); clear HB; have HB := n0_; have BK652 := n1_; have GW652 := n2_; have GE652 := n3_; clear n0_ n1_ n2_ n3_; clear hb hbox hg) | ((with_reducible refine gate_dst (N := 3) rfl ?_); refine box_event ?hg (N := 3) ?hd (cs := #[.slice A1_0 l1_0.length c1_0, .int .i64 a1_1, .int .i64 a1_2, .bool a1_3]) (t := 28) ?hr ?_; (case hd => rfl); (case hg => rfl); (case hr => first | (go_simp; done) | (go_simp; rfl)); intro gb653 hg w29 hbox hb; have n0_ := Aside0.mk (blk_below (g := gb652) (o := .cells #[.slice A0_0 l0_0.length c0_0, .int .i64 a0_1, .int .i64 a0_2, .bool a0_3] 28 (0, 0)) (by (with_reducible repeat (first | refine blk_drewN ?_ _ | refine blk_drew ?_ | refine blk_alloc ?_ _)); exact BK652.out) hb); have n1_ := Aside0.mk (below_step (by repeat (first | (with_reducible first | exact HB.out | apply below_alloc | apply pw_below_drewN | apply below_drew1 | refine below_set ?_ GE652.out) | exact HB.out)) hb); have n2_ := Aside0.mk (hbox); have n3_ := Aside0.mk ((by rw [hg]; exact (below_size (by repeat (first | (with_reducible first | exact HB.out | apply below_alloc | apply pw_below_drewN | apply below_drew1 | refine below_set ?_ GE652.out) | exact HB.out))) : w.heap.size ≤ gb653)); have n4_ := Aside0.mk ((by rw [hg]; exact (below_size (by repeat (first | (with_reducible first | exact HB.out | apply below_alloc | apply pw_below_drewN | apply below_drew1 | refine below_set ?_ GE652.out) | exact HB.out))) : w.heap.size ≤ gb653)); have n5_ := Aside0.mk ((by rw [hg]; exact Nat.ne_of_lt (blk_lt (g := gb652) (o := .cells #[.slice A0_0 l0_0.length c0_0, .int .i64 a0_1, .int .i64 a0_2, .bool a0_3] 28 (0, 0)) (by (with_reducible repeat (first | refine blk_drewN ?_ _ | refine blk_drew ?_ | refine blk_alloc ?_ _)); exact BK652.out)) : gb652 ≠ gb653)); have n6_ := Aside0.mk ((by rw [hg]; exact Nat.ne_of_gt (blk_lt (g := gb652) (o := .cells #[.slice A0_0 l0_0.length c0_0, .int .i64 a0_1, .int .i64 a0_2, .bool a0_3] 28 (0, 0)) (by (with_reducible repeat (first | refine blk_drewN ?_ _ | refine blk_drew ?_ | refine blk_alloc ?_ _)); exact BK652.out)) : gb653 ≠ gb652)); clear BK652; clear HB; have BK652 := n0_; have HB := n1_; have BK653 := n2_; have GW653 := n3_; have GE653 := n4_; have NB652_653 := n5_; have NB653_652 := n6_; clear n0_ n1_ n2_ n3_ n4_ n5_ n6_; clear hb hbox hg; have hnb30 := NB652_653.out; have hnc30 := NB653_652.out; have hcz31_0 : w29.cell? ⟨gb652, 0, none⟩ = some (.slice A0_0 l0_0.length c0_0) := (blk_cell BK652.out 0).trans rfl; have hcz31_1 : w29.cell? ⟨gb652, 1, none⟩ = some (.int .i64 a0_1) := (blk_cell BK652.out 1).trans rfl; have hcz31_2 : w29.cell? ⟨gb652, 2, none⟩ = some (.int .i64 a0_2) := (blk_cell BK652.out 2).trans rfl; have hcz31_3 : w29.cell? ⟨gb652, 3, none⟩ = some (.bool a0_3) := (blk_cell BK652.out 3).trans rfl; have hfz31_0 := blk_frozen BK652.out 0; have hfz31_1 := blk_frozen BK652.out 1; have hfz31_2 := blk_frozen BK652.out 2; have hfz31_3 := blk_frozen BK652.out 3; have hcz32_0 : w29.cell? ⟨gb653, 0, none⟩ = some (.slice A1_0 l1_0.length c1_0) := (blk_cell BK653.out 0).trans rfl; have hcz32_1 : w29.cell? ⟨gb653, 1, none⟩ = some (.int .i64 a1_1) := (blk_cell BK653.out 1).trans rfl; have hcz32_2 : w29.cell? ⟨gb653, 2, none⟩ = some (.int .i64 a1_2) := (blk_cell BK653.out 2).trans rfl; have hcz32_3 : w29.cell? ⟨gb653, 3, none⟩ = some (.bool a1_3) := (blk_cell BK653.out 3).trans rfl; have hfz32_0 := blk_frozen BK653.out 0; have hfz32_1 := blk_frozen BK653.out 1; have hfz32_2 := blk_frozen BK653.out 2; have hfz32_3 := blk_frozen BK653.out 3) | ((with_reducible refine gate_callee (f := 17) rfl ?_); refine goesL_ (some 9) rfl rfl Try.func17 (by kernel_rfl) rfl #[.slice A0_0 l0_0.length c0_0, .slice A1_0 l1_0.length c1_0] rfl (by (try simp only [List.map_toArray, List.map_cons, List.map_nil]); first | done | rfl | (simp only [List.length_drop, List.length_take]; rfl)) ?_; (with_reducible refine (laws_eqByteSS.calls k _ _ l0_0 _ _ l1_0 false _ ?side1 ?side2 ?side3 ?side4 A3.out).mono ?_); (case side1 => repeat (first | exact (Kd.C_below HR0_0.out HB.out) | (with_reducible refine Kd.C_alloc ?_ _) | (with_reducible refine Kd.C_drewN ?_ _) | (with_reducible refine Kd.C_drew ?_))); (case side2 => exact HC0_0.out); (case side3 => repeat (first | exact (Kd.C_below HR1_0.out HB.out) | (with_reducible refine Kd.C_alloc ?_ _) | (with_reducible refine Kd.C_drewN ?_ _) | (with_reducible refine Kd.C_drew ?_))); (case side4 => exact HC1_0.out); rintro e w' ⟨rfl, ⟨nd, rfl⟩⟩; refine ⟨_, rfl, ?_⟩))
    go_ret
    exact ⟨by first | rfl | (simp [errW_none, errW_some] <;> rfl) | (simp [*, errW_none, errW_some] <;> rfl), by repeat (first | (with_reducible first | exact HB.out | apply below_alloc | apply pw_below_drewN | apply below_drew1 | refine below_set ?_ GE652.out | refine below_set ?_ GE653.out) | exact HB.out)⟩

def laws_markByteS.l0 : Nat → List Int → Int → Int → Option (Int × List Int)
  | 0, _, _, _ => none
  | k + 1, x0, x1, x5 => if x5 < (x0.length : Int) then (if 0 ≤ x5 then (laws_markByteS.l0 k (x0.set (x5 : Int).toNat ((x1) % 256)) (wrap64 (x1 + 1)) (wrap64 (x5 + 1))) else (none)) else (some (x1, x0))
def laws_markByteS.f (k : Nat) (l0 : List Int) (a1 : Int) : Option (Int × List Int) := laws_markByteS.l0 k l0 a1 0
set_option maxHeartbeats 8000000 in
set_option maxRecDepth 100000 in
theorem laws_markByteS.calls (k : Nat) (P0_ : Nat → Prop) (u9000_ : Value) (l0 : List Int) (a1 : Int) (r1 : Int) (r2 : List Int) (w0 w : World) (hB : Below w0.heap.size w0 w) (ho0 : Kd.R (Kd.int .u8) 5 w w0.heap.size P0_ u9000_ l0) (h : laws_markByteS.f k l0 a1 = some (r1, r2)) :
    Calls Try.prog 45 #[u9000_, .int .i64 a1] w fun e w' => e = .returned (.int .i64 r1) ∧ Kd.R (Kd.int .u8) 5 w' w0.heap.size (fun k_ => (P0_ k_ ∨ w.heap.size ≤ k_)) u9000_ r2 ∧ Below w0.heap.size w0 w' ∧ Kept w w' (fun k_ => P0_ k_) := by
  have HO0 := Aside0.mk (show Kd.R (Kd.int .u8) 5 w w0.heap.size (fun k_ => (P0_ k_ ∨ w.heap.size ≤ k_)) u9000_ l0 from Kd.R_mono ho0 (fun k_ hk => (.inl hk)))
  have HK := Aside0.mk (Kept.refl w (fun k_ => P0_ k_))
  have HW0 := Aside0.mk hB.size
  have HB := Aside0.mk hB
  clear hB
  have H : (laws_markByteS.l0 k l0 a1 0) = some (r1, r2) := h
  clear h
  have H' := Aside0.mk H
  clear H
  go_enter Try.func45, Try.ntmps45
  go_wp2
  go_loopg [1, 5] k (fun kq v1 v5 w' => ∃ (x0_1 : List Int) (x1_1 : Int) (x5_1 : Int), v1 = .int .i64 x1_1 ∧ v5 = .int .i64 x5_1 ∧ Aside0 (laws_markByteS.l0 kq x0_1 x1_1 x5_1 = some (r1, r2)) ∧ Aside0 (kq ≤ k) ∧ Aside0 (Kd.R (Kd.int .u8) 5 w' w0.heap.size (fun k_ => (P0_ k_ ∨ w.heap.size ≤ k_)) u9000_ x0_1) ∧ Aside0 (Kept w w' (fun k_ => P0_ k_)) ∧ Aside0 (Below w0.heap.size w0 w'))
  case atStart => exact ⟨(l0), (a1), (0), (by first | rfl | (simp; done) | (simp [*]; done)), (by first | rfl | (simp; done) | (simp [*]; done)), H', ⟨Nat.le_refl _⟩, ⟨by (with_reducible repeat (first | apply Kd.R_alloc | apply Kd.R_drewN | apply Kd.R_drew)); exact HO0.out⟩, ⟨by repeat (first | (with_reducible first | exact HK.out | apply Kept.alloc | apply Kept.drewN | apply Kept.drew) | exact HK.out)⟩, ⟨by repeat (first | (with_reducible first | exact HB.out | apply below_alloc | apply pw_below_drewN | apply below_drew1) | exact HB.out)⟩⟩
  case round =>
    clear H'
    try clear p2
    obtain ⟨x0_1, x1_1, x5_1, rfl, rfl, HA, HK1, HO_0, HK, HB⟩ := hrel
    cases gk with
    | zero => exact absurd HA.out (by simp [laws_markByteS.l0])
    | succ k1 =>
      have H := HA.out
      clear HA
      simp only [laws_markByteS.l0] at H
      by_cases c3 : x5_1 < (x0_1.length : Int)
      · rw [if_pos c3] at H
        have c3b0 : decide (x5_1 < (x0_1.length : Int)) = true := decide_eq_true c3
        clear c3
        by_cases c4 : 0 ≤ x5_1
        · rw [if_pos c4] at H
          have c4b0 : decide (0 ≤ x5_1) = true := decide_eq_true c4
          clear c4
          obtain ⟨y655, hy655⟩ : ∃ y_ : List Int, y_ = (x0_1.set (x5_1 : Int).toNat ((x1_1) % 256)) := ⟨_, rfl⟩
          replace H : (laws_markByteS.l0 k1 y655 (wrap64 (x1_1 + 1)) (wrap64 (x5_1 + 1))) = some (r1, r2) := by first | (rw [hy655]; with_reducible exact H) | (have H2_ := (Option.bind_some _ _).symm.trans H; rw [hy655]; with_reducible exact H2_) | (have H2_ := (Option.bind_some _ _).symm.trans H; with_reducible exact H2_) | with_reducible exact H | (rw [hy655]; exact H) | exact H
          have Ny655 := Aside0.mk hy655
          clear hy655
          have H' := Aside0.mk H
          clear H
          obtain ⟨Ao6, co6, eo6⟩ := Kd.R_slice HO_0.out
          subst eo6
          have p5 : 0 ≤ (x5_1 : Int) := of_decide_eq_true (by first | (with_reducible assumption) | assumption)
          have q5 : (x5_1 : Int) < ((x0_1.length : Int) : Int) := of_decide_eq_true (by first | (with_reducible assumption) | assumption)
          obtain ⟨go5, co5, eo5, gb5, gl5, cl5, HG5⟩ := Kd.R_form HO_0.out (by omega)
          (first | cases eo5 | (injection eo5 with ea_ en_ ec_; (first | subst ea_ | (injection ea_ with ea_; subst ea_)); subst ec_; clear en_))
          have GB5 := Aside0.mk gb5
          have GG5 := Aside0.mk HG5
          clear gb5 gl5 HG5
          have HMgo5 := Aside0.mk (show (P0_ go5 ∨ w.heap.size ≤ go5) from (HO_0.out.1 _ rfl))
          obtain ⟨hx5_0, hf5_0⟩ := Kd.R_celln 0 HO_0.out (x5_1 : Int) p5 q5
          replace p5 := eq_true p5
          replace q5 := eq_true q5
          have HP7 := Kd.R_putg HO_0.out (x5_1 : Int) ((x1_1) % 256)
          go_wp2_with (first | ((with_reducible refine gate_store (t := 5) (p := 16) rfl ?_); refine store_event (t := 5) (p := 16) (v := ?vo_w8) (w1 := (wr.setCell ⟨go5, (x5_1 : Int).toNat, none⟩ (.int .u8 ((x1_1) % 256)))) ?hg ?ho ?hn ?hr ?_; (case ho => rfl); (case hg => rfl); (case hn => rfl); (case hr => first | (go_simp; done) | (go_simp; rfl)); intro w8 hw; have hg : wr.grownBy w8 (some go5) := (by rw [hw]; exact HP7.2); have hp_ : Kd.R (Kd.int .u8) 5 w8 w0.heap.size (fun k_ => (P0_ k_ ∨ w.heap.size ≤ k_)) (.slice (some ⟨go5, 0, none⟩) x0_1.length co6) y655 := (by rw [hw, Ny655.out]; exact HP7.1); clear HP7; have n0_ := Aside0.mk (hp_); have n1_ := Aside0.mk ((by rw [hw]; exact below_set (HB.out) GB5.out : Below w0.heap.size w0 w8)); have n2_ := Aside0.mk (Kept.of_grown (S := (fun k_ => P0_ k_)) hg (by repeat (first | (with_reducible first | exact HK.out | apply Kept.alloc | apply Kept.drewN | apply Kept.drew) | exact HK.out)) (fun k_ e_ => (HO_0.out.1 k_ e_))); clear HO_0; clear HB; clear HK; have HO_0 := n0_; have HB := n1_; have HK := n2_; clear n0_ n1_ n2_; clear hg hw hp_))
          go_roundg k1
          case measure => have := HK1.out; omega
          case rel => exact ⟨(y655), (wrap64 (x1_1 + 1)), (wrap64 (x5_1 + 1)), (by first | rfl | (simp; done) | (simp [*]; done)), (by first | rfl | (simp; done) | (simp [*]; done)), H', ⟨by have := HK1.out; omega⟩, ⟨by (with_reducible repeat (first | apply Kd.R_alloc | apply Kd.R_drewN | apply Kd.R_drew)); exact HO_0.out⟩, ⟨by repeat (first | (with_reducible first | exact HK.out | apply Kept.alloc | apply Kept.drewN | apply Kept.drew) | exact HK.out)⟩, ⟨by repeat (first | (with_reducible first | exact HB.out | apply below_alloc | apply pw_below_drewN | apply below_drew1) | exact HB.out)⟩⟩
        · rw [if_neg c4] at H
          exact absurd H (by simp)
      · rw [if_neg c3] at H
        have c3b0 : decide (x5_1 < (x0_1.length : Int)) = false := decide_eq_false c3
        clear c3
        simp only [Option.some.injEq, Prod.mk.injEq] at H
        obtain ⟨rfl, rfl⟩ := H
        obtain ⟨Ao9, co9, eo9⟩ := Kd.R_slice HO_0.out
        subst eo9
        go_wp2
        go_ret
        exact ⟨by first | rfl | (simp [errW_none, errW_some] <;> rfl) | (simp [*, errW_none, errW_some] <;> rfl), by (with_reducible repeat (first | apply Kd.R_alloc | apply Kd.R_drewN | apply Kd.R_drew)); exact HO_0.out, by repeat (first | (with_reducible first | exact HB.out | apply below_alloc | apply pw_below_drewN | apply below_drew1) | exact HB.out), by repeat (first | (with_reducible first | exact HK.out | apply Kept.alloc | apply Kept.drewN | apply Kept.drew) | exact HK.out)⟩

def laws_markIntS.l0 : Nat → List Int → Int → Int → Option (Int × List Int)
  | 0, _, _, _ => none
  | k + 1, x0, x1, x5 => if x5 < (x0.length : Int) then (if 0 ≤ x5 then (laws_markIntS.l0 k (x0.set (x5 : Int).toNat x1) (wrap64 (x1 + 1)) (wrap64 (x5 + 1))) else (none)) else (some (x1, x0))
def laws_markIntS.f (k : Nat) (l0 : List Int) (a1 : Int) : Option (Int × List Int) := laws_markIntS.l0 k l0 a1 0
set_option maxHeartbeats 8000000 in
set_option maxRecDepth 100000 in
theorem laws_markIntS.calls (k : Nat) (P0_ : Nat → Prop) (u9000_ : Value) (l0 : List Int) (a1 : Int) (r1 : Int) (r2 : List Int) (w0 w : World) (hB : Below w0.heap.size w0 w) (ho0 : Kd.R (Kd.int .i64) 3 w w0.heap.size P0_ u9000_ l0) (h : laws_markIntS.f k l0 a1 = some (r1, r2)) :
    Calls Try.prog 26 #[u9000_, .int .i64 a1] w fun e w' => e = .returned (.int .i64 r1) ∧ Kd.R (Kd.int .i64) 3 w' w0.heap.size (fun k_ => (P0_ k_ ∨ w.heap.size ≤ k_)) u9000_ r2 ∧ Below w0.heap.size w0 w' ∧ Kept w w' (fun k_ => P0_ k_) := by
  have HO0 := Aside0.mk (show Kd.R (Kd.int .i64) 3 w w0.heap.size (fun k_ => (P0_ k_ ∨ w.heap.size ≤ k_)) u9000_ l0 from Kd.R_mono ho0 (fun k_ hk => (.inl hk)))
  have HK := Aside0.mk (Kept.refl w (fun k_ => P0_ k_))
  have HW0 := Aside0.mk hB.size
  have HB := Aside0.mk hB
  clear hB
  have H : (laws_markIntS.l0 k l0 a1 0) = some (r1, r2) := h
  clear h
  have H' := Aside0.mk H
  clear H
  go_enter Try.func26, Try.ntmps26
  go_wp2
  go_loopg [1, 5] k (fun kq v1 v5 w' => ∃ (x0_1 : List Int) (x1_1 : Int) (x5_1 : Int), v1 = .int .i64 x1_1 ∧ v5 = .int .i64 x5_1 ∧ Aside0 (laws_markIntS.l0 kq x0_1 x1_1 x5_1 = some (r1, r2)) ∧ Aside0 (kq ≤ k) ∧ Aside0 (Kd.R (Kd.int .i64) 3 w' w0.heap.size (fun k_ => (P0_ k_ ∨ w.heap.size ≤ k_)) u9000_ x0_1) ∧ Aside0 (Kept w w' (fun k_ => P0_ k_)) ∧ Aside0 (Below w0.heap.size w0 w'))
  case atStart => exact ⟨(l0), (a1), (0), (by first | rfl | (simp; done) | (simp [*]; done)), (by first | rfl | (simp; done) | (simp [*]; done)), H', ⟨Nat.le_refl _⟩, ⟨by (with_reducible repeat (first | apply Kd.R_alloc | apply Kd.R_drewN | apply Kd.R_drew)); exact HO0.out⟩, ⟨by repeat (first | (with_reducible first | exact HK.out | apply Kept.alloc | apply Kept.drewN | apply Kept.drew) | exact HK.out)⟩, ⟨by repeat (first | (with_reducible first | exact HB.out | apply below_alloc | apply pw_below_drewN | apply below_drew1) | exact HB.out)⟩⟩
  case round =>
    clear H'
    try clear c2
    try clear p2
    obtain ⟨x0_1, x1_1, x5_1, rfl, rfl, HA, HK1, HO_0, HK, HB⟩ := hrel
    cases gk with
    | zero => exact absurd HA.out (by simp [laws_markIntS.l0])
    | succ k1 =>
      have H := HA.out
      clear HA
      simp only [laws_markIntS.l0] at H
      by_cases c3 : x5_1 < (x0_1.length : Int)
      · rw [if_pos c3] at H
        have c3b0 : decide (x5_1 < (x0_1.length : Int)) = true := decide_eq_true c3
        clear c3
        by_cases c4 : 0 ≤ x5_1
        · rw [if_pos c4] at H
          have c4b0 : decide (0 ≤ x5_1) = true := decide_eq_true c4
          clear c4
          obtain ⟨y656, hy656⟩ : ∃ y_ : List Int, y_ = (x0_1.set (x5_1 : Int).toNat x1_1) := ⟨_, rfl⟩
          replace H : (laws_markIntS.l0 k1 y656 (wrap64 (x1_1 + 1)) (wrap64 (x5_1 + 1))) = some (r1, r2) := by first | (rw [hy656]; with_reducible exact H) | (have H2_ := (Option.bind_some _ _).symm.trans H; rw [hy656]; with_reducible exact H2_) | (have H2_ := (Option.bind_some _ _).symm.trans H; with_reducible exact H2_) | with_reducible exact H | (rw [hy656]; exact H) | exact H
          have Ny656 := Aside0.mk hy656
          clear hy656
          have H' := Aside0.mk H
          clear H
          obtain ⟨Ao6, co6, eo6⟩ := Kd.R_slice HO_0.out
          subst eo6
          have p5 : 0 ≤ (x5_1 : Int) := of_decide_eq_true (by first | (with_reducible assumption) | assumption)
          have q5 : (x5_1 : Int) < ((x0_1.length : Int) : Int) := of_decide_eq_true (by first | (with_reducible assumption) | assumption)
          obtain ⟨go5, co5, eo5, gb5, gl5, cl5, HG5⟩ := Kd.R_form HO_0.out (by omega)
          (first | cases eo5 | (injection eo5 with ea_ en_ ec_; (first | subst ea_ | (injection ea_ with ea_; subst ea_)); subst ec_; clear en_))
          have GB5 := Aside0.mk gb5
          have GG5 := Aside0.mk HG5
          clear gb5 gl5 HG5
          have HMgo5 := Aside0.mk (show (P0_ go5 ∨ w.heap.size ≤ go5) from (HO_0.out.1 _ rfl))
          obtain ⟨hx5_0, hf5_0⟩ := Kd.R_celln 0 HO_0.out (x5_1 : Int) p5 q5
          replace p5 := eq_true p5
          replace q5 := eq_true q5
          have HP7 := Kd.R_putg HO_0.out (x5_1 : Int) x1_1
          go_wp2_with (first | ((with_reducible refine gate_store (t := 3) (p := 15) rfl ?_); refine store_event (t := 3) (p := 15) (v := ?vo_w8) (w1 := (wr.setCell ⟨go5, (x5_1 : Int).toNat, none⟩ (.int .i64 x1_1))) ?hg ?ho ?hn ?hr ?_; (case ho => rfl); (case hg => rfl); (case hn => rfl); (case hr => first | (go_simp; done) | (go_simp; rfl)); intro w8 hw; have hg : wr.grownBy w8 (some go5) := (by rw [hw]; exact HP7.2); have hp_ : Kd.R (Kd.int .i64) 3 w8 w0.heap.size (fun k_ => (P0_ k_ ∨ w.heap.size ≤ k_)) (.slice (some ⟨go5, 0, none⟩) x0_1.length co6) y656 := (by rw [hw, Ny656.out]; exact HP7.1); clear HP7; have n0_ := Aside0.mk (hp_); have n1_ := Aside0.mk ((by rw [hw]; exact below_set (HB.out) GB5.out : Below w0.heap.size w0 w8)); have n2_ := Aside0.mk (Kept.of_grown (S := (fun k_ => P0_ k_)) hg (by repeat (first | (with_reducible first | exact HK.out | apply Kept.alloc | apply Kept.drewN | apply Kept.drew) | exact HK.out)) (fun k_ e_ => (HO_0.out.1 k_ e_))); clear HO_0; clear HB; clear HK; have HO_0 := n0_; have HB := n1_; have HK := n2_; clear n0_ n1_ n2_; clear hg hw hp_))
          go_roundg k1
          case measure => have := HK1.out; omega
          case rel => exact ⟨(y656), (wrap64 (x1_1 + 1)), (wrap64 (x5_1 + 1)), (by first | rfl | (simp; done) | (simp [*]; done)), (by first | rfl | (simp; done) | (simp [*]; done)), H', ⟨by have := HK1.out; omega⟩, ⟨by (with_reducible repeat (first | apply Kd.R_alloc | apply Kd.R_drewN | apply Kd.R_drew)); exact HO_0.out⟩, ⟨by repeat (first | (with_reducible first | exact HK.out | apply Kept.alloc | apply Kept.drewN | apply Kept.drew) | exact HK.out)⟩, ⟨by repeat (first | (with_reducible first | exact HB.out | apply below_alloc | apply pw_below_drewN | apply below_drew1) | exact HB.out)⟩⟩
        · rw [if_neg c4] at H
          exact absurd H (by simp)
      · rw [if_neg c3] at H
        have c3b0 : decide (x5_1 < (x0_1.length : Int)) = false := decide_eq_false c3
        clear c3
        simp only [Option.some.injEq, Prod.mk.injEq] at H
        obtain ⟨rfl, rfl⟩ := H
        obtain ⟨Ao9, co9, eo9⟩ := Kd.R_slice HO_0.out
        subst eo9
        go_wp2
        go_ret
        exact ⟨by first | rfl | (simp [errW_none, errW_some] <;> rfl) | (simp [*, errW_none, errW_some] <;> rfl), by (with_reducible repeat (first | apply Kd.R_alloc | apply Kd.R_drewN | apply Kd.R_drew)); exact HO_0.out, by repeat (first | (with_reducible first | exact HB.out | apply below_alloc | apply pw_below_drewN | apply below_drew1) | exact HB.out), by repeat (first | (with_reducible first | exact HK.out | apply Kept.alloc | apply Kept.drewN | apply Kept.drew) | exact HK.out)⟩

def laws_heldByteS.l0 : Nat → List Int → Int → Int → Option (Int)
  | 0, _, _, _ => none
  | k + 1, x0, x1, x5 => if x5 < (x0.length : Int) then (if 0 ≤ x5 then (if (rd x0 x5) = ((x1) % 256) then (laws_heldByteS.l0 k x0 (wrap64 (x1 + 1)) (wrap64 (x5 + 1))) else (some (-1))) else (none)) else (some x1)
def laws_heldByteS.f (k : Nat) (l0 : List Int) (a1 : Int) : Option (Int) := laws_heldByteS.l0 k l0 a1 0
set_option maxHeartbeats 8000000 in
set_option maxRecDepth 100000 in
theorem laws_heldByteS.calls (k : Nat) (A0 : Option Addr) (c0 : Nat) (l0 : List Int) (a1 : Int) (r : Int) (w : World) (hr0 : Kd.C (Kd.int .u8) w A0 l0.length l0) (hc0 : l0.length ≤ c0) (h : laws_heldByteS.f k l0 a1 = some r) :
    Calls Try.prog 61 #[.slice A0 l0.length c0, .int .i64 a1] w fun e w' => e = .returned (.int .i64 r) ∧ Drawn0 w w' := by
  have HR0 := Aside0.mk hr0
  have HC0 := Aside0.mk hc0
  clear hr0 hc0
  have H : (laws_heldByteS.l0 k l0 a1 0) = some r := h
  clear h
  have H' := Aside0.mk H
  clear H
  go_enter Try.func61, Try.ntmps61
  go_wp2
  go_loopg [1, 5] k (fun kq v1 v5 w' => ∃ (x1_1 : Int) (x5_1 : Int), v1 = .int .i64 x1_1 ∧ v5 = .int .i64 x5_1 ∧ Aside0 (laws_heldByteS.l0 kq l0 x1_1 x5_1 = some r) ∧ Aside0 (kq ≤ k) ∧ Drawn0 w w')
  case atStart => exact ⟨(a1), (0), (by first | rfl | (simp; done) | (simp [*]; done)), (by first | rfl | (simp; done) | (simp [*]; done)), H', ⟨Nat.le_refl _⟩, by repeat (first | exact Drawn0.refl _ | apply Drawn0.step)⟩
  case round =>
    clear H'
    try clear p2
    obtain ⟨x1_1, x5_1, rfl, rfl, HA, HK1, ⟨m1, rfl⟩⟩ := hrel
    cases gk with
    | zero => exact absurd HA.out (by simp [laws_heldByteS.l0])
    | succ k1 =>
      have H := HA.out
      clear HA
      simp only [laws_heldByteS.l0] at H
      by_cases c3 : x5_1 < (l0.length : Int)
      · rw [if_pos c3] at H
        have c3b0 : decide (x5_1 < (l0.length : Int)) = true := decide_eq_true c3
        clear c3
        by_cases c4 : 0 ≤ x5_1
        · rw [if_pos c4] at H
          have c4b0 : decide (0 ≤ x5_1) = true := decide_eq_true c4
          clear c4
          by_cases c5 : (rd l0 x5_1) = ((x1_1) % 256)
          · rw [if_pos c5] at H
            have c5b0 : ((rd l0 x5_1) == ((x1_1) % 256)) = true := beq_iff_eq.mpr c5
            have c5b1 : ((rd l0 x5_1) != ((x1_1) % 256)) = false := bne_eq_false_iff_eq.mpr c5
            clear c5
            have H' := Aside0.mk H
            clear H
            have p659 : 0 ≤ (x5_1 : Int) := of_decide_eq_true (by first | (with_reducible assumption) | assumption)
            have q659 : x5_1 < (l0.length : Int) := of_decide_eq_true (by first | (with_reducible assumption) | assumption)
            obtain ⟨ad659, e659, hx659_0⟩ := Kd.at_int HR0.out x5_1 p659 q659
            cases e659
            replace p659 := eq_true p659
            replace q659 := eq_true q659
            go_wp2
            go_roundg k1
            case measure => have := HK1.out; omega
            case rel => exact ⟨(wrap64 (x1_1 + 1)), (wrap64 (x5_1 + 1)), (by first | rfl | (simp; done) | (simp [*]; done)), (by first | rfl | (simp; done) | (simp [*]; done)), H', ⟨by have := HK1.out; omega⟩, by repeat (first | exact Drawn0.refl _ | apply Drawn0.step)⟩
          · rw [if_neg c5] at H
            have c5b0 : ((rd l0 x5_1) == ((x1_1) % 256)) = false := beq_eq_false_iff_ne.mpr c5
            have c5b1 : ((rd l0 x5_1) != ((x1_1) % 256)) = true := bne_iff_ne.mpr c5
            obtain rfl := Option.some.inj H
            have p659 : 0 ≤ (x5_1 : Int) := of_decide_eq_true (by first | (with_reducible assumption) | assumption)
            have q659 : x5_1 < (l0.length : Int) := of_decide_eq_true (by first | (with_reducible assumption) | assumption)
            obtain ⟨ad659, e659, hx659_0⟩ := Kd.at_int HR0.out x5_1 p659 q659
            cases e659
            replace p659 := eq_true p659
            replace q659 := eq_true q659
            go_wp2
            go_ret
            exact ⟨by first | rfl | (simp; done) | (simp [*]; done), by repeat (first | exact Drawn0.refl _ | apply Drawn0.step)⟩
        · rw [if_neg c4] at H
          exact absurd H (by simp)
      · rw [if_neg c3] at H
        have c3b0 : decide (x5_1 < (l0.length : Int)) = false := decide_eq_false c3
        clear c3
        obtain rfl := Option.some.inj H
        go_wp2
        go_ret
        exact ⟨by first | rfl | (simp; done) | (simp [*]; done), by repeat (first | exact Drawn0.refl _ | apply Drawn0.step)⟩

def laws_heldByteSS.l0 : Nat → List (List Int) → Int → Int → Option (Int)
  | 0, _, _, _ => none
  | k + 1, x0, x1, x5 => if x5 < (x0.length : Int) then (if 0 ≤ x5 then ((laws_heldByteS.f k (rd_L2 x0 x5) x1).bind fun t661 => (if t661 < 0 then (some (-1)) else (laws_heldByteSS.l0 k x0 t661 (wrap64 (x5 + 1))))) else (none)) else (some x1)
def laws_heldByteSS.f (k : Nat) (l0 : List (List Int)) (a1 : Int) : Option (Int) := laws_heldByteSS.l0 k l0 a1 0
set_option maxHeartbeats 8000000 in
set_option maxRecDepth 100000 in
theorem laws_heldByteSS.calls (k : Nat) (A0 : Option Addr) (c0 : Nat) (l0 : List (List Int)) (a1 : Int) (r : Int) (w : World) (hr0 : Kd.C (Kd.slice 5 (Kd.int .u8)) w A0 l0.length l0) (hc0 : l0.length ≤ c0) (h : laws_heldByteSS.f k l0 a1 = some r) :
    Calls Try.prog 46 #[.slice A0 l0.length c0, .int .i64 a1] w fun e w' => e = .returned (.int .i64 r) ∧ Drawn0 w w' := by
  have HR0 := Aside0.mk hr0
  have HC0 := Aside0.mk hc0
  clear hr0 hc0
  have H : (laws_heldByteSS.l0 k l0 a1 0) = some r := h
  clear h
  have H' := Aside0.mk H
  clear H
  go_enter Try.func46, Try.ntmps46
  go_wp2
  go_loopg [1, 5] k (fun kq v1 v5 w' => ∃ (x1_1 : Int) (x5_1 : Int), v1 = .int .i64 x1_1 ∧ v5 = .int .i64 x5_1 ∧ Aside0 (laws_heldByteSS.l0 kq l0 x1_1 x5_1 = some r) ∧ Aside0 (kq ≤ k) ∧ Drawn0 w w')
  case atStart => exact ⟨(a1), (0), (by first | rfl | (simp; done) | (simp [*]; done)), (by first | rfl | (simp; done) | (simp [*]; done)), H', ⟨Nat.le_refl _⟩, by repeat (first | exact Drawn0.refl _ | apply Drawn0.step)⟩
  case round =>
    clear H'
    try clear p2
    obtain ⟨x1_1, x5_1, rfl, rfl, HA, HK1, ⟨m1, rfl⟩⟩ := hrel
    cases gk with
    | zero => exact absurd HA.out (by simp [laws_heldByteSS.l0])
    | succ k1 =>
      have H := HA.out
      clear HA
      simp only [laws_heldByteSS.l0] at H
      by_cases c3 : x5_1 < (l0.length : Int)
      · rw [if_pos c3] at H
        have c3b0 : decide (x5_1 < (l0.length : Int)) = true := decide_eq_true c3
        clear c3
        by_cases c4 : 0 ≤ x5_1
        · rw [if_pos c4] at H
          have c4b0 : decide (0 ≤ x5_1) = true := decide_eq_true c4
          clear c4
          replace H := Option.bind_eq_some_iff.mp H
          obtain ⟨t661, A50, H⟩ := H
          replace H : (if t661 < 0 then (some (-1)) else (laws_heldByteSS.l0 k1 l0 t661 (wrap64 (x5_1 + 1)))) = some r := H
          have A5 := Aside0.mk A50
          clear A50
          by_cases c6 : t661 < 0
          · rw [if_pos c6] at H
            have c6b0 : decide (t661 < 0) = true := decide_eq_true c6
            clear c6
            obtain rfl := Option.some.inj H
            have p660 : 0 ≤ (x5_1 : Int) := of_decide_eq_true (by first | (with_reducible assumption) | assumption)
            have q660 : x5_1 < (l0.length : Int) := of_decide_eq_true (by first | (with_reducible assumption) | assumption)
            obtain ⟨ad660, A660_0, c660_0, e660, hx660_0, hl660_0, hi660_0⟩ := at_L2 HR0.out x5_1 p660 q660
            cases e660
            have HR660_0 := Aside0.mk hi660_0
            have HC660_0 := Aside0.mk hl660_0
            clear hi660_0 hl660_0
            replace p660 := eq_true p660
            replace q660 := eq_true q660
            go_wp2_with (first | ((with_reducible refine gate_callee (f := 61) rfl ?_); refine goesL_ (some 17) rfl rfl Try.func61 (by kernel_rfl) rfl #[.slice A660_0 (rd_L2 l0 x5_1).length c660_0, .int .i64 x1_1] rfl (by (try simp only [List.map_toArray, List.map_cons, List.map_nil]); first | done | rfl | (simp only [List.length_drop, List.length_take]; rfl)) ?_; (with_reducible refine (laws_heldByteS.calls k1 _ _ (rd_L2 l0 x5_1) x1_1 t661 _ ?side1 ?side2 A5.out).mono ?_); (case side1 => repeat (first | exact HR660_0.out | (with_reducible refine Kd.C_alloc ?_ _) | (with_reducible refine Kd.C_drewN ?_ _) | (with_reducible refine Kd.C_drew ?_))); (case side2 => exact HC660_0.out); rintro e w' ⟨rfl, ⟨nd, rfl⟩⟩; refine ⟨_, rfl, ?_⟩))
            go_ret
            exact ⟨by first | rfl | (simp; done) | (simp [*]; done), by repeat (first | exact Drawn0.refl _ | apply Drawn0.step)⟩
          · rw [if_neg c6] at H
            have c6b0 : decide (t661 < 0) = false := decide_eq_false c6
            clear c6
            have H' := Aside0.mk H
            clear H
            have p660 : 0 ≤ (x5_1 : Int) := of_decide_eq_true (by first | (with_reducible assumption) | assumption)
            have q660 : x5_1 < (l0.length : Int) := of_decide_eq_true (by first | (with_reducible assumption) | assumption)
            obtain ⟨ad660, A660_0, c660_0, e660, hx660_0, hl660_0, hi660_0⟩ := at_L2 HR0.out x5_1 p660 q660
            cases e660
            have HR660_0 := Aside0.mk hi660_0
            have HC660_0 := Aside0.mk hl660_0
            clear hi660_0 hl660_0
            replace p660 := eq_true p660
            replace q660 := eq_true q660
            go_wp2_with (first | ((with_reducible refine gate_callee (f := 61) rfl ?_); refine goesL_ (some 17) rfl rfl Try.func61 (by kernel_rfl) rfl #[.slice A660_0 (rd_L2 l0 x5_1).length c660_0, .int .i64 x1_1] rfl (by (try simp only [List.map_toArray, List.map_cons, List.map_nil]); first | done | rfl | (simp only [List.length_drop, List.length_take]; rfl)) ?_; (with_reducible refine (laws_heldByteS.calls k1 _ _ (rd_L2 l0 x5_1) x1_1 t661 _ ?side1 ?side2 A5.out).mono ?_); (case side1 => repeat (first | exact HR660_0.out | (with_reducible refine Kd.C_alloc ?_ _) | (with_reducible refine Kd.C_drewN ?_ _) | (with_reducible refine Kd.C_drew ?_))); (case side2 => exact HC660_0.out); rintro e w' ⟨rfl, ⟨nd, rfl⟩⟩; refine ⟨_, rfl, ?_⟩))
            go_roundg k1
            case measure => have := HK1.out; omega
            case rel => exact ⟨(t661), (wrap64 (x5_1 + 1)), (by first | rfl | (simp; done) | (simp [*]; done)), (by first | rfl | (simp; done) | (simp [*]; done)), H', ⟨by have := HK1.out; omega⟩, by repeat (first | exact Drawn0.refl _ | apply Drawn0.step)⟩
        · rw [if_neg c4] at H
          exact absurd H (by simp)
      · rw [if_neg c3] at H
        have c3b0 : decide (x5_1 < (l0.length : Int)) = false := decide_eq_false c3
        clear c3
        obtain rfl := Option.some.inj H
        go_wp2
        go_ret
        exact ⟨by first | rfl | (simp; done) | (simp [*]; done), by repeat (first | exact Drawn0.refl _ | apply Drawn0.step)⟩

def laws_heldLinkRun.f (k : Nat) (l0_0 : List (List Int)) (a0_1 : Int) (a0_2 : Int) (a0_3 : Bool) (a1 : Int) : Option (Int) := (laws_heldByteSS.f k l0_0 a1).bind fun t663 => (if t663 < 0 then (some (-1)) else (some t663))
set_option maxHeartbeats 8000000 in
set_option maxRecDepth 100000 in
theorem laws_heldLinkRun.calls (k : Nat) (A0_0 : Option Addr) (c0_0 : Nat) (l0_0 : List (List Int)) (a0_1 : Int) (a0_2 : Int) (a0_3 : Bool) (a1 : Int) (r : Int) (w : World) (hr0_0 : Kd.C (Kd.slice 5 (Kd.int .u8)) w A0_0 l0_0.length l0_0) (hc0_0 : l0_0.length ≤ c0_0) (h : laws_heldLinkRun.f k l0_0 a0_1 a0_2 a0_3 a1 = some r) :
    Calls Try.prog 28 #[.agg #[.slice A0_0 l0_0.length c0_0, .int .i64 a0_1, .int .i64 a0_2, .bool a0_3], .int .i64 a1] w fun e w' => e = .returned (.int .i64 r) ∧ Below w.heap.size w w' := by
  have hu28 := Try.underlying28
  have HR0_0 := Aside0.mk hr0_0
  have HC0_0 := Aside0.mk hc0_0
  clear hr0_0 hc0_0
  have HB := Aside0.mk (Below.refl w.heap.size w)
  have H : ((laws_heldByteSS.f k l0_0 a1).bind fun t663 => (if t663 < 0 then (some (-1)) else (some t663))) = some r := h
  clear h
  replace H := Option.bind_eq_some_iff.mp H
  obtain ⟨t663, A30, H⟩ := H
  replace H : (if t663 < 0 then (some (-1)) else (some t663)) = some r := H
  have A3 := Aside0.mk A30
  clear A30
  by_cases c4 : t663 < 0
  · rw [if_pos c4] at H
    have c4b0 : decide (t663 < 0) = true := decide_eq_true c4
    clear c4
    obtain rfl := Option.some.inj H
    go_enter Try.func28, Try.ntmps28
    go_wp2_with (first | ((with_reducible refine gate_dst (N := 2) rfl ?_); refine box_event ?hg (N := 2) ?hd (cs := #[.slice A0_0 l0_0.length c0_0, .int .i64 a0_1, .int .i64 a0_2, .bool a0_3]) (t := 28) ?hr ?_; (case hd => rfl); (case hg => rfl); (case hr => first | (go_simp; done) | (go_simp; rfl)); intro gb662 hg w5 hbox hb; have n0_ := Aside0.mk (below_step (by repeat (first | (with_reducible first | exact HB.out | apply below_alloc | apply pw_below_drewN | apply below_drew1) | exact HB.out)) hb); have n1_ := Aside0.mk (hbox); have n2_ := Aside0.mk ((by rw [hg]; exact (below_size (by repeat (first | (with_reducible first | exact HB.out | apply below_alloc | apply pw_below_drewN | apply below_drew1) | exact HB.out))) : w.heap.size ≤ gb662)); have n3_ := Aside0.mk ((by rw [hg]; exact (below_size (by repeat (first | (with_reducible first | exact HB.out | apply below_alloc | apply pw_below_drewN | apply below_drew1) | exact HB.out))) : w.heap.size ≤ gb662)); clear HB; have HB := n0_; have BK662 := n1_; have GW662 := n2_; have GE662 := n3_; clear n0_ n1_ n2_ n3_; clear hb hbox hg; have hcz6_0 : w5.cell? ⟨gb662, 0, none⟩ = some (.slice A0_0 l0_0.length c0_0) := (blk_cell BK662.out 0).trans rfl; have hcz6_1 : w5.cell? ⟨gb662, 1, none⟩ = some (.int .i64 a0_1) := (blk_cell BK662.out 1).trans rfl; have hcz6_2 : w5.cell? ⟨gb662, 2, none⟩ = some (.int .i64 a0_2) := (blk_cell BK662.out 2).trans rfl; have hcz6_3 : w5.cell? ⟨gb662, 3, none⟩ = some (.bool a0_3) := (blk_cell BK662.out 3).trans rfl; have hfz6_0 := blk_frozen BK662.out 0; have hfz6_1 := blk_frozen BK662.out 1; have hfz6_2 := blk_frozen BK662.out 2; have hfz6_3 := blk_frozen BK662.out 3) | ((with_reducible refine gate_callee (f := 46) rfl ?_); refine goesL_ (some 8) rfl rfl Try.func46 (by kernel_rfl) rfl #[.slice A0_0 l0_0.length c0_0, .int .i64 a1] rfl (by (try simp only [List.map_toArray, List.map_cons, List.map_nil]); first | done | rfl | (simp only [List.length_drop, List.length_take]; rfl)) ?_; (with_reducible refine (laws_heldByteSS.calls k _ _ l0_0 a1 t663 _ ?side1 ?side2 A3.out).mono ?_); (case side1 => repeat (first | exact (Kd.C_below HR0_0.out HB.out) | (with_reducible refine Kd.C_alloc ?_ _) | (with_reducible refine Kd.C_drewN ?_ _) | (with_reducible refine Kd.C_drew ?_))); (case side2 => exact HC0_0.out); rintro e w' ⟨rfl, ⟨nd, rfl⟩⟩; refine ⟨_, rfl, ?_⟩))
    go_ret
    exact ⟨by first | rfl | (simp [errW_none, errW_some] <;> rfl) | (simp [*, errW_none, errW_some] <;> rfl), by repeat (first | (with_reducible first | exact HB.out | apply below_alloc | apply pw_below_drewN | apply below_drew1 | refine below_set ?_ GE662.out) | exact HB.out)⟩
  · rw [if_neg c4] at H
    have c4b0 : decide (t663 < 0) = false := decide_eq_false c4
    clear c4
    obtain rfl := Option.some.inj H
    go_enter Try.func28, Try.ntmps28
    go_wp2_with (first | ((with_reducible refine gate_dst (N := 2) rfl ?_); refine box_event ?hg (N := 2) ?hd (cs := #[.slice A0_0 l0_0.length c0_0, .int .i64 a0_1, .int .i64 a0_2, .bool a0_3]) (t := 28) ?hr ?_; (case hd => rfl); (case hg => rfl); (case hr => first | (go_simp; done) | (go_simp; rfl)); intro gb662 hg w7 hbox hb; have n0_ := Aside0.mk (below_step (by repeat (first | (with_reducible first | exact HB.out | apply below_alloc | apply pw_below_drewN | apply below_drew1) | exact HB.out)) hb); have n1_ := Aside0.mk (hbox); have n2_ := Aside0.mk ((by rw [hg]; exact (below_size (by repeat (first | (with_reducible first | exact HB.out | apply below_alloc | apply pw_below_drewN | apply below_drew1) | exact HB.out))) : w.heap.size ≤ gb662)); have n3_ := Aside0.mk ((by rw [hg]; exact (below_size (by repeat (first | (with_reducible first | exact HB.out | apply below_alloc | apply pw_below_drewN | apply below_drew1) | exact HB.out))) : w.heap.size ≤ gb662)); clear HB; have HB := n0_; have BK662 := n1_; have GW662 := n2_; have GE662 := n3_; clear n0_ n1_ n2_ n3_; clear hb hbox hg; have hcz8_0 : w7.cell? ⟨gb662, 0, none⟩ = some (.slice A0_0 l0_0.length c0_0) := (blk_cell BK662.out 0).trans rfl; have hcz8_1 : w7.cell? ⟨gb662, 1, none⟩ = some (.int .i64 a0_1) := (blk_cell BK662.out 1).trans rfl; have hcz8_2 : w7.cell? ⟨gb662, 2, none⟩ = some (.int .i64 a0_2) := (blk_cell BK662.out 2).trans rfl; have hcz8_3 : w7.cell? ⟨gb662, 3, none⟩ = some (.bool a0_3) := (blk_cell BK662.out 3).trans rfl; have hfz8_0 := blk_frozen BK662.out 0; have hfz8_1 := blk_frozen BK662.out 1; have hfz8_2 := blk_frozen BK662.out 2; have hfz8_3 := blk_frozen BK662.out 3) | ((with_reducible refine gate_callee (f := 46) rfl ?_); refine goesL_ (some 8) rfl rfl Try.func46 (by kernel_rfl) rfl #[.slice A0_0 l0_0.length c0_0, .int .i64 a1] rfl (by (try simp only [List.map_toArray, List.map_cons, List.map_nil]); first | done | rfl | (simp only [List.length_drop, List.length_take]; rfl)) ?_; (with_reducible refine (laws_heldByteSS.calls k _ _ l0_0 a1 t663 _ ?side1 ?side2 A3.out).mono ?_); (case side1 => repeat (first | exact (Kd.C_below HR0_0.out HB.out) | (with_reducible refine Kd.C_alloc ?_ _) | (with_reducible refine Kd.C_drewN ?_ _) | (with_reducible refine Kd.C_drew ?_))); (case side2 => exact HC0_0.out); rintro e w' ⟨rfl, ⟨nd, rfl⟩⟩; refine ⟨_, rfl, ?_⟩))
    go_ret
    exact ⟨by first | rfl | (simp [errW_none, errW_some] <;> rfl) | (simp [*, errW_none, errW_some] <;> rfl), by repeat (first | (with_reducible first | exact HB.out | apply below_alloc | apply pw_below_drewN | apply below_drew1 | refine below_set ?_ GE662.out) | exact HB.out)⟩

end Go.Proofs.Ytookabfmbimnoaa.Lk

namespace Go.Proofs.Ytookabfmbimnoaa.Lk
open Go.RowKit Go.Proofs.YtookabfmbimnoaaW.PrintWords Go.Proofs.YtookabfmbimnoaaW.PrintLast Go.Proofs.YtookabfmbimnoaaW.PrintMore
set_option linter.unusedVariables false
set_option linter.unusedSimpArgs false

def markSS (k : Nat) : List (List Int) → Int → Option (Int × List (List Int))
  | [], a => some (a, [])
  | b :: bs, a => (laws_markByteS.f k b a).bind fun p => (markSS k bs p.1).bind fun q => some (q.1, p.2 :: q.2)
set_option maxHeartbeats 8000000 in
set_option maxRecDepth 100000 in
theorem markSS_calls (k : Nat) (P0_ : Nat → Prop) (u : Value) (l0 : List (List Int)) (a1 r1 : Int) (r2 : List (List Int)) (w0 w : World) (hB : Below w0.heap.size w0 w) (ho0 : Kd.S (Kd.slice 5 (Kd.int .u8)) 22 w w0.heap.size P0_ u l0) (h : markSS k l0 a1 = some (r1, r2)) (hl0 : l0.length ≤ 9223372036854775806) :
    Calls Try.prog 25 #[u, .int .i64 a1] w fun e w' => e = .returned (.int .i64 r1) ∧ Kd.S (Kd.slice 5 (Kd.int .u8)) 22 w' w0.heap.size P0_ u r2 ∧ Below w0.heap.size w0 w' ∧ Kept w w' P0_ := by
  obtain ⟨Au, cu, eu⟩ := Kd.S_slice ho0
  subst eu
  have HO0 := Aside0.mk ho0
  have HB0 := Aside0.mk hB
  have HM0 := Aside0.mk h
  have HL := Aside0.mk hl0
  clear ho0 hB h hl0
  go_enter Try.func25, Try.ntmps25
  go_wp2
  go_loopg [1, 5] l0.length (fun kq v1 v5 w' => ∃ (j : Nat) (aj : Int) (ys : List (List Int)), v1 = .int .i64 aj ∧ v5 = .int .i64 (j : Int) ∧ Aside0 (j + kq = l0.length) ∧ Aside0 (ys.length = j) ∧ Aside0 (∃ zs, markSS k (l0.drop j) aj = some (r1, zs) ∧ r2 = ys ++ zs) ∧ Aside0 (Kd.S (Kd.slice 5 (Kd.int .u8)) 22 w' w0.heap.size P0_ (.slice Au l0.length cu) (ys ++ l0.drop j)) ∧ Aside0 (Below w0.heap.size w0 w') ∧ Aside0 (Kept w w' P0_))
  case atStart => exact ⟨0, a1, [], rfl, rfl, ⟨by omega⟩, ⟨rfl⟩, ⟨⟨r2, HM0.out, rfl⟩⟩, ⟨HO0.out⟩, ⟨HB0.out⟩, ⟨Kept.refl _ _⟩⟩
  case round =>
    clear HO0 HB0 HM0
    obtain ⟨j, aj, ys, rfl, rfl, HJ, HY, HM, HO, HB, HK⟩ := hrel
    cases gk with
    | zero =>
      have hj : j = l0.length := by have := HJ.out; omega
      have c1 : decide ((j : Int) < l0.length) = false := decide_eq_false (by omega)
      have hz := HM.out
      rw [List.drop_eq_nil_of_le (by omega)] at hz
      obtain ⟨zs, hz1, hz2⟩ := hz
      simp only [markSS, Option.some.injEq, Prod.mk.injEq] at hz1
      obtain ⟨rfl, rfl⟩ := hz1
      have ho := HO.out
      rw [List.drop_eq_nil_of_le (by omega), List.append_nil] at ho
      rw [List.append_nil] at hz2
      have HZ := Aside0.mk hz2
      have HO1 := Aside0.mk ho
      clear ho hz2 HO HM
      go_wp2
      go_ret
      exact ⟨rfl, by rw [HZ.out]; exact HO1.out, HB.out, HK.out⟩
    | succ k1 =>
      have hj : j < l0.length := by have := HJ.out; omega
      have hbig := HL.out
      have c1 : decide ((j : Int) < l0.length) = true := decide_eq_true (by omega)
      have c2 : ((0 : Int) ≤ (j : Int)) = True := eq_true (by omega)
      have c3 : ((j : Int) < l0.length) = True := eq_true (by omega)
      have hd : l0.drop j = l0[j] :: l0.drop (j + 1) := List.drop_eq_getElem_cons hj
      have hz := HM.out
      rw [hd] at hz
      obtain ⟨zs, hz1, hz2⟩ := hz
      rw [markSS] at hz1
      obtain ⟨⟨p1, p2⟩, hp, hz3⟩ := Option.bind_eq_some_iff.1 hz1
      obtain ⟨⟨q1, q2⟩, hq, hz4⟩ := Option.bind_eq_some_iff.1 hz3
      simp only [Option.some.injEq, Prod.mk.injEq] at hz4
      obtain ⟨rfl, rfl⟩ := hz4
      clear hz1 hz3
      have HP := Aside0.mk hp
      have HQ := Aside0.mk (show ∃ zs, markSS k (l0.drop (j + 1)) p1 = some (q1, zs) ∧ r2 = (ys ++ [p2]) ++ zs from ⟨q2, hq, by rw [List.append_assoc]; exact hz2⟩)
      clear hp hq hz2 HM
      have ho := HO.out
      obtain ⟨g, cap, ev, _, _⟩ := Kd.S_form ho (by rw [List.length_append, List.length_drop]; omega)
      injection ev with eA eL eC
      clear eL eC
      subst eA
      have hyl := HY.out
      obtain ⟨oki, cc, hcl, hM, hcc, hfr, hoki, hH⟩ := Kd.S_elem ho [] (j : Int) (by omega) (by omega)
      have hget : (ys ++ l0.drop j).getD j [] = l0[j] := by
        rw [List.getD_eq_getElem?_getD, List.getElem?_append_right (by omega), hyl, Nat.sub_self, hd]
        rfl
      rw [Int.toNat_natCast, hget] at hM
      obtain ⟨v, rfl, hR⟩ := hM
      obtain ⟨Av, cv, evv⟩ := Kd.R_slice hR
      subst evv
      have hcell := hcc 0 _ rfl
      have hidx : ((j : Int).toNat * (Kd.slice 5 (Kd.int .u8)).sz + 0) = j := Nat.mul_one j
      rw [hidx] at hcell
      have hset : (ys ++ l0.drop j).set (j : Int).toNat p2 = (ys ++ [p2]) ++ l0.drop (j + 1) := by
        rw [Int.toNat_natCast, List.set_append_right _ _ (by omega), hyl, Nat.sub_self, hd, List.append_assoc]
        rfl
      have HH := Aside0.mk hH
      have HR := Aside0.mk hR
      have HOKI := Aside0.mk hoki
      have HSET := Aside0.mk hset
      clear hcl hcc hfr hidx hget hR hH hoki ho hset hd hyl
      go_wp2_with ((with_reducible refine gate_callee (f := 45) rfl ?_); refine goesL_ (some 17) rfl rfl Try.func45 (by kernel_rfl) rfl #[.slice Av l0[j].length cv, .int .i64 aj] rfl (by (try simp only [List.map_toArray, List.map_cons, List.map_nil]); first | done | rfl) ?_; (with_reducible refine (laws_markByteS.calls k oki (.slice Av l0[j].length cv) l0[j] aj p1 p2 w0 _ HB.out HR.out HP.out).mono ?_); rintro e w8 ⟨rfl, hr, hb, hk⟩; refine ⟨_, rfl, ?_⟩; have n0_ := Aside0.mk (Kd.H_back (x' := p2) (Kd.H_kept HH.out hk (fun _ _ hn => hn)) (Kd.M_row (Kd.R_reok rfl hr (fun q e_ => HR.out.1 q e_))) (fun _ hq => hq)); have n1_ := Aside0.mk hb; have n2_ := Aside0.mk (HK.out.then_ hk (fun q hq => .inl (HOKI.out q hq).1)); rw [HSET.out] at n0_; have HO2 := n0_; have HB2 := n1_; have HK2 := n2_; clear n0_ n1_ n2_ hr hb hk HH HR HO HB HK)
      go_roundg k1
      case measure => omega
      case rel => exact ⟨j + 1, p1, ys ++ [p2], rfl, by go_num, ⟨by have := HJ.out; omega⟩, ⟨by rw [List.length_append, HY.out]; rfl⟩, HQ, HO2, HB2, HK2⟩
set_option maxHeartbeats 8000000 in
set_option maxRecDepth 100000 in
theorem markLinkRun_calls (k : Nat) (P0_ : Nat → Prop) (u : Value) (l0 : List (List Int)) (x1 x2 : Int) (x3 : Bool) (a1 r1 : Int) (r2 : List (List Int)) (w0 w : World) (hB : Below w0.heap.size w0 w) (ho0 : Kd.S (Kd.slice 5 (Kd.int .u8)) 22 w w0.heap.size P0_ u l0) (h : markSS k l0 a1 = some (r1, r2)) (hl0 : l0.length ≤ 9223372036854775806) :
    Calls Try.prog 27 #[.agg #[u, .int .i64 x1, .int .i64 x2, .bool x3], .int .i64 a1] w fun e w' => e = .returned (.int .i64 r1) ∧ Kd.S (Kd.slice 5 (Kd.int .u8)) 22 w' w0.heap.size P0_ u r2 ∧ Below w0.heap.size w0 w' ∧ Kept w w' P0_ := by
  obtain ⟨Au, cu, eu⟩ := Kd.S_slice ho0
  subst eu
  have HO0 := Aside0.mk (Kd.S_alloc ho0 (.cells #[.slice Au l0.length cu, .int .i64 x1, .int .i64 x2, .bool x3] 28))
  have HB0 := Aside0.mk (show Below w0.heap.size w0 (w.alloc (.cells #[.slice Au l0.length cu, .int .i64 x1, .int .i64 x2, .bool x3] 28)) from below_alloc hB _)
  have HK0 := Aside0.mk (show Kept w (w.alloc (.cells #[.slice Au l0.length cu, .int .i64 x1, .int .i64 x2, .bool x3] 28)) P0_ from (Kept.refl w P0_).alloc _)
  have HC := Aside0.mk (markSS_calls k P0_ (.slice Au l0.length cu) l0 a1 r1 r2 w0 _ HB0.out HO0.out h hl0)
  clear ho0 hB h hl0 HB0 HO0
  have hu28 := Try.underlying28
  go_enter Try.func27, Try.ntmps27
  go_wp2_with (go_at_call 25; refine HC.out.mono ?_; rintro e w' ⟨rfl, hs, hb, hk⟩; have HS := Aside0.mk hs; have HBB := Aside0.mk hb; have HKK := Aside0.mk hk; clear hs hb hk)
  go_ret
  exact ⟨rfl, HS.out, HBB.out, HK0.out.then_ HKK.out (fun _ hs => .inl hs)⟩
end Go.Proofs.Ytookabfmbimnoaa.Lk

namespace Go.Proofs.Ytookabfmbimnoaa.Lk
open Go.RowKit Go.Proofs.YtookabfmbimnoaaW.PrintWords Go.Proofs.YtookabfmbimnoaaW.PrintLast Go.Proofs.YtookabfmbimnoaaW.PrintMore
attribute [local go_sem] max2_int min2_int max_two min_two max_three min_three max_four min_four   -- for this text's walks alone
set_option linter.unusedVariables false
set_option linter.unusedSimpArgs false

def spec_RunLink.f (k : Nat) (a0 : Int) (l1 : List (List Int)) (l2 : List Int) (l3 : List Int) (a4 : Int) : Option ((List (List Int)) × Int × Int × Bool × Bool) := (spec_l5Link.f k a0 l1 l2 l3).bind fun t418 => (if t418 = true then ((spec_l1In.f a4 0 400).bind fun t419 => (if t419 = true then ((spec_l5Run.f k a0 l1 l2 l3 a4).bind fun bt420 => (some (bt420.1, bt420.2.1, bt420.2.2.1, bt420.2.2.2, true))) else (some (([] : List (List Int)), 0, 0, false, false)))) else (some (([] : List (List Int)), 0, 0, false, false)))
set_option maxHeartbeats 8000000 in
set_option maxRecDepth 100000 in
theorem spec_RunLink.calls (k : Nat) (a0 : Int) (A1 : Option Addr) (c1 : Nat) (l1 : List (List Int)) (A2 : Option Addr) (c2 : Nat) (l2 : List Int) (A3 : Option Addr) (c3 : Nat) (l3 : List Int) (a4 : Int) (r1 : List (List Int)) (r2 : Int) (r3 : Int) (r4 : Bool) (r5 : Bool) (w : World) (hr1 : Kd.C (Kd.slice 5 (Kd.int .u8)) w A1 l1.length l1) (hc1 : l1.length ≤ c1) (hr2 : Kd.C (Kd.int .i64) w A2 l2.length l2) (hc2 : l2.length ≤ c2) (hr3 : Kd.C (Kd.int .i64) w A3 l3.length l3) (hc3 : l3.length ≤ c3) (h : spec_RunLink.f k a0 l1 l2 l3 a4 = some (r1, r2, r3, r4, r5)) :
    Calls Try.prog 11 #[.int .i64 a0, .slice A1 l1.length c1, .slice A2 l2.length c2, .slice A3 l3.length c3, .int .i64 a4] w fun e w' => ∃ v0_ : Value, e = .returned (.tuple #[.agg #[v0_, .int .i64 r2, .int .i64 r3, .bool r4], .bool r5]) ∧ Kd.S (Kd.slice 5 (Kd.int .u8)) 22 w' w.heap.size (fun _ => True) v0_ r1 ∧ Below w.heap.size w w' := by
  have hu28 := Try.underlying28
  have HR1 := Aside0.mk hr1
  have HC1 := Aside0.mk hc1
  clear hr1 hc1
  have HR2 := Aside0.mk hr2
  have HC2 := Aside0.mk hc2
  clear hr2 hc2
  have HR3 := Aside0.mk hr3
  have HC3 := Aside0.mk hc3
  clear hr3 hc3
  have HB := Aside0.mk (Below.refl w.heap.size w)
  have H : ((spec_l5Link.f k a0 l1 l2 l3).bind fun t418 => (if t418 = true then ((spec_l1In.f a4 0 400).bind fun t419 => (if t419 = true then ((spec_l5Run.f k a0 l1 l2 l3 a4).bind fun bt420 => (some (bt420.1, bt420.2.1, bt420.2.2.1, bt420.2.2.2, true))) else (some (([] : List (List Int)), 0, 0, false, false)))) else (some (([] : List (List Int)), 0, 0, false, false)))) = some (r1, r2, r3, r4, r5) := h
  clear h
  replace H := Option.bind_eq_some_iff.mp H
  obtain ⟨t418, A60, H⟩ := H
  replace H : (if t418 = true then ((spec_l1In.f a4 0 400).bind fun t419 => (if t419 = true then ((spec_l5Run.f k a0 l1 l2 l3 a4).bind fun bt420 => (some (bt420.1, bt420.2.1, bt420.2.2.1, bt420.2.2.2, true))) else (some (([] : List (List Int)), 0, 0, false, false)))) else (some (([] : List (List Int)), 0, 0, false, false))) = some (r1, r2, r3, r4, r5) := H
  have A6 := Aside0.mk A60
  clear A60
  by_cases c7 : t418 = true
  · subst c7
    have H1 : ((spec_l1In.f a4 0 400).bind fun t419 => (if t419 = true then ((spec_l5Run.f k a0 l1 l2 l3 a4).bind fun bt420 => (some (bt420.1, bt420.2.1, bt420.2.2.1, bt420.2.2.2, true))) else (some (([] : List (List Int)), 0, 0, false, false)))) = some (r1, r2, r3, r4, r5) := by rw [if_pos rfl] at H; exact H
    clear H
    have H := H1
    clear H1
    replace H := Option.bind_eq_some_iff.mp H
    obtain ⟨t419, A80, H⟩ := H
    replace H : (if t419 = true then ((spec_l5Run.f k a0 l1 l2 l3 a4).bind fun bt420 => (some (bt420.1, bt420.2.1, bt420.2.2.1, bt420.2.2.2, true))) else (some (([] : List (List Int)), 0, 0, false, false))) = some (r1, r2, r3, r4, r5) := H
    have A8 := Aside0.mk A80
    clear A80
    by_cases c9 : t419 = true
    · subst c9
      have H1 : ((spec_l5Run.f k a0 l1 l2 l3 a4).bind fun bt420 => (some (bt420.1, bt420.2.1, bt420.2.2.1, bt420.2.2.2, true))) = some (r1, r2, r3, r4, r5) := by rw [if_pos rfl] at H; exact H
      clear H
      have H := H1
      clear H1
      replace H := Option.bind_eq_some_iff.mp H
      obtain ⟨⟨t420, t423, t424, t425⟩, A100, H⟩ := H
      replace H : (some (t420, t423, t424, t425, true)) = some (r1, r2, r3, r4, r5) := H
      have A10 := Aside0.mk A100
      clear A100
      simp only [Option.some.injEq, Prod.mk.injEq] at H
      obtain ⟨rfl, rfl, rfl, rfl, rfl⟩ := H
      go_enter Try.func11, Try.ntmps11
      go_wp2_with (first | ((with_reducible refine gate_dst (N := 10) rfl ?_); refine box_event ?hg (N := 10) ?hd (cs := #[.slice none 0 0, .int .i64 0, .int .i64 0, .bool false]) (t := 28) ?hr ?_; (case hd => rfl); (case hg => rfl); (case hr => first | (go_simp; done) | (go_simp; rfl)); intro gb417 hg w11 hbox hb; have n0_ := Aside0.mk (below_step (by repeat (first | (with_reducible first | exact HB.out | apply below_alloc | apply pw_below_drewN | apply below_drew1) | exact HB.out)) hb); have n1_ := Aside0.mk (hbox); have n2_ := Aside0.mk ((by rw [hg]; exact (below_size (by repeat (first | (with_reducible first | exact HB.out | apply below_alloc | apply pw_below_drewN | apply below_drew1) | exact HB.out))) : w.heap.size ≤ gb417)); have n3_ := Aside0.mk ((by rw [hg]; exact (below_size (by repeat (first | (with_reducible first | exact HB.out | apply below_alloc | apply pw_below_drewN | apply below_drew1) | exact HB.out))) : w.heap.size ≤ gb417)); clear HB; have HB := n0_; have BK417 := n1_; have GW417 := n2_; have GE417 := n3_; clear n0_ n1_ n2_ n3_; clear hb hbox hg) | ((with_reducible refine gate_callee (f := 35) rfl ?_); refine goesL_ (some 16) rfl rfl Try.func35 (by kernel_rfl) rfl #[.int .i64 a0, .slice A1 l1.length c1, .slice A2 l2.length c2, .slice A3 l3.length c3] rfl (by (try simp only [List.map_toArray, List.map_cons, List.map_nil]); first | done | rfl | (simp only [List.length_drop, List.length_take]; rfl)) ?_; (with_reducible refine (spec_l5Link.calls k a0 _ _ l1 _ _ l2 _ _ l3 true _ ?side1 ?side2 ?side3 ?side4 ?side5 ?side6 A6.out).mono ?_); (case side1 => repeat (first | exact (Kd.C_below HR1.out HB.out) | (with_reducible refine Kd.C_alloc ?_ _) | (with_reducible refine Kd.C_drewN ?_ _) | (with_reducible refine Kd.C_drew ?_))); (case side2 => exact HC1.out); (case side3 => repeat (first | exact (Kd.C_below HR2.out HB.out) | (with_reducible refine Kd.C_alloc ?_ _) | (with_reducible refine Kd.C_drewN ?_ _) | (with_reducible refine Kd.C_drew ?_))); (case side4 => exact HC2.out); (case side5 => repeat (first | exact (Kd.C_below HR3.out HB.out) | (with_reducible refine Kd.C_alloc ?_ _) | (with_reducible refine Kd.C_drewN ?_ _) | (with_reducible refine Kd.C_drew ?_))); (case side6 => exact HC3.out); rintro e w' ⟨rfl, ⟨nd, rfl⟩⟩; refine ⟨_, rfl, ?_⟩; (try (rw [drewN_self w11]; generalize hq_ : World.drewN w11 _ = w11; have n0_ : Aside0 (w11.heap[gb417]? = some (.cells #[.slice none 0 0, .int .i64 0, .int .i64 0, .bool false] 28 (0, 0))) := ⟨by rw [← hq_]; exact (by (with_reducible repeat (first | refine blk_drewN ?_ _ | refine blk_drew ?_ | refine blk_alloc ?_ _)); exact BK417.out)⟩; have n1_ : Aside0 (Below w.heap.size w w11) := ⟨by rw [← hq_]; exact (by repeat (first | (with_reducible first | exact HB.out | apply below_alloc | apply pw_below_drewN | apply below_drew1 | refine below_set ?_ GE417.out) | exact HB.out))⟩; clear BK417 HB hq_; have BK417 := n0_; have HB := n1_; clear n0_ n1_))) | (go_at_call 36; (with_reducible refine (spec_l1In.calls a4 0 400 true _ A8.out).mono ?_); rintro e w' ⟨rfl, ⟨nd, rfl⟩⟩; (try (rw [drewN_self w11]; generalize hq_ : World.drewN w11 _ = w11; have n0_ : Aside0 (w11.heap[gb417]? = some (.cells #[.slice none 0 0, .int .i64 0, .int .i64 0, .bool false] 28 (0, 0))) := ⟨by rw [← hq_]; exact (by (with_reducible repeat (first | refine blk_drewN ?_ _ | refine blk_drew ?_ | refine blk_alloc ?_ _)); exact BK417.out)⟩; have n1_ : Aside0 (Below w.heap.size w w11) := ⟨by rw [← hq_]; exact (by repeat (first | (with_reducible first | exact HB.out | apply below_alloc | apply pw_below_drewN | apply below_drew1 | refine below_set ?_ GE417.out) | exact HB.out))⟩; clear BK417 HB hq_; have BK417 := n0_; have HB := n1_; clear n0_ n1_))) | ((with_reducible refine gate_callee (f := 37) rfl ?_); refine goesL_ (some 29) rfl rfl Try.func37 (by kernel_rfl) rfl #[.int .i64 a0, .slice A1 l1.length c1, .slice A2 l2.length c2, .slice A3 l3.length c3, .int .i64 a4] rfl (by (try simp only [List.map_toArray, List.map_cons, List.map_nil]); first | done | rfl | (simp only [List.length_drop, List.length_take]; rfl)) ?_; (with_reducible refine (spec_l5Run.calls k a0 _ _ l1 _ _ l2 _ _ l3 a4 t420 t423 t424 t425 _ ?side1 ?side2 ?side3 ?side4 ?side5 ?side6 A10.out).mono ?_); (case side1 => repeat (first | exact (Kd.C_below HR1.out HB.out) | (with_reducible refine Kd.C_alloc ?_ _) | (with_reducible refine Kd.C_drewN ?_ _) | (with_reducible refine Kd.C_drew ?_))); (case side2 => exact HC1.out); (case side3 => repeat (first | exact (Kd.C_below HR2.out HB.out) | (with_reducible refine Kd.C_alloc ?_ _) | (with_reducible refine Kd.C_drewN ?_ _) | (with_reducible refine Kd.C_drew ?_))); (case side4 => exact HC2.out); (case side5 => repeat (first | exact (Kd.C_below HR3.out HB.out) | (with_reducible refine Kd.C_alloc ?_ _) | (with_reducible refine Kd.C_drewN ?_ _) | (with_reducible refine Kd.C_drew ?_))); (case side6 => exact HC3.out); rintro e w12 ⟨v421, rfl, ho0, hb⟩; refine ⟨_, rfl, ?_⟩; have n0_ := Aside0.mk (Kd.S_lower ho0 (below_size (by repeat (first | (with_reducible first | exact HB.out | apply below_alloc | apply pw_below_drewN | apply below_drew1 | refine below_set ?_ GE417.out) | exact HB.out)))); have n1_ := Aside0.mk (blk_below (g := gb417) (o := .cells #[.slice none 0 0, .int .i64 0, .int .i64 0, .bool false] 28 (0, 0)) (by (with_reducible repeat (first | refine blk_drewN ?_ _ | refine blk_drew ?_ | refine blk_alloc ?_ _)); exact BK417.out) hb); have n2_ := Aside0.mk (below_step (by repeat (first | (with_reducible first | exact HB.out | apply below_alloc | apply pw_below_drewN | apply below_drew1 | refine below_set ?_ GE417.out) | exact HB.out)) hb); clear BK417; clear HB; have HO422 := n0_; have BK417 := n1_; have HB := n2_; clear n0_ n1_ n2_; (try clear hb); (try clear hb2); (try clear hk); (try clear hi); (try clear ho0); obtain ⟨Ao13, co13, eo13⟩ := Kd.S_slice HO422.out; subst eo13; have hcz14_0 : w12.cell? ⟨gb417, 0, none⟩ = some (.slice none 0 0) := (blk_cell BK417.out 0).trans rfl; have hcz14_1 : w12.cell? ⟨gb417, 1, none⟩ = some (.int .i64 0) := (blk_cell BK417.out 1).trans rfl; have hcz14_2 : w12.cell? ⟨gb417, 2, none⟩ = some (.int .i64 0) := (blk_cell BK417.out 2).trans rfl; have hcz14_3 : w12.cell? ⟨gb417, 3, none⟩ = some (.bool false) := (blk_cell BK417.out 3).trans rfl; have hfz14_0 := blk_frozen BK417.out 0; have hfz14_1 := blk_frozen BK417.out 1; have hfz14_2 := blk_frozen BK417.out 2; have hfz14_3 := blk_frozen BK417.out 3))
      refine bodyPost_ret (results_ct rfl _ _ gb417 28 #[.slice Ao13 t420.length co13, .int .i64 t423, .int .i64 t424, .bool t425] (0, 0) _ rfl (by (with_reducible repeat (first | refine blk_drewN ?_ _ | refine blk_drew ?_ | refine blk_alloc ?_ _)); refine blk_put (cs := #[.slice Ao13 t420.length co13, .int .i64 t423, .int .i64 t424, .bool false]) ?_ 3 _ rfl; (with_reducible repeat (first | refine blk_drewN ?_ _ | refine blk_drew ?_ | refine blk_alloc ?_ _)); refine blk_put (cs := #[.slice Ao13 t420.length co13, .int .i64 t423, .int .i64 0, .bool false]) ?_ 2 _ rfl; (with_reducible repeat (first | refine blk_drewN ?_ _ | refine blk_drew ?_ | refine blk_alloc ?_ _)); refine blk_put (cs := #[.slice Ao13 t420.length co13, .int .i64 0, .int .i64 0, .bool false]) ?_ 1 _ rfl; (with_reducible repeat (first | refine blk_drewN ?_ _ | refine blk_drew ?_ | refine blk_alloc ?_ _)); refine blk_put (cs := #[.slice none 0 0, .int .i64 0, .int .i64 0, .bool false]) ?_ 0 _ rfl; (with_reducible repeat (first | refine blk_drewN ?_ _ | refine blk_drew ?_ | refine blk_alloc ?_ _)); exact BK417.out) Try.underlying28 rfl (by kernel_rfl)) rfl ?_
      exact ⟨_, by first | rfl | (simp [errW_none, errW_some] <;> rfl) | (simp [*, errW_none, errW_some] <;> rfl), by (with_reducible repeat (first | apply Kd.S_alloc | apply Kd.S_drewN | apply Kd.S_drew)); exact Kd.S_mono (Kd.S_far (p := ⟨gb417, 3, none⟩) (Kd.S_far (p := ⟨gb417, 2, none⟩) (Kd.S_far (p := ⟨gb417, 1, none⟩) (Kd.S_far (p := ⟨gb417, 0, none⟩) (Kd.S_types HO422.out BK417.out (by decide)) (fun _ hk => hk.2) (.slice Ao13 t420.length co13)) (fun _ hk => hk.2) (.int .i64 t423)) (fun _ hk => hk.2) (.int .i64 t424)) (fun _ hk => hk.2) (.bool t425)) (fun _ hk => trivial), by repeat (first | (with_reducible first | exact HB.out | apply below_alloc | apply pw_below_drewN | apply below_drew1 | refine below_set ?_ GE417.out) | exact HB.out)⟩
    · replace c9 := Bool.eq_false_iff.mpr c9
      subst c9
      have H1 : (some (([] : List (List Int)), 0, 0, false, false)) = some (r1, r2, r3, r4, r5) := by rw [if_neg (show ¬ (false = true) by decide)] at H; exact H
      clear H
      have H := H1
      clear H1
      simp only [Option.some.injEq, Prod.mk.injEq] at H
      obtain ⟨rfl, rfl, rfl, rfl, rfl⟩ := H
      go_enter Try.func11, Try.ntmps11
      go_wp2_with (first | ((with_reducible refine gate_dst (N := 10) rfl ?_); refine box_event ?hg (N := 10) ?hd (cs := #[.slice none 0 0, .int .i64 0, .int .i64 0, .bool false]) (t := 28) ?hr ?_; (case hd => rfl); (case hg => rfl); (case hr => first | (go_simp; done) | (go_simp; rfl)); intro gb417 hg w15 hbox hb; have n0_ := Aside0.mk (below_step (by repeat (first | (with_reducible first | exact HB.out | apply below_alloc | apply pw_below_drewN | apply below_drew1) | exact HB.out)) hb); have n1_ := Aside0.mk (hbox); have n2_ := Aside0.mk ((by rw [hg]; exact (below_size (by repeat (first | (with_reducible first | exact HB.out | apply below_alloc | apply pw_below_drewN | apply below_drew1) | exact HB.out))) : w.heap.size ≤ gb417)); have n3_ := Aside0.mk ((by rw [hg]; exact (below_size (by repeat (first | (with_reducible first | exact HB.out | apply below_alloc | apply pw_below_drewN | apply below_drew1) | exact HB.out))) : w.heap.size ≤ gb417)); clear HB; have HB := n0_; have BK417 := n1_; have GW417 := n2_; have GE417 := n3_; clear n0_ n1_ n2_ n3_; clear hb hbox hg) | ((with_reducible refine gate_callee (f := 35) rfl ?_); refine goesL_ (some 16) rfl rfl Try.func35 (by kernel_rfl) rfl #[.int .i64 a0, .slice A1 l1.length c1, .slice A2 l2.length c2, .slice A3 l3.length c3] rfl (by (try simp only [List.map_toArray, List.map_cons, List.map_nil]); first | done | rfl | (simp only [List.length_drop, List.length_take]; rfl)) ?_; (with_reducible refine (spec_l5Link.calls k a0 _ _ l1 _ _ l2 _ _ l3 true _ ?side1 ?side2 ?side3 ?side4 ?side5 ?side6 A6.out).mono ?_); (case side1 => repeat (first | exact (Kd.C_below HR1.out HB.out) | (with_reducible refine Kd.C_alloc ?_ _) | (with_reducible refine Kd.C_drewN ?_ _) | (with_reducible refine Kd.C_drew ?_))); (case side2 => exact HC1.out); (case side3 => repeat (first | exact (Kd.C_below HR2.out HB.out) | (with_reducible refine Kd.C_alloc ?_ _) | (with_reducible refine Kd.C_drewN ?_ _) | (with_reducible refine Kd.C_drew ?_))); (case side4 => exact HC2.out); (case side5 => repeat (first | exact (Kd.C_below HR3.out HB.out) | (with_reducible refine Kd.C_alloc ?_ _) | (with_reducible refine Kd.C_drewN ?_ _) | (with_reducible refine Kd.C_drew ?_))); (case side6 => exact HC3.out); rintro e w' ⟨rfl, ⟨nd, rfl⟩⟩; refine ⟨_, rfl, ?_⟩; (try (rw [drewN_self w15]; generalize hq_ : World.drewN w15 _ = w15; have n0_ : Aside0 (w15.heap[gb417]? = some (.cells #[.slice none 0 0, .int .i64 0, .int .i64 0, .bool false] 28 (0, 0))) := ⟨by rw [← hq_]; exact (by (with_reducible repeat (first | refine blk_drewN ?_ _ | refine blk_drew ?_ | refine blk_alloc ?_ _)); exact BK417.out)⟩; have n1_ : Aside0 (Below w.heap.size w w15) := ⟨by rw [← hq_]; exact (by repeat (first | (with_reducible first | exact HB.out | apply below_alloc | apply pw_below_drewN | apply below_drew1 | refine below_set ?_ GE417.out) | exact HB.out))⟩; clear BK417 HB hq_; have BK417 := n0_; have HB := n1_; clear n0_ n1_))) | (go_at_call 36; (with_reducible refine (spec_l1In.calls a4 0 400 false _ A8.out).mono ?_); rintro e w' ⟨rfl, ⟨nd, rfl⟩⟩; (try (rw [drewN_self w15]; generalize hq_ : World.drewN w15 _ = w15; have n0_ : Aside0 (w15.heap[gb417]? = some (.cells #[.slice none 0 0, .int .i64 0, .int .i64 0, .bool false] 28 (0, 0))) := ⟨by rw [← hq_]; exact (by (with_reducible repeat (first | refine blk_drewN ?_ _ | refine blk_drew ?_ | refine blk_alloc ?_ _)); exact BK417.out)⟩; have n1_ : Aside0 (Below w.heap.size w w15) := ⟨by rw [← hq_]; exact (by repeat (first | (with_reducible first | exact HB.out | apply below_alloc | apply pw_below_drewN | apply below_drew1 | refine below_set ?_ GE417.out) | exact HB.out))⟩; clear BK417 HB hq_; have BK417 := n0_; have HB := n1_; clear n0_ n1_)); have hcz16_0 : w15.cell? ⟨gb417, 0, none⟩ = some (.slice none 0 0) := (blk_cell BK417.out 0).trans rfl; have hcz16_1 : w15.cell? ⟨gb417, 1, none⟩ = some (.int .i64 0) := (blk_cell BK417.out 1).trans rfl; have hcz16_2 : w15.cell? ⟨gb417, 2, none⟩ = some (.int .i64 0) := (blk_cell BK417.out 2).trans rfl; have hcz16_3 : w15.cell? ⟨gb417, 3, none⟩ = some (.bool false) := (blk_cell BK417.out 3).trans rfl; have hfz16_0 := blk_frozen BK417.out 0; have hfz16_1 := blk_frozen BK417.out 1; have hfz16_2 := blk_frozen BK417.out 2; have hfz16_3 := blk_frozen BK417.out 3))
      refine bodyPost_ret (results_ct rfl _ _ gb417 28 #[.slice none 0 0, .int .i64 0, .int .i64 0, .bool false] (0, 0) _ rfl (by (with_reducible repeat (first | refine blk_drewN ?_ _ | refine blk_drew ?_ | refine blk_alloc ?_ _)); refine blk_put (cs := #[.slice none 0 0, .int .i64 0, .int .i64 0, .bool false]) ?_ 3 _ rfl; (with_reducible repeat (first | refine blk_drewN ?_ _ | refine blk_drew ?_ | refine blk_alloc ?_ _)); refine blk_put (cs := #[.slice none 0 0, .int .i64 0, .int .i64 0, .bool false]) ?_ 2 _ rfl; (with_reducible repeat (first | refine blk_drewN ?_ _ | refine blk_drew ?_ | refine blk_alloc ?_ _)); refine blk_put (cs := #[.slice none 0 0, .int .i64 0, .int .i64 0, .bool false]) ?_ 1 _ rfl; (with_reducible repeat (first | refine blk_drewN ?_ _ | refine blk_drew ?_ | refine blk_alloc ?_ _)); refine blk_put (cs := #[.slice none 0 0, .int .i64 0, .int .i64 0, .bool false]) ?_ 0 _ rfl; (with_reducible repeat (first | refine blk_drewN ?_ _ | refine blk_drew ?_ | refine blk_alloc ?_ _)); exact BK417.out) Try.underlying28 rfl (by kernel_rfl)) rfl ?_
      exact ⟨_, by first | rfl | (simp [errW_none, errW_some] <;> rfl) | (simp [*, errW_none, errW_some] <;> rfl), by first | exact Kd.S_nil _ _ _ _ _ | exact Kd.N_nil _ _ _ _ _ | exact Kd.V_nil _ _ _ _ _ | exact Kd.Q_nil _ _ _ _ _ | exact Kd.R_nil _ _ _ _ _, by repeat (first | (with_reducible first | exact HB.out | apply below_alloc | apply pw_below_drewN | apply below_drew1 | refine below_set ?_ GE417.out) | exact HB.out)⟩
  · replace c7 := Bool.eq_false_iff.mpr c7
    subst c7
    have H1 : (some (([] : List (List Int)), 0, 0, false, false)) = some (r1, r2, r3, r4, r5) := by rw [if_neg (show ¬ (false = true) by decide)] at H; exact H
    clear H
    have H := H1
    clear H1
    simp only [Option.some.injEq, Prod.mk.injEq] at H
    obtain ⟨rfl, rfl, rfl, rfl, rfl⟩ := H
    go_enter Try.func11, Try.ntmps11
    go_wp2_with (first | ((with_reducible refine gate_dst (N := 10) rfl ?_); refine box_event ?hg (N := 10) ?hd (cs := #[.slice none 0 0, .int .i64 0, .int .i64 0, .bool false]) (t := 28) ?hr ?_; (case hd => rfl); (case hg => rfl); (case hr => first | (go_simp; done) | (go_simp; rfl)); intro gb417 hg w17 hbox hb; have n0_ := Aside0.mk (below_step (by repeat (first | (with_reducible first | exact HB.out | apply below_alloc | apply pw_below_drewN | apply below_drew1) | exact HB.out)) hb); have n1_ := Aside0.mk (hbox); have n2_ := Aside0.mk ((by rw [hg]; exact (below_size (by repeat (first | (with_reducible first | exact HB.out | apply below_alloc | apply pw_below_drewN | apply below_drew1) | exact HB.out))) : w.heap.size ≤ gb417)); have n3_ := Aside0.mk ((by rw [hg]; exact (below_size (by repeat (first | (with_reducible first | exact HB.out | apply below_alloc | apply pw_below_drewN | apply below_drew1) | exact HB.out))) : w.heap.size ≤ gb417)); clear HB; have HB := n0_; have BK417 := n1_; have GW417 := n2_; have GE417 := n3_; clear n0_ n1_ n2_ n3_; clear hb hbox hg) | ((with_reducible refine gate_callee (f := 35) rfl ?_); refine goesL_ (some 16) rfl rfl Try.func35 (by kernel_rfl) rfl #[.int .i64 a0, .slice A1 l1.length c1, .slice A2 l2.length c2, .slice A3 l3.length c3] rfl (by (try simp only [List.map_toArray, List.map_cons, List.map_nil]); first | done | rfl | (simp only [List.length_drop, List.length_take]; rfl)) ?_; (with_reducible refine (spec_l5Link.calls k a0 _ _ l1 _ _ l2 _ _ l3 false _ ?side1 ?side2 ?side3 ?side4 ?side5 ?side6 A6.out).mono ?_); (case side1 => repeat (first | exact (Kd.C_below HR1.out HB.out) | (with_reducible refine Kd.C_alloc ?_ _) | (with_reducible refine Kd.C_drewN ?_ _) | (with_reducible refine Kd.C_drew ?_))); (case side2 => exact HC1.out); (case side3 => repeat (first | exact (Kd.C_below HR2.out HB.out) | (with_reducible refine Kd.C_alloc ?_ _) | (with_reducible refine Kd.C_drewN ?_ _) | (with_reducible refine Kd.C_drew ?_))); (case side4 => exact HC2.out); (case side5 => repeat (first | exact (Kd.C_below HR3.out HB.out) | (with_reducible refine Kd.C_alloc ?_ _) | (with_reducible refine Kd.C_drewN ?_ _) | (with_reducible refine Kd.C_drew ?_))); (case side6 => exact HC3.out); rintro e w' ⟨rfl, ⟨nd, rfl⟩⟩; refine ⟨_, rfl, ?_⟩; (try (rw [drewN_self w17]; generalize hq_ : World.drewN w17 _ = w17; have n0_ : Aside0 (w17.heap[gb417]? = some (.cells #[.slice none 0 0, .int .i64 0, .int .i64 0, .bool false] 28 (0, 0))) := ⟨by rw [← hq_]; exact (by (with_reducible repeat (first | refine blk_drewN ?_ _ | refine blk_drew ?_ | refine blk_alloc ?_ _)); exact BK417.out)⟩; have n1_ : Aside0 (Below w.heap.size w w17) := ⟨by rw [← hq_]; exact (by repeat (first | (with_reducible first | exact HB.out | apply below_alloc | apply pw_below_drewN | apply below_drew1 | refine below_set ?_ GE417.out) | exact HB.out))⟩; clear BK417 HB hq_; have BK417 := n0_; have HB := n1_; clear n0_ n1_)); have hcz18_0 : w17.cell? ⟨gb417, 0, none⟩ = some (.slice none 0 0) := (blk_cell BK417.out 0).trans rfl; have hcz18_1 : w17.cell? ⟨gb417, 1, none⟩ = some (.int .i64 0) := (blk_cell BK417.out 1).trans rfl; have hcz18_2 : w17.cell? ⟨gb417, 2, none⟩ = some (.int .i64 0) := (blk_cell BK417.out 2).trans rfl; have hcz18_3 : w17.cell? ⟨gb417, 3, none⟩ = some (.bool false) := (blk_cell BK417.out 3).trans rfl; have hfz18_0 := blk_frozen BK417.out 0; have hfz18_1 := blk_frozen BK417.out 1; have hfz18_2 := blk_frozen BK417.out 2; have hfz18_3 := blk_frozen BK417.out 3))
    refine bodyPost_ret (results_ct rfl _ _ gb417 28 #[.slice none 0 0, .int .i64 0, .int .i64 0, .bool false] (0, 0) _ rfl (by (with_reducible repeat (first | refine blk_drewN ?_ _ | refine blk_drew ?_ | refine blk_alloc ?_ _)); refine blk_put (cs := #[.slice none 0 0, .int .i64 0, .int .i64 0, .bool false]) ?_ 3 _ rfl; (with_reducible repeat (first | refine blk_drewN ?_ _ | refine blk_drew ?_ | refine blk_alloc ?_ _)); refine blk_put (cs := #[.slice none 0 0, .int .i64 0, .int .i64 0, .bool false]) ?_ 2 _ rfl; (with_reducible repeat (first | refine blk_drewN ?_ _ | refine blk_drew ?_ | refine blk_alloc ?_ _)); refine blk_put (cs := #[.slice none 0 0, .int .i64 0, .int .i64 0, .bool false]) ?_ 1 _ rfl; (with_reducible repeat (first | refine blk_drewN ?_ _ | refine blk_drew ?_ | refine blk_alloc ?_ _)); refine blk_put (cs := #[.slice none 0 0, .int .i64 0, .int .i64 0, .bool false]) ?_ 0 _ rfl; (with_reducible repeat (first | refine blk_drewN ?_ _ | refine blk_drew ?_ | refine blk_alloc ?_ _)); exact BK417.out) Try.underlying28 rfl (by kernel_rfl)) rfl ?_
    exact ⟨_, by first | rfl | (simp [errW_none, errW_some] <;> rfl) | (simp [*, errW_none, errW_some] <;> rfl), by first | exact Kd.S_nil _ _ _ _ _ | exact Kd.N_nil _ _ _ _ _ | exact Kd.V_nil _ _ _ _ _ | exact Kd.Q_nil _ _ _ _ _ | exact Kd.R_nil _ _ _ _ _, by repeat (first | (with_reducible first | exact HB.out | apply below_alloc | apply pw_below_drewN | apply below_drew1 | refine below_set ?_ GE417.out) | exact HB.out)⟩

end Go.Proofs.Ytookabfmbimnoaa.Lk
