/- What the walks of this claim need: printed by a program of this session (wip/pack.py) out of the session's texts and of the words that the kit's print.sh lays; under no condition beyond those in each theorem. Lean checks it. -/
import Derived.Test.YtookabfmbimnoaaErl3
import Derived.Sort.Grow
namespace Go.Proofs.Ytookabfmbimnoaa.Lk
open Go.RowKit Go.Proofs.YtookabfmbimnoaaW.PrintWords Go.Proofs.YtookabfmbimnoaaW.PrintLast Go.Proofs.YtookabfmbimnoaaW.PrintMore
open Go.Sort (grow alloc_eq_grow grow_grow)
set_option linter.unusedVariables false
set_option linter.unusedSimpArgs false

def cmpI (x y : Int) : Int := if x < y then -1 else if y < x then 1 else 0
theorem isNaN_int (x : Int) (W : World) : Calls Try.prog 95 #[.int .i64 x] W fun e W' => e = .returned (.bool false) ∧ W' = W := by
  go_enter Try.func95, Try.ntmps95
  go_wp2
  go_ret
  exact ⟨by simp, rfl⟩
theorem Compare_int (x y : Int) (W : World) : Calls Try.prog 84 #[.int .i64 x, .int .i64 y] W fun e W' => e = .returned (.int .i64 (cmpI x y)) ∧ W = W' := by
  unfold cmpI
  by_cases h1 : x < y
  · have h1b : decide (x < y) = true := decide_eq_true h1
    rw [if_pos h1]
    clear h1
    go_enter Try.func84, Try.ntmps84
    go_wp2_with (go_at_call 95; refine (isNaN_int _ _).mono ?_; rintro e w' ⟨rfl, rfl⟩)
    go_ret
    exact ⟨rfl, rfl⟩
  · have h1b : decide (x < y) = false := decide_eq_false h1
    rw [if_neg h1]
    by_cases h2 : y < x
    · have h2b : decide (y < x) = true := decide_eq_true h2
      rw [if_pos h2]
      clear h1 h2
      go_enter Try.func84, Try.ntmps84
      go_wp2_with (go_at_call 95; refine (isNaN_int _ _).mono ?_; rintro e w' ⟨rfl, rfl⟩)
      go_ret
      exact ⟨rfl, rfl⟩
    · have h2b : decide (y < x) = false := decide_eq_false h2
      rw [if_neg h2]
      clear h1 h2
      go_enter Try.func84, Try.ntmps84
      go_wp2_with (go_at_call 95; refine (isNaN_int _ _).mono ?_; rintro e w' ⟨rfl, rfl⟩)
      go_ret
      exact ⟨rfl, rfl⟩
def orI (x y : Int) : Int := if x ≠ 0 then x else y
set_option maxHeartbeats 1000000 in
theorem Or_two (x y : Int) (g : Nat) (W : World) (hc0 : W.cell? ⟨g, 0, none⟩ = some (.int .i64 x)) (hc1 : W.cell? ⟨g, 1, none⟩ = some (.int .i64 y)) :
    Calls Try.prog 83 #[.slice (some ⟨g, 0, none⟩) 2 2] W fun e W' => e = .returned (.int .i64 (orI x y)) ∧ W = W' := by
  have HX := Aside0.mk (show (x ≠ 0 → orI x y = x) ∧ (x = 0 → orI x y = y) from ⟨fun h => if_pos h, fun h => if_neg (by simp [h])⟩)
  generalize orI x y = r at HX ⊢
  go_enter Try.func83, Try.ntmps83
  go_wp2
  go_loopg [5, 8] 2 (fun gg _ s8 wr => ∃ kk : Nat, kk ≤ 2 ∧ 2 - kk ≤ gg ∧ s8 = .int .i64 kk ∧ wr = W ∧ Aside0 (0 < kk → x = 0) ∧ Aside0 (1 < kk → y = 0))
  case atStart => exact ⟨0, by omega, by omega, rfl, rfl, ⟨by omega⟩, ⟨by omega⟩⟩
  case round =>
    obtain ⟨kk, hk, hg, rfl, rfl, A, B⟩ := hrel
    have h3 : kk = 0 ∨ kk = 1 ∨ kk = 2 := by omega
    rcases h3 with rfl | rfl | rfl
    · by_cases h1 : x = 0
      · have h1b : (x != 0) = false := by simp [h1]
        have H1 := Aside0.mk h1
        clear h1
        go_wp2
        go_roundg 1
        case measure => omega
        case rel => exact ⟨1, by omega, by omega, by go_num, rfl, ⟨fun _ => H1.out⟩, ⟨by omega⟩⟩
      · have h1b : (x != 0) = true := by simp [h1]
        have H1 := Aside0.mk h1
        clear h1
        go_wp2
        go_ret
        exact ⟨by rw [HX.out.1 H1.out]; rfl, rfl⟩
    · by_cases h1 : y = 0
      · have h1b : (y != 0) = false := by simp [h1]
        have H1 := Aside0.mk h1
        clear h1
        go_wp2
        go_roundg 0
        case measure => omega
        case rel => exact ⟨2, by omega, by omega, by go_num, rfl, ⟨fun _ => A.out (by omega)⟩, ⟨fun _ => H1.out⟩⟩
      · have h1b : (y != 0) = true := by simp [h1]
        have H1 := Aside0.mk h1
        clear h1
        go_wp2
        go_ret
        exact ⟨by rw [HX.out.2 (A.out (by omega))]; rfl, rfl⟩
    · go_wp2
      go_ret
      exact ⟨by rw [HX.out.2 (A.out (by omega)), B.out (by omega)]; rfl, rfl⟩

def cmpA (x y : Int × Int) : Int := orI (cmpI x.1 y.1) (cmpI x.2 y.2)
set_option maxHeartbeats 2000000 in
theorem closure82 (x y : Int × Int) (W : World) : Calls Try.prog 82 #[.agg #[.int .i64 x.1, .int .i64 x.2], .agg #[.int .i64 y.1, .int .i64 y.2]] W fun e w' => e = .returned (.int .i64 (cmpA x y)) ∧ ∃ q os', w' = grow (W.drewN q) os' := by
  obtain ⟨x1, x2⟩ := x
  obtain ⟨y1, y2⟩ := y
  have HZ := Aside0.mk (show cmpA (x1, x2) (y1, y2) = orI (cmpI x1 y1) (cmpI x2 y2) from rfl)
  simp only
  generalize cmpA (x1, x2) (y1, y2) = r at HZ ⊢
  go_enter Try.func82, Try.ntmps82
  go_wp2_with fail
  have h0 : ((W.alloc (Obj.cells #[Value.int IntKind.i64 x1, Value.int IntKind.i64 x2] 91)).alloc (Obj.cells #[Value.int IntKind.i64 y1, Value.int IntKind.i64 y2] 91)).cell? ⟨W.heap.size, 0, none⟩ = some (.int .i64 x1) := by simp
  have h1 : ((W.alloc (Obj.cells #[Value.int IntKind.i64 x1, Value.int IntKind.i64 x2] 91)).alloc (Obj.cells #[Value.int IntKind.i64 y1, Value.int IntKind.i64 y2] 91)).cell? ⟨W.heap.size, 1, none⟩ = some (.int .i64 x2) := by simp
  have h2 : ((W.alloc (Obj.cells #[Value.int IntKind.i64 x1, Value.int IntKind.i64 x2] 91)).alloc (Obj.cells #[Value.int IntKind.i64 y1, Value.int IntKind.i64 y2] 91)).cell? ⟨W.heap.size + 1, 0, none⟩ = some (.int .i64 y1) := by simp
  have h3 : ((W.alloc (Obj.cells #[Value.int IntKind.i64 x1, Value.int IntKind.i64 x2] 91)).alloc (Obj.cells #[Value.int IntKind.i64 y1, Value.int IntKind.i64 y2] 91)).cell? ⟨W.heap.size + 1, 1, none⟩ = some (.int .i64 y2) := by simp
  generalize hW : (W.alloc (Obj.cells #[Value.int IntKind.i64 x1, Value.int IntKind.i64 x2] 91)).alloc (Obj.cells #[Value.int IntKind.i64 y1, Value.int IntKind.i64 y2] 91) = W2 at h0 h1 h2 h3 ⊢
  have HW := Aside0.mk hW
  clear hW
  generalize W.heap.size = b0 at h0 h1 h2 h3 ⊢
  go_region_held3 (fun w' => w'.cell? ⟨b0, 0, none⟩ = some (.int .i64 x1) ∧ w'.cell? ⟨b0, 1, none⟩ = some (.int .i64 x2) ∧ w'.cell? ⟨b0 + 1, 0, none⟩ = some (.int .i64 y1) ∧ w'.cell? ⟨b0 + 1, 1, none⟩ = some (.int .i64 y2)) (go_keep) (first | (go_at_call 84; refine (Compare_int _ _ _).mono ?_; rintro e w' ⟨rfl, rfl⟩) | (go_at_call 83; refine (Or_two (cmpI x1 y1) (cmpI x2 y2) _ _ ?ha ?hb).mono ?_; (case ha => simp); (case hb => simp); rintro e w' ⟨rfl, rfl⟩))
  go_wp2
  go_ret
  refine ⟨by rw [HZ.out]; rfl, 1, #[.cells #[.int .i64 x1, .int .i64 x2] 91, .cells #[.int .i64 y1, .int .i64 y2] 91, .cells #[.int .i64 (cmpI x1 y1), .int .i64 (cmpI x2 y2)] 3], ?_⟩
  rw [← HW.out, alloc_eq_grow, alloc_eq_grow, alloc_eq_grow, grow_grow, grow_grow]
  rfl
theorem closure86 (x : Int × Int) (W : World) : Calls Try.prog 86 #[.agg #[.int .i64 x.1, .int .i64 x.2]] W fun e w' => e = .returned (.int .i64 x.2) ∧ Below W.heap.size W w' := by
  obtain ⟨x1, x2⟩ := x
  simp only
  go_enter Try.func86, Try.ntmps86
  go_wp2
  go_ret
  exact ⟨rfl, below_alloc (Below.refl _ _) _⟩
end Go.Proofs.Ytookabfmbimnoaa.Lk
