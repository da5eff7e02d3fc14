/- What the walks of this claim need: printed by a program of this session (wip/pack.py) out of the session's texts and of the words that the kit's print.sh lays; under no condition beyond those in each theorem. Lean checks it. -/
import Derived.Test.YtookabfmbimnoaaRnd3
import Derived.WalkSpells
import Derived.Outline
import Derived.IntWalk
import Derived.Shelf.Abstract
namespace Go.Proofs.Ytookabfmbimnoaa.Lk
open Go.RowKit Go.Proofs.YtookabfmbimnoaaW.PrintWords Go.Proofs.YtookabfmbimnoaaW.PrintLast Go.Proofs.YtookabfmbimnoaaW.PrintMore
set_option linter.unusedVariables false
set_option linter.unusedSimpArgs false

/-- The place of the first element at which p holds, or -1. -/
def idxP {α : Type} (p : α → Bool) (xs : List α) : Int := match xs.findIdx? p with
  | some i => i
  | none => -1
theorem idxP_hit {α : Type} (p : α → Bool) (xs : List α) (k : Nat) (d : α) (hk : k < xs.length) (hp : p (xs.getD k d) = true) (hn : ∀ j, j < k → p (xs.getD j d) = false) : idxP p xs = k := by
  have h : xs.findIdx? p = some k := by
    rw [List.findIdx?_eq_some_iff_getElem]
    refine ⟨hk, ?_, fun j hj => ?_⟩
    · simpa [List.getD_eq_getElem?_getD, List.getElem?_eq_getElem hk] using hp
    · have := hn j hj
      simpa [List.getD_eq_getElem?_getD, List.getElem?_eq_getElem (show j < xs.length by omega)] using this
  simp [idxP, h]
theorem idxP_miss {α : Type} (p : α → Bool) (xs : List α) (d : α) (hn : ∀ j, j < xs.length → p (xs.getD j d) = false) : idxP p xs = -1 := by
  have h : xs.findIdx? p = none := by
    rw [List.findIdx?_eq_none_iff]
    intro x hx
    obtain ⟨j, hj, rfl⟩ := List.getElem_of_mem hx
    have := hn j hj
    simpa [List.getD_eq_getElem?_getD, List.getElem?_eq_getElem hj] using this
  simp [idxP, h]
theorem idxP_any {α : Type} (p : α → Bool) (xs : List α) : decide (0 ≤ idxP p xs) = xs.any p := by
  unfold idxP
  cases h : xs.findIdx? p with
  | some i =>
    rw [List.findIdx?_eq_some_iff_getElem] at h
    obtain ⟨hi, hp, _⟩ := h
    have : xs.any p = true := List.any_eq_true.2 ⟨_, List.getElem_mem hi, hp⟩
    simp [this]
  | none =>
    rw [List.findIdx?_eq_none_iff] at h
    have : xs.any p = false := by
      rw [List.any_eq_false]
      intro x hx
      simpa using h x hx
    simp [this]
theorem any_not_all {α : Type} (p : α → Bool) (xs : List α) : (!xs.any fun x => !p x) = xs.all p := by
  induction xs with
  | nil => rfl
  | cons x xs ih => simp [← ih, Bool.not_or]

set_option maxHeartbeats 1000000 in
theorem IndexFunc_int (g : Nat) (lb : Array Value) (p : Int → Bool) (eg : ∀ args w, (callFunc g args).run Try.prog w = .ok (.enter g args) w) (A0 : Option Addr) (c0 : Nat) (l0 : List (Int)) (w : World)
    (hr0 : Kd.C (Kd.int .i64) w A0 l0.length l0) (hc0 : l0.length ≤ c0)
    (hp : ∀ (x : Int) (W : World), Below w.heap.size w W → Calls Try.prog g (#[.int .i64 x] ++ lb) W fun e W' => e = .returned (.bool (p x)) ∧ Below W.heap.size W W') :
    Calls Try.prog 93 #[.slice A0 l0.length c0, .func (.func g) #[] lb] w fun e w' => e = .returned (.int .i64 (idxP p l0)) ∧ Below w.heap.size w w' := by
  have HR0 := Aside0.mk hr0
  have HP := Aside0.mk hp
  have hbig : l0.length ≤ 9223372036854775807 := hr0.2.1
  clear hr0 hp
  go_enter Try.func93, Try.ntmps93
  go_wp2
  go_loopg [5, 8] l0.length (fun gg _ s8 wr => ∃ kk : Nat, kk ≤ l0.length ∧ l0.length - kk ≤ gg ∧ s8 = .int .i64 kk ∧ Aside0 (Below w.heap.size w wr) ∧ Aside0 (∀ j, j < kk → p (l0.getD j 0) = false))
  case atStart => exact ⟨0, Nat.zero_le _, by omega, rfl, ⟨Below.refl _ _⟩, ⟨fun j hj => absurd hj (Nat.not_lt_zero _)⟩⟩
  case round =>
    obtain ⟨kk, hkk, hg, rfl, HB, A⟩ := hrel
    by_cases hlt : kk < l0.length
    · have hltz : (kk : Int) < (l0.length : Int) := by omega
      obtain ⟨ad, ea, hx⟩ := Kd.at_int (Kd.C_below HR0.out HB.out) (kk : Int) (by omega) (by omega)
      subst ea
      simp only [Int.toNat_natCast] at hx
      generalize hy : rd l0 kk = y at hx
      have B : Aside0 (l0.getD kk 0 = y) := ⟨by simpa [rd] using hy⟩
      clear hy
      cases hq : p y with
      | true =>
        have HQ := Aside0.mk hq
        clear hq
        go_wp2_with (go_at_fn g; refine (HP.out y _ HB.out).mono ?_; rintro e w' ⟨rfl, hb⟩; rw [HQ.out])
        go_ret
        exact ⟨by rw [idxP_hit p l0 kk 0 hlt (by rw [B.out]; exact HQ.out) A.out]; rfl, below_step HB.out hb⟩
      | false =>
        have HQ := Aside0.mk hq
        clear hq
        go_wp2_with (go_at_fn g; refine (HP.out y _ HB.out).mono ?_; rintro e w' ⟨rfl, hb⟩; rw [HQ.out]; have HB2 := Aside0.mk (below_step HB.out hb); clear hb)
        go_roundg (l0.length - (kk + 1))
        case measure => omega
        case rel =>
          refine ⟨kk + 1, by omega, by omega, by go_num, HB2, ⟨fun j hj => ?_⟩⟩
          by_cases e : j = kk
          · subst e
            rw [B.out]; exact HQ.out
          · exact A.out j (by omega)
    · have hltz : ¬ (kk : Int) < (l0.length : Int) := by omega
      go_wp2
      go_ret
      exact ⟨by rw [idxP_miss p l0 0 (fun j hj => A.out j (by omega))]; rfl, HB.out⟩

set_option maxHeartbeats 1000000 in
theorem ContainsFunc_int (g : Nat) (lb : Array Value) (p : Int → Bool) (eg : ∀ args w, (callFunc g args).run Try.prog w = .ok (.enter g args) w) (A0 : Option Addr) (c0 : Nat) (l0 : List (Int)) (w : World)
    (hr0 : Kd.C (Kd.int .i64) w A0 l0.length l0) (hc0 : l0.length ≤ c0)
    (hp : ∀ (x : Int) (W : World), Below w.heap.size w W → Calls Try.prog g (#[.int .i64 x] ++ lb) W fun e W' => e = .returned (.bool (p x)) ∧ Below W.heap.size W W') :
    Calls Try.prog 77 #[.slice A0 l0.length c0, .func (.func g) #[] lb] w fun e w' => e = .returned (.bool (l0.any p)) ∧ Below w.heap.size w w' := by
  have HC := Aside0.mk (IndexFunc_int g lb p eg A0 c0 l0 w hr0 hc0 hp)
  clear hr0 hp eg
  rw [← idxP_any]
  generalize idxP p l0 = r at HC ⊢
  go_enter Try.func77, Try.ntmps77
  go_wp2_with (go_at_call 93; refine HC.out.mono ?_; rintro e w' ⟨rfl, hb⟩)
  go_ret
  exact ⟨by simp, hb⟩

/-- all's literal: it calls what it has captured (in the cell B) and turns the answer. -/
theorem all_lit_int (g B : Nat) (p : Int → Bool) (eg : ∀ args w, (callFunc g args).run Try.prog w = .ok (.enter g args) w) (x : Int) (W : World) (hc : W.cell? ⟨B, 0, none⟩ = some (.func (.func g) #[] #[]))
    (hp : Calls Try.prog g #[.int .i64 x] W fun e W' => e = .returned (.bool (p x)) ∧ Below W.heap.size W W') :
    Calls Try.prog 78 #[.int .i64 x, .pointer (some ⟨B, 0, none⟩)] W fun e W' => e = .returned (.bool (!p x)) ∧ Below W.heap.size W W' := by
  have HP := Aside0.mk hp
  clear hp
  generalize p x = r at HP ⊢
  go_enter Try.func78, Try.ntmps78
  go_wp2_with (go_at_fn g; refine HP.out.mono ?_; rintro e w' ⟨rfl, hb⟩)
  go_ret
  exact ⟨by simp, hb⟩

set_option maxHeartbeats 1000000 in
theorem all_int (g : Nat) (p : Int → Bool) (eg : ∀ args w, (callFunc g args).run Try.prog w = .ok (.enter g args) w) (A0 : Option Addr) (c0 : Nat) (l0 : List (Int)) (w : World)
    (hr0 : Kd.C (Kd.int .i64) w A0 l0.length l0) (hc0 : l0.length ≤ c0)
    (hp : ∀ (x : Int) (W : World), Below w.heap.size w W → Calls Try.prog g #[.int .i64 x] W fun e W' => e = .returned (.bool (p x)) ∧ Below W.heap.size W W') :
    Calls Try.prog 59 #[.slice A0 l0.length c0, .func (.func g) #[] #[]] w fun e w' => e = .returned (.bool (l0.all p)) ∧ Below w.heap.size w w' := by
  have e4 : ∀ args w, (callFunc 78 args).run Try.prog w = .ok (.enter 78 args) w := enters_of Try.func78 (by kernel_rfl) rfl
  have hcon := ContainsFunc_int 78 #[.pointer (some ⟨w.heap.size, 0, none⟩)] (fun x => !p x) e4 A0 c0 l0 (w.alloc (.cells #[.func (.func g) #[] #[]] 80)) (Kd.C_alloc hr0 _) hc0 (fun x W hb => all_lit_int g w.heap.size p eg x W ((hb.cell (p := ⟨w.heap.size, 0, none⟩) (by simp)).trans (by simp)) (hp x W (below_step (below_alloc (Below.refl _ _) _) hb)))
  rw [← any_not_all]
  generalize (l0.any fun x => !p x) = r at hcon ⊢
  have HC := Aside0.mk hcon
  clear hcon hr0 hp eg e4
  go_enter Try.func59, Try.ntmps59
  go_wp2_with (go_at_call 77; refine HC.out.mono ?_; rintro e w' ⟨rfl, hb⟩)
  go_ret
  exact ⟨by simp, below_step (below_alloc (Below.refl _ _) _) hb⟩

set_option maxHeartbeats 1000000 in
theorem IndexFunc_bytes (g : Nat) (lb : Array Value) (p : List Int → Bool) (eg : ∀ args w, (callFunc g args).run Try.prog w = .ok (.enter g args) w) (A0 : Option Addr) (c0 : Nat) (l0 : List (List Int)) (w : World)
    (hr0 : Kd.C (Kd.slice 5 (Kd.int .u8)) w A0 l0.length l0) (hc0 : l0.length ≤ c0)
    (hp : ∀ (x : List Int) (A1 : Option Addr) (c1 : Nat) (W : World), Below w.heap.size w W → Kd.C (Kd.int .u8) W A1 x.length x → x.length ≤ c1 → Calls Try.prog g (#[.slice A1 x.length c1] ++ lb) W fun e W' => e = .returned (.bool (p x)) ∧ Below W.heap.size W W') :
    Calls Try.prog 79 #[.slice A0 l0.length c0, .func (.func g) #[] lb] w fun e w' => e = .returned (.int .i64 (idxP p l0)) ∧ Below w.heap.size w w' := by
  have HR0 := Aside0.mk hr0
  have HP := Aside0.mk hp
  have hbig : l0.length ≤ 9223372036854775807 := hr0.2.1
  clear hr0 hp
  go_enter Try.func79, Try.ntmps79
  go_wp2
  go_loopg [5, 8] l0.length (fun gg _ s8 wr => ∃ kk : Nat, kk ≤ l0.length ∧ l0.length - kk ≤ gg ∧ s8 = .int .i64 kk ∧ Aside0 (Below w.heap.size w wr) ∧ Aside0 (∀ j, j < kk → p (l0.getD j []) = false))
  case atStart => exact ⟨0, Nat.zero_le _, by omega, rfl, ⟨Below.refl _ _⟩, ⟨fun j hj => absurd hj (Nat.not_lt_zero _)⟩⟩
  case round =>
    obtain ⟨kk, hkk, hg, rfl, HB, A⟩ := hrel
    by_cases hlt : kk < l0.length
    · have hltz : (kk : Int) < (l0.length : Int) := by omega
      obtain ⟨ad, A1, c1, ea, hx, hc1, hy1⟩ := at_L2 (Kd.C_below HR0.out HB.out) (kk : Int) (by omega) (by omega)
      subst ea
      simp only [Int.toNat_natCast] at hx
      generalize hy : rd_L2 l0 kk = y at hx hc1 hy1
      have B : Aside0 (l0.getD kk [] = y) := ⟨by simpa [rd_L2] using hy⟩
      have HY := Aside0.mk hy1
      have HC1 := Aside0.mk hc1
      clear hy hy1 hc1
      cases hq : p y with
      | true =>
        have HQ := Aside0.mk hq
        clear hq
        go_wp2_with (go_at_fn g; refine (HP.out y _ _ _ HB.out HY.out HC1.out).mono ?_; rintro e w' ⟨rfl, hb⟩; rw [HQ.out])
        go_ret
        exact ⟨by rw [idxP_hit p l0 kk [] hlt (by rw [B.out]; exact HQ.out) A.out]; rfl, below_step HB.out hb⟩
      | false =>
        have HQ := Aside0.mk hq
        clear hq
        go_wp2_with (go_at_fn g; refine (HP.out y _ _ _ HB.out HY.out HC1.out).mono ?_; rintro e w' ⟨rfl, hb⟩; rw [HQ.out]; have HB2 := Aside0.mk (below_step HB.out hb); clear hb)
        go_roundg (l0.length - (kk + 1))
        case measure => omega
        case rel =>
          refine ⟨kk + 1, by omega, by omega, by go_num, HB2, ⟨fun j hj => ?_⟩⟩
          by_cases e : j = kk
          · subst e
            rw [B.out]; exact HQ.out
          · exact A.out j (by omega)
    · have hltz : ¬ (kk : Int) < (l0.length : Int) := by omega
      go_wp2
      go_ret
      exact ⟨by rw [idxP_miss p l0 [] (fun j hj => A.out j (by omega))]; rfl, HB.out⟩

set_option maxHeartbeats 1000000 in
theorem ContainsFunc_bytes (g : Nat) (lb : Array Value) (p : List Int → Bool) (eg : ∀ args w, (callFunc g args).run Try.prog w = .ok (.enter g args) w) (A0 : Option Addr) (c0 : Nat) (l0 : List (List Int)) (w : World)
    (hr0 : Kd.C (Kd.slice 5 (Kd.int .u8)) w A0 l0.length l0) (hc0 : l0.length ≤ c0)
    (hp : ∀ (x : List Int) (A1 : Option Addr) (c1 : Nat) (W : World), Below w.heap.size w W → Kd.C (Kd.int .u8) W A1 x.length x → x.length ≤ c1 → Calls Try.prog g (#[.slice A1 x.length c1] ++ lb) W fun e W' => e = .returned (.bool (p x)) ∧ Below W.heap.size W W') :
    Calls Try.prog 63 #[.slice A0 l0.length c0, .func (.func g) #[] lb] w fun e w' => e = .returned (.bool (l0.any p)) ∧ Below w.heap.size w w' := by
  have HC := Aside0.mk (IndexFunc_bytes g lb p eg A0 c0 l0 w hr0 hc0 hp)
  clear hr0 hp eg
  rw [← idxP_any]
  generalize idxP p l0 = r at HC ⊢
  go_enter Try.func63, Try.ntmps63
  go_wp2_with (go_at_call 79; refine HC.out.mono ?_; rintro e w' ⟨rfl, hb⟩)
  go_ret
  exact ⟨by simp, hb⟩

/-- all's literal: it calls what it has captured (in the cell B) and turns the answer. -/
theorem all_lit_bytes (g B : Nat) (p : List Int → Bool) (eg : ∀ args w, (callFunc g args).run Try.prog w = .ok (.enter g args) w) (x : List Int) (A1 : Option Addr) (c1 : Nat) (W : World) (hc : W.cell? ⟨B, 0, none⟩ = some (.func (.func g) #[] #[]))
    (hp : Calls Try.prog g #[.slice A1 x.length c1] W fun e W' => e = .returned (.bool (p x)) ∧ Below W.heap.size W W') :
    Calls Try.prog 64 #[.slice A1 x.length c1, .pointer (some ⟨B, 0, none⟩)] W fun e W' => e = .returned (.bool (!p x)) ∧ Below W.heap.size W W' := by
  have HP := Aside0.mk hp
  clear hp
  generalize p x = r at HP ⊢
  go_enter Try.func64, Try.ntmps64
  go_wp2_with (go_at_fn g; refine HP.out.mono ?_; rintro e w' ⟨rfl, hb⟩)
  go_ret
  exact ⟨by simp, hb⟩

set_option maxHeartbeats 1000000 in
theorem all_bytes (g : Nat) (p : List Int → Bool) (eg : ∀ args w, (callFunc g args).run Try.prog w = .ok (.enter g args) w) (A0 : Option Addr) (c0 : Nat) (l0 : List (List Int)) (w : World)
    (hr0 : Kd.C (Kd.slice 5 (Kd.int .u8)) w A0 l0.length l0) (hc0 : l0.length ≤ c0)
    (hp : ∀ (x : List Int) (A1 : Option Addr) (c1 : Nat) (W : World), Below w.heap.size w W → Kd.C (Kd.int .u8) W A1 x.length x → x.length ≤ c1 → Calls Try.prog g #[.slice A1 x.length c1] W fun e W' => e = .returned (.bool (p x)) ∧ Below W.heap.size W W') :
    Calls Try.prog 50 #[.slice A0 l0.length c0, .func (.func g) #[] #[]] w fun e w' => e = .returned (.bool (l0.all p)) ∧ Below w.heap.size w w' := by
  have e4 : ∀ args w, (callFunc 64 args).run Try.prog w = .ok (.enter 64 args) w := enters_of Try.func64 (by kernel_rfl) rfl
  have hcon := ContainsFunc_bytes 64 #[.pointer (some ⟨w.heap.size, 0, none⟩)] (fun x => !p x) e4 A0 c0 l0 (w.alloc (.cells #[.func (.func g) #[] #[]] 31)) (Kd.C_alloc hr0 _) hc0 (fun x A1 c1 W hb hx hx2 => all_lit_bytes g w.heap.size p eg x A1 c1 W ((hb.cell (p := ⟨w.heap.size, 0, none⟩) (by simp)).trans (by simp)) (hp x A1 c1 W (below_step (below_alloc (Below.refl _ _) _) hb) hx hx2))
  rw [← any_not_all]
  generalize (l0.any fun x => !p x) = r at hcon ⊢
  have HC := Aside0.mk hcon
  clear hcon hr0 hp eg e4
  go_enter Try.func50, Try.ntmps50
  go_wp2_with (go_at_call 63; refine HC.out.mono ?_; rintro e w' ⟨rfl, hb⟩)
  go_ret
  exact ⟨by simp, below_step (below_alloc (Below.refl _ _) _) hb⟩

def fateOk (n : Int) : Bool := decide (0 ≤ n) && decide (n ≤ 4)
def impl_FatesValid.f (l0 : List Int) : Option Bool := some (decide (l0.length ≤ 200) && l0.all fateOk)
theorem fates_lit (x : Int) (W : World) : Calls Try.prog 60 #[.int .i64 x] W fun e W' => e = .returned (.bool (fateOk x)) ∧ Below W.heap.size W W' := by
  have hw : impl_within.f x 0 4 = some (fateOk x) := by
    unfold impl_within.f fateOk
    by_cases h : 0 ≤ x <;> simp [h]
  have HW := Aside0.mk hw
  clear hw
  generalize fateOk x = r at HW ⊢
  go_enter Try.func60, Try.ntmps60
  go_wp2_with (go_at_call 42; refine (impl_within.calls x 0 4 r _ HW.out).mono ?_; rintro e w' ⟨rfl, hd⟩; have hb := hd.below; clear hd)
  go_ret
  exact ⟨rfl, hb⟩
set_option maxHeartbeats 1000000 in
theorem impl_FatesValid.calls (A0 : Option Addr) (c0 : Nat) (l0 : List Int) (r : Bool) (w : World) (hr0 : Kd.C (Kd.int .i64) w A0 l0.length l0) (hc0 : l0.length ≤ c0) (h : impl_FatesValid.f l0 = some r) :
    Calls Try.prog 43 #[.slice A0 l0.length c0] w fun e w' => e = .returned (.bool r) ∧ Below w.heap.size w w' := by
  have HC := Aside0.mk (all_int 60 fateOk (enters_of Try.func60 (by kernel_rfl) rfl) A0 c0 l0 w hr0 hc0 (fun x W _ => fates_lit x W))
  obtain rfl := Option.some.inj h
  clear h hr0
  generalize l0.all fateOk = b at HC ⊢
  by_cases hl : l0.length ≤ 200
  · have hl1 : decide ((l0.length : Int) ≤ 200) = true := decide_eq_true (by omega)
    have hl2 : decide (l0.length ≤ 200) = true := decide_eq_true hl
    rw [hl2]
    clear hl hl2
    go_enter Try.func43, Try.ntmps43
    go_wp2_with (go_at_call 59; refine HC.out.mono ?_; rintro e w' ⟨rfl, hb⟩)
    all_goals (go_ret; exact ⟨by simp_all, hb⟩)
  · have hl1 : decide ((l0.length : Int) ≤ 200) = false := decide_eq_false (by omega)
    have hl2 : decide (l0.length ≤ 200) = false := decide_eq_false hl
    rw [hl2]
    clear hl hl2
    go_enter Try.func43, Try.ntmps43
    go_wp2
    all_goals (go_ret; exact ⟨by simp, Below.refl _ _⟩)

def shortB (x : List Int) : Bool := decide (x.length ≤ 597)
theorem short_lit (x : List Int) (A1 : Option Addr) (c1 : Nat) (W : World) (h : x.length ≤ 9223372036854775807) : Calls Try.prog 51 #[.slice A1 x.length c1] W fun e W' => e = .returned (.bool (shortB x)) ∧ Below W.heap.size W W' := by
  unfold shortB
  by_cases hl : x.length ≤ 597
  · have hl1 : decide ((x.length : Int) ≤ 597) = true := decide_eq_true (by omega)
    have hl2 : decide (x.length ≤ 597) = true := decide_eq_true hl
    rw [hl2]
    clear hl hl2
    go_enter Try.func51, Try.ntmps51
    go_wp2
    go_ret
    exact ⟨rfl, Below.refl _ _⟩
  · have hl1 : decide ((x.length : Int) ≤ 597) = false := decide_eq_false (by omega)
    have hl2 : decide (x.length ≤ 597) = false := decide_eq_false hl
    rw [hl2]
    clear hl hl2
    go_enter Try.func51, Try.ntmps51
    go_wp2
    go_ret
    exact ⟨rfl, Below.refl _ _⟩
def winOk (n : Int) : Bool := decide (1 ≤ n) && decide (n ≤ 8)
def rndOk (n : Int) : Bool := decide (0 ≤ n) && decide (n ≤ 400)
def fatesOk (l : List Int) : Bool := decide (l.length ≤ 200) && l.all fateOk
def impl_linkOk.f (a0 : Int) (l1 : List (List Int)) (l2 l3 : List Int) (a4 : Int) : Option Bool :=
  some (winOk a0 && (decide (l1.length ≤ 60) && (l1.all shortB && (fatesOk l2 && (fatesOk l3 && rndOk a4)))))
theorem within_ok (n lo hi : Int) : impl_within.f n lo hi = some (decide (lo ≤ n) && decide (n ≤ hi)) := by
  unfold impl_within.f
  by_cases h : lo ≤ n <;> simp [h]
set_option maxHeartbeats 4000000 in
theorem impl_linkOk.calls (a0 : Int) (A1 : Option Addr) (c1 : Nat) (l1 : List (List Int)) (A2 : Option Addr) (c2 : Nat) (l2 : List Int) (A3 : Option Addr) (c3 : Nat) (l3 : List Int) (a4 : Int) (r : Bool) (w : World)
    (hr1 : Kd.C (Kd.slice 5 (Kd.int .u8)) w A1 l1.length l1) (hc1 : l1.length ≤ c1) (hr2 : Kd.C (Kd.int .i64) w A2 l2.length l2) (hc2 : l2.length ≤ c2) (hr3 : Kd.C (Kd.int .i64) w A3 l3.length l3) (hc3 : l3.length ≤ c3) (h : impl_linkOk.f a0 l1 l2 l3 a4 = some r) :
    Calls Try.prog 31 #[.int .i64 a0, .slice A1 l1.length c1, .slice A2 l2.length c2, .slice A3 l3.length c3, .int .i64 a4] w fun e w' => e = .returned (.bool r) ∧ Below w.heap.size w w' := by
  have H1 := Aside0.mk (within_ok a0 1 8)
  have H3 := fun W hb => Aside0.mk (all_bytes 51 shortB (enters_of Try.func51 (by kernel_rfl) rfl) A1 c1 l1 W (Kd.C_below hr1 hb) hc1 (fun x A1 c1 W _ hx _ => short_lit x A1 c1 W hx.2.1))
  have H4 := fun W hb => Aside0.mk (impl_FatesValid.calls A2 c2 l2 (fatesOk l2) W (Kd.C_below hr2 hb) hc2 rfl)
  have H5 := fun W hb => Aside0.mk (impl_FatesValid.calls A3 c3 l3 (fatesOk l3) W (Kd.C_below hr3 hb) hc3 rfl)
  have H6 := Aside0.mk (within_ok a4 0 400)
  have HH3 := Aside0.mk H3
  have HH4 := Aside0.mk H4
  have HH5 := Aside0.mk H5
  obtain rfl := Option.some.inj h
  clear h hr1 hr2 hr3 H3 H4 H5
  have hw1 : (decide ((1 : Int) ≤ a0) && decide (a0 ≤ 8)) = winOk a0 := rfl
  have hw6 : (decide ((0 : Int) ≤ a4) && decide (a4 ≤ 400)) = rndOk a4 := rfl
  rw [hw1] at H1
  rw [hw6] at H6
  clear hw1 hw6
  have hl1 : (decide ((l1.length : Int) ≤ 60)) = decide (l1.length ≤ 60) := by rw [decide_eq_decide]; omega
  generalize decide (l1.length ≤ 60) = b2 at hl1 ⊢
  generalize winOk a0 = b1 at H1 ⊢
  generalize l1.all shortB = b3 at HH3 ⊢
  generalize fatesOk l2 = b4 at HH4 ⊢
  generalize fatesOk l3 = b5 at HH5 ⊢
  generalize rndOk a4 = b6 at H6 ⊢
  have HB := Aside0.mk (Below.refl w.heap.size w)
  cases b1
  case false =>
    go_enter Try.func31, Try.ntmps31
    go_wp2_with (first | (go_at_call 42; (with_reducible refine (impl_within.calls a0 1 8 _ _ H1.out).mono ?_); rintro e w' ⟨rfl, hd⟩; have n_ := Aside0.mk (below_step HB.out hd.below); clear HB; have HB := n_; clear n_ hd) | (go_at_call 42; (with_reducible refine (impl_within.calls a4 0 400 _ _ H6.out).mono ?_); rintro e w' ⟨rfl, hd⟩; have n_ := Aside0.mk (below_step HB.out hd.below); clear HB; have HB := n_; clear n_ hd) | (go_at_call 50; (with_reducible refine ((HH3.out _ HB.out).out).mono ?_); rintro e w' ⟨rfl, hb⟩; have n_ := Aside0.mk (below_step HB.out hb); clear HB; have HB := n_; clear n_ hb) | (go_at_call 43; (with_reducible refine ((HH4.out _ HB.out).out).mono ?_); rintro e w' ⟨rfl, hb⟩; have n_ := Aside0.mk (below_step HB.out hb); clear HB; have HB := n_; clear n_ hb) | (go_at_call 43; (with_reducible refine ((HH5.out _ HB.out).out).mono ?_); rintro e w' ⟨rfl, hb⟩; have n_ := Aside0.mk (below_step HB.out hb); clear HB; have HB := n_; clear n_ hb))
    go_ret
    exact ⟨by simp, HB.out⟩
  cases b2
  case false =>
    go_enter Try.func31, Try.ntmps31
    go_wp2_with (first | (go_at_call 42; (with_reducible refine (impl_within.calls a0 1 8 _ _ H1.out).mono ?_); rintro e w' ⟨rfl, hd⟩; have n_ := Aside0.mk (below_step HB.out hd.below); clear HB; have HB := n_; clear n_ hd) | (go_at_call 42; (with_reducible refine (impl_within.calls a4 0 400 _ _ H6.out).mono ?_); rintro e w' ⟨rfl, hd⟩; have n_ := Aside0.mk (below_step HB.out hd.below); clear HB; have HB := n_; clear n_ hd) | (go_at_call 50; (with_reducible refine ((HH3.out _ HB.out).out).mono ?_); rintro e w' ⟨rfl, hb⟩; have n_ := Aside0.mk (below_step HB.out hb); clear HB; have HB := n_; clear n_ hb) | (go_at_call 43; (with_reducible refine ((HH4.out _ HB.out).out).mono ?_); rintro e w' ⟨rfl, hb⟩; have n_ := Aside0.mk (below_step HB.out hb); clear HB; have HB := n_; clear n_ hb) | (go_at_call 43; (with_reducible refine ((HH5.out _ HB.out).out).mono ?_); rintro e w' ⟨rfl, hb⟩; have n_ := Aside0.mk (below_step HB.out hb); clear HB; have HB := n_; clear n_ hb))
    go_ret
    exact ⟨by simp, HB.out⟩
  cases b3
  case false =>
    go_enter Try.func31, Try.ntmps31
    go_wp2_with (first | (go_at_call 42; (with_reducible refine (impl_within.calls a0 1 8 _ _ H1.out).mono ?_); rintro e w' ⟨rfl, hd⟩; have n_ := Aside0.mk (below_step HB.out hd.below); clear HB; have HB := n_; clear n_ hd) | (go_at_call 42; (with_reducible refine (impl_within.calls a4 0 400 _ _ H6.out).mono ?_); rintro e w' ⟨rfl, hd⟩; have n_ := Aside0.mk (below_step HB.out hd.below); clear HB; have HB := n_; clear n_ hd) | (go_at_call 50; (with_reducible refine ((HH3.out _ HB.out).out).mono ?_); rintro e w' ⟨rfl, hb⟩; have n_ := Aside0.mk (below_step HB.out hb); clear HB; have HB := n_; clear n_ hb) | (go_at_call 43; (with_reducible refine ((HH4.out _ HB.out).out).mono ?_); rintro e w' ⟨rfl, hb⟩; have n_ := Aside0.mk (below_step HB.out hb); clear HB; have HB := n_; clear n_ hb) | (go_at_call 43; (with_reducible refine ((HH5.out _ HB.out).out).mono ?_); rintro e w' ⟨rfl, hb⟩; have n_ := Aside0.mk (below_step HB.out hb); clear HB; have HB := n_; clear n_ hb))
    go_ret
    exact ⟨by simp, HB.out⟩
  cases b4
  case false =>
    go_enter Try.func31, Try.ntmps31
    go_wp2_with (first | (go_at_call 42; (with_reducible refine (impl_within.calls a0 1 8 _ _ H1.out).mono ?_); rintro e w' ⟨rfl, hd⟩; have n_ := Aside0.mk (below_step HB.out hd.below); clear HB; have HB := n_; clear n_ hd) | (go_at_call 42; (with_reducible refine (impl_within.calls a4 0 400 _ _ H6.out).mono ?_); rintro e w' ⟨rfl, hd⟩; have n_ := Aside0.mk (below_step HB.out hd.below); clear HB; have HB := n_; clear n_ hd) | (go_at_call 50; (with_reducible refine ((HH3.out _ HB.out).out).mono ?_); rintro e w' ⟨rfl, hb⟩; have n_ := Aside0.mk (below_step HB.out hb); clear HB; have HB := n_; clear n_ hb) | (go_at_call 43; (with_reducible refine ((HH4.out _ HB.out).out).mono ?_); rintro e w' ⟨rfl, hb⟩; have n_ := Aside0.mk (below_step HB.out hb); clear HB; have HB := n_; clear n_ hb) | (go_at_call 43; (with_reducible refine ((HH5.out _ HB.out).out).mono ?_); rintro e w' ⟨rfl, hb⟩; have n_ := Aside0.mk (below_step HB.out hb); clear HB; have HB := n_; clear n_ hb))
    go_ret
    exact ⟨by simp, HB.out⟩
  cases b5
  case false =>
    go_enter Try.func31, Try.ntmps31
    go_wp2_with (first | (go_at_call 42; (with_reducible refine (impl_within.calls a0 1 8 _ _ H1.out).mono ?_); rintro e w' ⟨rfl, hd⟩; have n_ := Aside0.mk (below_step HB.out hd.below); clear HB; have HB := n_; clear n_ hd) | (go_at_call 42; (with_reducible refine (impl_within.calls a4 0 400 _ _ H6.out).mono ?_); rintro e w' ⟨rfl, hd⟩; have n_ := Aside0.mk (below_step HB.out hd.below); clear HB; have HB := n_; clear n_ hd) | (go_at_call 50; (with_reducible refine ((HH3.out _ HB.out).out).mono ?_); rintro e w' ⟨rfl, hb⟩; have n_ := Aside0.mk (below_step HB.out hb); clear HB; have HB := n_; clear n_ hb) | (go_at_call 43; (with_reducible refine ((HH4.out _ HB.out).out).mono ?_); rintro e w' ⟨rfl, hb⟩; have n_ := Aside0.mk (below_step HB.out hb); clear HB; have HB := n_; clear n_ hb) | (go_at_call 43; (with_reducible refine ((HH5.out _ HB.out).out).mono ?_); rintro e w' ⟨rfl, hb⟩; have n_ := Aside0.mk (below_step HB.out hb); clear HB; have HB := n_; clear n_ hb))
    go_ret
    exact ⟨by simp, HB.out⟩
  go_enter Try.func31, Try.ntmps31
  go_wp2_with (first | (go_at_call 42; (with_reducible refine (impl_within.calls a0 1 8 _ _ H1.out).mono ?_); rintro e w' ⟨rfl, hd⟩; have n_ := Aside0.mk (below_step HB.out hd.below); clear HB; have HB := n_; clear n_ hd) | (go_at_call 42; (with_reducible refine (impl_within.calls a4 0 400 _ _ H6.out).mono ?_); rintro e w' ⟨rfl, hd⟩; have n_ := Aside0.mk (below_step HB.out hd.below); clear HB; have HB := n_; clear n_ hd) | (go_at_call 50; (with_reducible refine ((HH3.out _ HB.out).out).mono ?_); rintro e w' ⟨rfl, hb⟩; have n_ := Aside0.mk (below_step HB.out hb); clear HB; have HB := n_; clear n_ hb) | (go_at_call 43; (with_reducible refine ((HH4.out _ HB.out).out).mono ?_); rintro e w' ⟨rfl, hb⟩; have n_ := Aside0.mk (below_step HB.out hb); clear HB; have HB := n_; clear n_ hb) | (go_at_call 43; (with_reducible refine ((HH5.out _ HB.out).out).mono ?_); rintro e w' ⟨rfl, hb⟩; have n_ := Aside0.mk (below_step HB.out hb); clear HB; have HB := n_; clear n_ hb))
  go_ret
  exact ⟨by simp, HB.out⟩
end Go.Proofs.Ytookabfmbimnoaa.Lk

namespace Go.Proofs.Ytookabfmbimnoaa.Lk
open Go.RowKit Go.Proofs.YtookabfmbimnoaaW.PrintWords Go.Proofs.YtookabfmbimnoaaW.PrintLast Go.Proofs.YtookabfmbimnoaaW.PrintMore
set_option linter.unusedVariables false
set_option linter.unusedSimpArgs false

def bytes_Clone.f (l0 : List Int) : Option (List Int) := if l0.length ≤ 1000000 then some l0 else none
set_option maxHeartbeats 1000000 in
theorem bytes_Clone.calls (A0 : Option Addr) (c0 : Nat) (l0 : List Int) (r : List Int) (w : World) (hr0 : Kd.C (Kd.int .u8) w A0 l0.length l0) (hc0 : l0.length ≤ c0) (h : bytes_Clone.f l0 = some r) :
    Calls Try.prog 56 #[.slice A0 l0.length c0] w fun e w' => ∃ v0_ : Value, e = .returned v0_ ∧ Kd.R (Kd.int .u8) 5 w' w.heap.size (fun _ => True) v0_ r ∧ Below w.heap.size w w' := by
  unfold bytes_Clone.f at h
  by_cases hl : l0.length ≤ 1000000
  case neg => rw [if_neg hl] at h; cases h
  rw [if_pos hl] at h
  obtain rfl := Option.some.inj h
  clear h
  have hnil := fun (a : Option Addr) (l c : Nat) (W : World) => Lib.run_eql_slice_nil (P := Try.prog) W 22 5 a l c 0 0 Try.underlying22
  have HR0 := Aside0.mk hr0
  have HL := Aside0.mk hl
  clear hr0 hl
  have HB := Aside0.mk (Below.refl w.heap.size w)
  cases A0 with
  | none =>
    have h0 : l0 = [] := by
      rcases l0 with _ | ⟨x, l⟩
      · rfl
      · obtain ⟨ad, h, _⟩ := HR0.out.2.2 (by simp)
        cases h
    subst h0
    go_enter Try.func56, Try.ntmps56
    go_wp2_with fail
    go_ret
    exact ⟨_, rfl, Kd.R_nil _ _ _ _ _, Below.refl _ _⟩
  | some ad =>
    go_enter Try.func56, Try.ntmps56
    go_wp2_with (first
      | ((with_reducible refine gate_dst (N := 5) rfl ?_); refine Kd.R_lit (Kd.int .u8) _ 5 ?hg (N := 5) ?hd (xs := ([] : List _)) (inner := []) (ok := fun _ => True) (okp := fun _ => True) ?hr ?hp (fun _ hk => hk) trivial (Below.refl _ _) (Nat.le_refl _) (by simp) ?_; (case hd => rfl); (case hg => rfl); (case hr => first | (go_simp; done) | (go_simp; rfl)); (case hp => exact (Reps.none _ _)); intro v1 w6 ho7 hb hg_ hnew_; clear hg_ hnew_; have n0_ := Aside0.mk (Kd.R_lower ho7 (below_size (by repeat (first | (with_reducible first | exact HB.out | apply below_alloc | apply pw_below_drewN | apply below_drew1) | exact HB.out)))); have n1_ := Aside0.mk (below_step (by repeat (first | (with_reducible first | exact HB.out | apply below_alloc | apply pw_below_drewN | apply below_drew1) | exact HB.out)) hb); clear HB; have HO1 := n0_; have HB := n1_; clear n0_ n1_; clear hb ho7)
      | ((with_reducible refine gate_builtin (b := .append) (xs := #[.tmp 5, .tmp 6]) rfl ?_); at_builtin; refine Kd.R_append_rows (Kd.int .u8) (w0 := w) w.heap.size rfl (.tmp 5) (.tmp 6) 22 5 (.int .u8 0) 1 rfl Try.underlying22 info5 rfl (by decide) (by omega) v1 [] l0 _ _ _ (fun _ => True) (fun _ => False) rfl rfl ?aO ?aR (fun _ _ h => h) (fun _ h => h.elim) ?aF ?aB ?aS ?aL ?_; (case aR => repeat (first | exact (Kd.C_below HR0.out HB.out) | (with_reducible refine Kd.C_alloc ?_ _) | (with_reducible refine Kd.C_drewN ?_ _) | (with_reducible refine Kd.C_drew ?_))); (case aB => exact (by repeat (first | (with_reducible first | exact HB.out | apply below_alloc | apply pw_below_drewN | apply below_drew1) | exact HB.out))); (case aF => exact (fun _ _ => trivial)); (case aO => exact (by (with_reducible repeat (first | apply Kd.R_alloc | apply Kd.R_drewN | apply Kd.R_drew)); exact HO1.out)); (case aS => exact (below_size (by repeat (first | (with_reducible first | exact HB.out | apply below_alloc | apply pw_below_drewN | apply below_drew1) | exact HB.out)))); (case aL => have := HL.out; (try simp); omega); intro v2 w8 ho hb hg hat; have n0_ := Aside0.mk (hb); have n1_ := Aside0.mk (ho); clear HB; clear HO1; have HB := n0_; have HO2 := n1_; clear n0_ n1_; clear ho hb hg hat))
    go_ret
    exact ⟨_, rfl, (by (with_reducible repeat (first | apply Kd.R_alloc | apply Kd.R_drewN | apply Kd.R_drew)); exact HO2.out), (by repeat (first | (with_reducible first | exact HB.out | apply below_alloc | apply pw_below_drewN | apply below_drew1) | exact HB.out))⟩

def slices_Clone_int_int.f (l0 : List Int) : Option (List Int) := if l0.length ≤ 1000000 then some l0 else none
set_option maxHeartbeats 1000000 in
theorem slices_Clone_int_int.calls (A0 : Option Addr) (c0 : Nat) (l0 : List Int) (r : List Int) (w : World) (hr0 : Kd.C (Kd.int .i64) w A0 l0.length l0) (hc0 : l0.length ≤ c0) (h : slices_Clone_int_int.f l0 = some r) :
    Calls Try.prog 72 #[.slice A0 l0.length c0] w fun e w' => ∃ v0_ : Value, e = .returned v0_ ∧ Kd.R (Kd.int .i64) 3 w' w.heap.size (fun _ => True) v0_ r ∧ Below w.heap.size w w' := by
  unfold slices_Clone_int_int.f at h
  by_cases hl : l0.length ≤ 1000000
  case neg => rw [if_neg hl] at h; cases h
  rw [if_pos hl] at h
  obtain rfl := Option.some.inj h
  clear h
  have hnil := fun (a : Option Addr) (l c : Nat) (W : World) => Lib.run_eql_slice_nil (P := Try.prog) W 24 3 a l c 0 0 Try.underlying24
  have HR0 := Aside0.mk hr0
  have HL := Aside0.mk hl
  clear hr0 hl
  have HB := Aside0.mk (Below.refl w.heap.size w)
  cases A0 with
  | none =>
    have h0 : l0 = [] := by
      rcases l0 with _ | ⟨x, l⟩
      · rfl
      · obtain ⟨ad, h, _⟩ := HR0.out.2.2 (by simp)
        cases h
    subst h0
    go_enter Try.func72, Try.ntmps72
    go_wp2_with fail
    go_ret
    exact ⟨_, rfl, Kd.R_nil _ _ _ _ _, Below.refl _ _⟩
  | some ad =>
    go_enter Try.func72, Try.ntmps72
    go_wp2_with (first
      | ((with_reducible refine gate_dst (N := 5) rfl ?_); refine Kd.R_lit (Kd.int .i64) _ 3 ?hg (N := 5) ?hd (xs := ([] : List _)) (inner := []) (ok := fun _ => True) (okp := fun _ => True) ?hr ?hp (fun _ hk => hk) trivial (Below.refl _ _) (Nat.le_refl _) (by simp) ?_; (case hd => rfl); (case hg => rfl); (case hr => first | (go_simp; done) | (go_simp; rfl)); (case hp => exact (Reps.none _ _)); intro v1 w6 ho7 hb hg_ hnew_; clear hg_ hnew_; have n0_ := Aside0.mk (Kd.R_lower ho7 (below_size (by repeat (first | (with_reducible first | exact HB.out | apply below_alloc | apply pw_below_drewN | apply below_drew1) | exact HB.out)))); have n1_ := Aside0.mk (below_step (by repeat (first | (with_reducible first | exact HB.out | apply below_alloc | apply pw_below_drewN | apply below_drew1) | exact HB.out)) hb); clear HB; have HO1 := n0_; have HB := n1_; clear n0_ n1_; clear hb ho7)
      | ((with_reducible refine gate_builtin (b := .append) (xs := #[.tmp 5, .tmp 6]) rfl ?_); at_builtin; refine Kd.R_append_rows (Kd.int .i64) (w0 := w) w.heap.size rfl (.tmp 5) (.tmp 6) 24 3 (.int .i64 0) 8 rfl Try.underlying24 info3 rfl (by decide) (by omega) v1 [] l0 _ _ _ (fun _ => True) (fun _ => False) rfl rfl ?aO ?aR (fun _ _ h => h) (fun _ h => h.elim) ?aF ?aB ?aS ?aL ?_; (case aR => repeat (first | exact (Kd.C_below HR0.out HB.out) | (with_reducible refine Kd.C_alloc ?_ _) | (with_reducible refine Kd.C_drewN ?_ _) | (with_reducible refine Kd.C_drew ?_))); (case aB => exact (by repeat (first | (with_reducible first | exact HB.out | apply below_alloc | apply pw_below_drewN | apply below_drew1) | exact HB.out))); (case aF => exact (fun _ _ => trivial)); (case aO => exact (by (with_reducible repeat (first | apply Kd.R_alloc | apply Kd.R_drewN | apply Kd.R_drew)); exact HO1.out)); (case aS => exact (below_size (by repeat (first | (with_reducible first | exact HB.out | apply below_alloc | apply pw_below_drewN | apply below_drew1) | exact HB.out)))); (case aL => have := HL.out; (try simp); omega); intro v2 w8 ho hb hg hat; have n0_ := Aside0.mk (hb); have n1_ := Aside0.mk (ho); clear HB; clear HO1; have HB := n0_; have HO2 := n1_; clear n0_ n1_; clear ho hb hg hat))
    go_ret
    exact ⟨_, rfl, (by (with_reducible repeat (first | apply Kd.R_alloc | apply Kd.R_drewN | apply Kd.R_drew)); exact HO2.out), (by repeat (first | (with_reducible first | exact HB.out | apply below_alloc | apply pw_below_drewN | apply below_drew1) | exact HB.out))⟩

def impl_two (a b : Int) : Int := (Go.bits .or .i64 (wrap64 ((wrap64 (a)) * 256)) (wrap64 (b)))
def impl_CutCrc.f (k : Nat) (l0 : List Int) : Option (List Int × Bool) :=
  if 2 ≤ l0.length ∧ l0.length ≤ 600 then
    (impl_CrcOf.f k (l0.take (l0.length - 2))).bind fun c =>
      if c = impl_two (rd l0 ((l0.length - 2 : Nat) : Int)) (rd l0 (((l0.length - 2 : Nat) : Int) + 1)) then some (l0.take (l0.length - 2), true) else some ([], false)
  else some ([], false)
set_option maxHeartbeats 1000000 in
set_option maxRecDepth 100000 in
theorem impl_CutCrc.calls_no (A0 : Option Addr) (c0 : Nat) (l0 : List Int) (w : World) (hr0 : Kd.C (Kd.int .u8) w A0 l0.length l0) (hc0 : l0.length ≤ c0) (hm : l0.length < 2 ∨ 600 < l0.length) :
    Calls Try.prog 55 #[.slice A0 l0.length c0] w fun e w' => ∃ v0_ : Value, e = .returned (.tuple #[v0_, .bool false]) ∧ Kd.R (Kd.int .u8) 5 w' w.heap.size (fun _ => True) v0_ [] ∧ Below w.heap.size w w' := by
  have HR0 := Aside0.mk hr0
  have HC0 := Aside0.mk hc0
  have hbig : l0.length ≤ 9223372036854775807 := hr0.2.1
  clear hr0 hc0
  have HB := Aside0.mk (Below.refl w.heap.size w)
  by_cases hl : l0.length < 2
  · have hd : impl_isData.f l0 = some true := by unfold impl_isData.f; simp; omega
    have HD := Aside0.mk hd
    have e1 : decide ((l0.length : Int) - 2 < 0) = true := decide_eq_true (by omega)
    have e2 : (l0.length : Int) - 2 < 0 := by omega
    have hlb : (l0.length : Int) ≤ 600 := by omega
    clear hd hl hm
    go_enter Try.func55, Try.ntmps55
    go_wp2_with fail
    go_quiet ((go_at_call 67; (with_reducible refine (impl_isData.calls _ _ l0 true _ ?s0 ?s1 HD.out).mono ?_); (case s0 => repeat (first | exact HR0.out | (with_reducible refine Kd.C_alloc ?_ _) | (with_reducible refine Kd.C_drewN ?_ _) | (with_reducible refine Kd.C_drew ?_))); (case s1 => exact HC0.out); rintro e w' ⟨rfl, ⟨nd, rfl⟩⟩; exact ⟨rfl, _, World.drewN_drewN _ _ _⟩))
    go_wp2_with fail
    go_ret2
    exact ⟨_, rfl, by first | exact Kd.R_nil _ _ _ _ _ | exact (by (with_reducible repeat (first | apply Kd.R_alloc | apply Kd.R_drewN | apply Kd.R_drew)); exact HO1.out), (by repeat (first | (with_reducible first | exact HB.out | apply below_alloc | apply pw_below_drewN | apply below_drew1) | exact HB.out))⟩
  · have hd : impl_isData.f l0 = some false := by unfold impl_isData.f; simp; omega
    have HD := Aside0.mk hd
    have e2 : 0 ≤ (l0.length : Int) - 2 := by omega
    clear hd hl hm
    go_enter Try.func55, Try.ntmps55
    go_wp2_with fail
    go_quiet ((go_at_call 67; (with_reducible refine (impl_isData.calls _ _ l0 false _ ?s0 ?s1 HD.out).mono ?_); (case s0 => repeat (first | exact HR0.out | (with_reducible refine Kd.C_alloc ?_ _) | (with_reducible refine Kd.C_drewN ?_ _) | (with_reducible refine Kd.C_drew ?_))); (case s1 => exact HC0.out); rintro e w' ⟨rfl, ⟨nd, rfl⟩⟩; exact ⟨rfl, _, World.drewN_drewN _ _ _⟩))
    go_wp2_with fail
    go_ret2
    exact ⟨_, rfl, by first | exact Kd.R_nil _ _ _ _ _ | exact (by (with_reducible repeat (first | apply Kd.R_alloc | apply Kd.R_drewN | apply Kd.R_drew)); exact HO1.out), (by repeat (first | (with_reducible first | exact HB.out | apply below_alloc | apply pw_below_drewN | apply below_drew1) | exact HB.out))⟩
set_option maxHeartbeats 1000000 in
set_option maxRecDepth 100000 in
theorem impl_CutCrc.calls_at (k : Nat) (A0 : Option Addr) (c0 : Nat) (l0 : List Int) (c : Int) (m : Nat) (b : Bool) (w : World) (hr0 : Kd.C (Kd.int .u8) w A0 l0.length l0) (hc0 : l0.length ≤ c0)
    (hm : l0.length = m + 2) (hm6 : m ≤ 598) (hc : impl_CrcOf.f k (l0.take m) = some c) (heq : (c != impl_two (rd l0 m) (rd l0 (m + 1))) = b) :
    Calls Try.prog 55 #[.slice A0 l0.length c0] w fun e w' => ∃ v0_ : Value, e = .returned (.tuple #[v0_, .bool (!b)]) ∧ Kd.R (Kd.int .u8) 5 w' w.heap.size (fun _ => True) v0_ (if b = true then [] else l0.take m) ∧ Below w.heap.size w w' := by
  have HR0 := Aside0.mk hr0
  have HC0 := Aside0.mk hc0
  have HM := Aside0.mk hm
  have HCR := Aside0.mk hc
  clear hr0 hc0 hc
  have hd : impl_isData.f l0 = some true := by unfold impl_isData.f; simp [hm]; omega
  have HD := Aside0.mk hd
  clear hd
  have e1 : ((l0.length : Int) - 2) = m := by omega
  have e2 : (m : Int) + 1 < l0.length := by omega
  have e3 : (m : Int) < l0.length := by omega
  have hlb : (l0.length : Int) ≤ 600 := by omega
  obtain ⟨ad, ea, hx0⟩ := Kd.at_int HR0.out (m : Int) (by omega) (by omega)
  obtain ⟨ad', ea', hx1⟩ := Kd.at_int HR0.out ((m : Int) + 1) (by omega) (by omega)
  subst ea
  cases ea'
  simp only [Int.toNat_natCast] at hx0
  have ht : ((m : Int) + 1).toNat = m + 1 := by omega
  rw [ht] at hx1
  have hx1' := hx1
  rw [show ad.add (m + 1) = { block := ad.block, off := ad.off + (m + 1) } from by unfold Addr.add; simp] at hx1'
  clear ht hm
  obtain ⟨i0, hi0, _, hsz, _⟩ := info_parts info5
  obtain ⟨hcut, hA, hC⟩ := print_take_int (P := Try.prog) (k := .u8) 22 5 Try.underlying22 hi0 hsz (some ad) c0 l0 (m : Int) (by omega) (by omega) HC0.out
  simp only [Int.toNat_natCast] at hcut hA hC
  have hw1 : IntKind.i64.wrap ((m : Int) + 1) = (m : Int) + 1 := IntWalk.i64_in _ (by omega)
  have hw2 : 0 ≤ (m : Int) + 1 := by omega
  have hw3 : ((m : Int) + 1).toNat = m + 1 := by omega
  unfold impl_two at heq
  have heq' : (c != (Go.bits .or .i64 (IntKind.i64.wrap ((IntKind.i64.wrap (rd l0 m)) * 256)) (IntKind.i64.wrap (rd l0 (m + 1))))) = b := by simpa only [i64_w] using heq
  have hmn : decide ((m : Int) < 0) = false := decide_eq_false (by omega)
  generalize hx : l0.take m = x1 at hcut hA hC HCR ⊢
  have HX := Aside0.mk hx
  clear hx
  have HL := Aside0.mk (show x1.length ≤ 600 by rw [← HX.out, List.length_take]; omega)
  have HR1 := Aside0.mk (Kd.C_of_reads (h1 := fun _ => rfl) (hA _ (Kd.reads_of_C HR0.out)))
  have HC1 := Aside0.mk hC
  clear hA hC hi0 hsz
  cases b
  · go_enter Try.func55, Try.ntmps55
    go_wp2_with fail
    go_quiet (first | ((go_at_call 67; (with_reducible refine (impl_isData.calls _ _ l0 true _ ?s0 ?s1 HD.out).mono ?_); (case s0 => repeat (first | exact HR0.out | (with_reducible refine Kd.C_alloc ?_ _) | (with_reducible refine Kd.C_drewN ?_ _) | (with_reducible refine Kd.C_drew ?_))); (case s1 => exact HC0.out); rintro e w' ⟨rfl, ⟨nd, rfl⟩⟩; exact ⟨rfl, _, World.drewN_drewN _ _ _⟩)) | (go_at_call 65; (with_reducible refine (impl_CrcOf.calls k _ _ x1 c _ ?s0 ?s1 HCR.out).mono ?_); (case s0 => repeat (first | exact HR1.out | (with_reducible refine Kd.C_alloc ?_ _) | (with_reducible refine Kd.C_drewN ?_ _) | (with_reducible refine Kd.C_drew ?_))); (case s1 => exact HC1.out); rintro e w' ⟨rfl, ⟨nd, rfl⟩⟩; exact ⟨rfl, _, World.drewN_drewN _ _ _⟩))
    have HB := Aside0.mk (Below.refl w.heap.size w)
    go_wp2_with (first
      | ((with_reducible refine gate_dst (N := 35) rfl ?_); refine Kd.R_lit (Kd.int .u8) _ 5 ?hg (N := 35) ?hd (xs := ([] : List _)) (inner := []) (ok := fun _ => True) (okp := fun _ => True) ?hr ?hp (fun _ hk => hk) trivial (Below.refl _ _) (Nat.le_refl _) (by simp) ?_; (case hd => rfl); (case hg => rfl); (case hr => first | (go_simp; done) | (go_simp; rfl)); (case hp => exact (Reps.none _ _)); intro v1 w6 ho7 hb hg_ hnew_; clear hg_ hnew_; have n0_ := Aside0.mk (Kd.R_lower ho7 (below_size (by repeat (first | (with_reducible first | exact HB.out | apply below_alloc | apply pw_below_drewN | apply below_drew1) | exact HB.out)))); have n1_ := Aside0.mk (below_step (by repeat (first | (with_reducible first | exact HB.out | apply below_alloc | apply pw_below_drewN | apply below_drew1) | exact HB.out)) hb); clear HB; have HO1 := n0_; have HB := n1_; clear n0_ n1_; clear hb ho7)
      | ((with_reducible refine gate_builtin (b := .append) (xs := #[.tmp 35, .tmp 38]) rfl ?_); at_builtin; refine Kd.R_append_rows (Kd.int .u8) (w0 := w) w.heap.size rfl (.tmp 35) (.tmp 38) 22 5 (.int .u8 0) 1 rfl Try.underlying22 info5 rfl (by decide) (by omega) v1 [] x1 _ _ _ (fun _ => True) (fun _ => False) rfl rfl ?aO ?aR (fun _ _ h => h) (fun _ h => h.elim) ?aF ?aB ?aS ?aL ?_; (case aR => repeat (first | exact (Kd.C_below HR1.out HB.out) | (with_reducible refine Kd.C_alloc ?_ _) | (with_reducible refine Kd.C_drewN ?_ _) | (with_reducible refine Kd.C_drew ?_))); (case aB => exact (by repeat (first | (with_reducible first | exact HB.out | apply below_alloc | apply pw_below_drewN | apply below_drew1) | exact HB.out))); (case aF => exact (fun _ _ => trivial)); (case aO => exact (by (with_reducible repeat (first | apply Kd.R_alloc | apply Kd.R_drewN | apply Kd.R_drew)); exact HO1.out)); (case aS => exact (below_size (by repeat (first | (with_reducible first | exact HB.out | apply below_alloc | apply pw_below_drewN | apply below_drew1) | exact HB.out)))); (case aL => have := HL.out; (try simp); omega); intro v2 w8 ho hb hg hat; have n0_ := Aside0.mk (hb); have n1_ := Aside0.mk (ho); clear HB; clear HO1; have HB := n0_; have HO2 := n1_; clear n0_ n1_; clear ho hb hg hat))
    go_ret2
    exact ⟨_, rfl, (by (with_reducible repeat (first | apply Kd.R_alloc | apply Kd.R_drewN | apply Kd.R_drew)); exact HO2.out), (by repeat (first | (with_reducible first | exact HB.out | apply below_alloc | apply pw_below_drewN | apply below_drew1) | exact HB.out))⟩
  · go_enter Try.func55, Try.ntmps55
    go_wp2_with fail
    go_quiet (first | ((go_at_call 67; (with_reducible refine (impl_isData.calls _ _ l0 true _ ?s0 ?s1 HD.out).mono ?_); (case s0 => repeat (first | exact HR0.out | (with_reducible refine Kd.C_alloc ?_ _) | (with_reducible refine Kd.C_drewN ?_ _) | (with_reducible refine Kd.C_drew ?_))); (case s1 => exact HC0.out); rintro e w' ⟨rfl, ⟨nd, rfl⟩⟩; exact ⟨rfl, _, World.drewN_drewN _ _ _⟩)) | (go_at_call 65; (with_reducible refine (impl_CrcOf.calls k _ _ x1 c _ ?s0 ?s1 HCR.out).mono ?_); (case s0 => repeat (first | exact HR1.out | (with_reducible refine Kd.C_alloc ?_ _) | (with_reducible refine Kd.C_drewN ?_ _) | (with_reducible refine Kd.C_drew ?_))); (case s1 => exact HC1.out); rintro e w' ⟨rfl, ⟨nd, rfl⟩⟩; exact ⟨rfl, _, World.drewN_drewN _ _ _⟩))
    have HB := Aside0.mk (Below.refl w.heap.size w)
    go_wp2_with fail
    go_ret2
    exact ⟨_, rfl, by first | exact Kd.R_nil _ _ _ _ _ | exact (by (with_reducible repeat (first | apply Kd.R_alloc | apply Kd.R_drewN | apply Kd.R_drew)); exact HO1.out), (by repeat (first | (with_reducible first | exact HB.out | apply below_alloc | apply pw_below_drewN | apply below_drew1) | exact HB.out))⟩
theorem impl_CutCrc.calls (k : Nat) (A0 : Option Addr) (c0 : Nat) (l0 : List Int) (r1 : List Int) (r2 : Bool) (w : World) (hr0 : Kd.C (Kd.int .u8) w A0 l0.length l0) (hc0 : l0.length ≤ c0) (h : impl_CutCrc.f k l0 = some (r1, r2)) :
    Calls Try.prog 55 #[.slice A0 l0.length c0] w fun e w' => ∃ v0_ : Value, e = .returned (.tuple #[v0_, .bool r2]) ∧ Kd.R (Kd.int .u8) 5 w' w.heap.size (fun _ => True) v0_ r1 ∧ Below w.heap.size w w' := by
  unfold impl_CutCrc.f at h
  by_cases hm : 2 ≤ l0.length ∧ l0.length ≤ 600
  · rw [if_pos hm] at h
    obtain ⟨c, hc, h⟩ := Option.bind_eq_some_iff.1 h
    obtain ⟨m, hm2⟩ : ∃ m, l0.length = m + 2 := ⟨l0.length - 2, by omega⟩
    rw [show l0.length - 2 = m by omega] at hc h
    have hcon := fun b hb => impl_CutCrc.calls_at k A0 c0 l0 c m b w hr0 hc0 hm2 (by omega) hc hb
    by_cases he : c = impl_two (rd l0 (m : Int)) (rd l0 ((m : Int) + 1))
    · rw [if_pos he] at h
      simp only [Option.some.injEq, Prod.mk.injEq] at h
      obtain ⟨rfl, rfl⟩ := h
      exact hcon false (bne_eq_false_iff_eq.mpr he)
    · rw [if_neg he] at h
      simp only [Option.some.injEq, Prod.mk.injEq] at h
      obtain ⟨rfl, rfl⟩ := h
      exact hcon true (bne_iff_ne.mpr he)
  · rw [if_neg hm] at h
    simp only [Option.some.injEq, Prod.mk.injEq] at h
    obtain ⟨rfl, rfl⟩ := h
    exact impl_CutCrc.calls_no A0 c0 l0 w hr0 hc0 (by omega)

def spec_two (a b : Int) : Int := (wrap64 (wrap64 ((wrap64 (a)) * 256) + wrap64 (b)))
def spec_CutCrc.f (k : Nat) (l0 : List Int) : Option (List Int × Bool) :=
  if 2 ≤ l0.length ∧ l0.length ≤ 600 then
    (spec_CrcOf.f k (l0.take (l0.length - 2))).bind fun c =>
      if c = spec_two (rd l0 ((l0.length - 2 : Nat) : Int)) (rd l0 (((l0.length - 2 : Nat) : Int) + 1)) then some (l0.take (l0.length - 2), true) else some ([], false)
  else some ([], false)
set_option maxHeartbeats 1000000 in
set_option maxRecDepth 100000 in
theorem spec_CutCrc.calls_no (A0 : Option Addr) (c0 : Nat) (l0 : List Int) (w : World) (hr0 : Kd.C (Kd.int .u8) w A0 l0.length l0) (hc0 : l0.length ≤ c0) (hm : l0.length < 2 ∨ 600 < l0.length) :
    Calls Try.prog 92 #[.slice A0 l0.length c0] w fun e w' => ∃ v0_ : Value, e = .returned (.tuple #[v0_, .bool false]) ∧ Kd.R (Kd.int .u8) 5 w' w.heap.size (fun _ => True) v0_ [] ∧ Below w.heap.size w w' := by
  have HR0 := Aside0.mk hr0
  have HC0 := Aside0.mk hc0
  have hbig : l0.length ≤ 9223372036854775807 := hr0.2.1
  clear hr0 hc0
  have HB := Aside0.mk (Below.refl w.heap.size w)
  by_cases hl : l0.length < 2
  · have hd : spec_l1Data.f l0 = some true := by unfold spec_l1Data.f; simp; omega
    have HD := Aside0.mk hd
    have e1 : decide ((l0.length : Int) - 2 < 0) = true := decide_eq_true (by omega)
    have e2 : (l0.length : Int) - 2 < 0 := by omega
    have hlb : (l0.length : Int) ≤ 600 := by omega
    clear hd hl hm
    go_enter Try.func92, Try.ntmps92
    go_wp2_with fail
    go_quiet ((go_at_call 97; (with_reducible refine (spec_l1Data.calls _ _ l0 true _ ?s0 ?s1 HD.out).mono ?_); (case s0 => repeat (first | exact HR0.out | (with_reducible refine Kd.C_alloc ?_ _) | (with_reducible refine Kd.C_drewN ?_ _) | (with_reducible refine Kd.C_drew ?_))); (case s1 => exact HC0.out); rintro e w' ⟨rfl, ⟨nd, rfl⟩⟩; exact ⟨rfl, _, World.drewN_drewN _ _ _⟩))
    go_wp2_with (first
      | ((with_reducible refine gate_dst (N := 35) rfl ?_); refine Kd.R_lit (Kd.int .u8) _ 5 ?hg (N := 35) ?hd (xs := ([] : List _)) (inner := []) (ok := fun _ => True) (okp := fun _ => True) ?hr ?hp (fun _ hk => hk) trivial (Below.refl _ _) (Nat.le_refl _) (by simp) ?_; (case hd => rfl); (case hg => rfl); (case hr => first | (go_simp; done) | (go_simp; rfl)); (case hp => exact (Reps.none _ _)); intro v1 w6 ho7 hb hg_ hnew_; clear hg_ hnew_; have n0_ := Aside0.mk (Kd.R_lower ho7 (below_size (by repeat (first | (with_reducible first | exact HB.out | apply below_alloc | apply pw_below_drewN | apply below_drew1) | exact HB.out)))); have n1_ := Aside0.mk (below_step (by repeat (first | (with_reducible first | exact HB.out | apply below_alloc | apply pw_below_drewN | apply below_drew1) | exact HB.out)) hb); clear HB; have HO1 := n0_; have HB := n1_; clear n0_ n1_; clear hb ho7))
    go_ret2
    exact ⟨_, rfl, by first | exact Kd.R_nil _ _ _ _ _ | exact (by (with_reducible repeat (first | apply Kd.R_alloc | apply Kd.R_drewN | apply Kd.R_drew)); exact HO1.out), (by repeat (first | (with_reducible first | exact HB.out | apply below_alloc | apply pw_below_drewN | apply below_drew1) | exact HB.out))⟩
  · have hd : spec_l1Data.f l0 = some false := by unfold spec_l1Data.f; simp; omega
    have HD := Aside0.mk hd
    have e2 : 0 ≤ (l0.length : Int) - 2 := by omega
    clear hd hl hm
    go_enter Try.func92, Try.ntmps92
    go_wp2_with fail
    go_quiet ((go_at_call 97; (with_reducible refine (spec_l1Data.calls _ _ l0 false _ ?s0 ?s1 HD.out).mono ?_); (case s0 => repeat (first | exact HR0.out | (with_reducible refine Kd.C_alloc ?_ _) | (with_reducible refine Kd.C_drewN ?_ _) | (with_reducible refine Kd.C_drew ?_))); (case s1 => exact HC0.out); rintro e w' ⟨rfl, ⟨nd, rfl⟩⟩; exact ⟨rfl, _, World.drewN_drewN _ _ _⟩))
    go_wp2_with (first
      | ((with_reducible refine gate_dst (N := 35) rfl ?_); refine Kd.R_lit (Kd.int .u8) _ 5 ?hg (N := 35) ?hd (xs := ([] : List _)) (inner := []) (ok := fun _ => True) (okp := fun _ => True) ?hr ?hp (fun _ hk => hk) trivial (Below.refl _ _) (Nat.le_refl _) (by simp) ?_; (case hd => rfl); (case hg => rfl); (case hr => first | (go_simp; done) | (go_simp; rfl)); (case hp => exact (Reps.none _ _)); intro v1 w6 ho7 hb hg_ hnew_; clear hg_ hnew_; have n0_ := Aside0.mk (Kd.R_lower ho7 (below_size (by repeat (first | (with_reducible first | exact HB.out | apply below_alloc | apply pw_below_drewN | apply below_drew1) | exact HB.out)))); have n1_ := Aside0.mk (below_step (by repeat (first | (with_reducible first | exact HB.out | apply below_alloc | apply pw_below_drewN | apply below_drew1) | exact HB.out)) hb); clear HB; have HO1 := n0_; have HB := n1_; clear n0_ n1_; clear hb ho7))
    go_ret2
    exact ⟨_, rfl, by first | exact Kd.R_nil _ _ _ _ _ | exact (by (with_reducible repeat (first | apply Kd.R_alloc | apply Kd.R_drewN | apply Kd.R_drew)); exact HO1.out), (by repeat (first | (with_reducible first | exact HB.out | apply below_alloc | apply pw_below_drewN | apply below_drew1) | exact HB.out))⟩
set_option maxHeartbeats 1000000 in
set_option maxRecDepth 100000 in
theorem spec_CutCrc.calls_at (k : Nat) (A0 : Option Addr) (c0 : Nat) (l0 : List Int) (c : Int) (m : Nat) (b : Bool) (w : World) (hr0 : Kd.C (Kd.int .u8) w A0 l0.length l0) (hc0 : l0.length ≤ c0)
    (hm : l0.length = m + 2) (hm6 : m ≤ 598) (hc : spec_CrcOf.f k (l0.take m) = some c) (heq : (c != spec_two (rd l0 m) (rd l0 (m + 1))) = b) :
    Calls Try.prog 92 #[.slice A0 l0.length c0] w fun e w' => ∃ v0_ : Value, e = .returned (.tuple #[v0_, .bool (!b)]) ∧ Kd.R (Kd.int .u8) 5 w' w.heap.size (fun _ => True) v0_ (if b = true then [] else l0.take m) ∧ Below w.heap.size w w' := by
  have HR0 := Aside0.mk hr0
  have HC0 := Aside0.mk hc0
  have HM := Aside0.mk hm
  have HCR := Aside0.mk hc
  clear hr0 hc0 hc
  have hd : spec_l1Data.f l0 = some true := by unfold spec_l1Data.f; simp [hm]; omega
  have HD := Aside0.mk hd
  clear hd
  have e1 : ((l0.length : Int) - 2) = m := by omega
  have e2 : (m : Int) + 1 < l0.length := by omega
  have e3 : (m : Int) < l0.length := by omega
  have hlb : (l0.length : Int) ≤ 600 := by omega
  obtain ⟨ad, ea, hx0⟩ := Kd.at_int HR0.out (m : Int) (by omega) (by omega)
  obtain ⟨ad', ea', hx1⟩ := Kd.at_int HR0.out ((m : Int) + 1) (by omega) (by omega)
  subst ea
  cases ea'
  simp only [Int.toNat_natCast] at hx0
  have ht : ((m : Int) + 1).toNat = m + 1 := by omega
  rw [ht] at hx1
  have hx1' := hx1
  rw [show ad.add (m + 1) = { block := ad.block, off := ad.off + (m + 1) } from by unfold Addr.add; simp] at hx1'
  clear ht hm
  obtain ⟨i0, hi0, _, hsz, _⟩ := info_parts info5
  obtain ⟨hcut, hA, hC⟩ := print_take_int (P := Try.prog) (k := .u8) 22 5 Try.underlying22 hi0 hsz (some ad) c0 l0 (m : Int) (by omega) (by omega) HC0.out
  simp only [Int.toNat_natCast] at hcut hA hC
  have hw1 : IntKind.i64.wrap ((m : Int) + 1) = (m : Int) + 1 := IntWalk.i64_in _ (by omega)
  have hw2 : 0 ≤ (m : Int) + 1 := by omega
  have hw3 : ((m : Int) + 1).toNat = m + 1 := by omega
  unfold spec_two at heq
  have heq' : (c != (IntKind.i64.wrap (IntKind.i64.wrap ((IntKind.i64.wrap (rd l0 m)) * 256) + IntKind.i64.wrap (rd l0 (m + 1))))) = b := by simpa only [i64_w] using heq
  have hmn : decide ((m : Int) < 0) = false := decide_eq_false (by omega)
  generalize hx : l0.take m = x1 at hcut hA hC HCR ⊢
  have HX := Aside0.mk hx
  clear hx
  have HL := Aside0.mk (show x1.length ≤ 600 by rw [← HX.out, List.length_take]; omega)
  have HR1 := Aside0.mk (Kd.C_of_reads (h1 := fun _ => rfl) (hA _ (Kd.reads_of_C HR0.out)))
  have HC1 := Aside0.mk hC
  clear hA hC hi0 hsz
  cases b
  · go_enter Try.func92, Try.ntmps92
    go_wp2_with fail
    go_quiet (first | ((go_at_call 97; (with_reducible refine (spec_l1Data.calls _ _ l0 true _ ?s0 ?s1 HD.out).mono ?_); (case s0 => repeat (first | exact HR0.out | (with_reducible refine Kd.C_alloc ?_ _) | (with_reducible refine Kd.C_drewN ?_ _) | (with_reducible refine Kd.C_drew ?_))); (case s1 => exact HC0.out); rintro e w' ⟨rfl, ⟨nd, rfl⟩⟩; exact ⟨rfl, _, World.drewN_drewN _ _ _⟩)) | (go_at_call 96; (with_reducible refine (spec_CrcOf.calls k _ _ x1 c _ ?s0 ?s1 HCR.out).mono ?_); (case s0 => repeat (first | exact HR1.out | (with_reducible refine Kd.C_alloc ?_ _) | (with_reducible refine Kd.C_drewN ?_ _) | (with_reducible refine Kd.C_drew ?_))); (case s1 => exact HC1.out); rintro e w' ⟨rfl, ⟨nd, rfl⟩⟩; exact ⟨rfl, _, World.drewN_drewN _ _ _⟩))
    have HB := Aside0.mk (Below.refl w.heap.size w)
    go_wp2_with (first
      | ((with_reducible refine gate_dst (N := 36) rfl ?_); refine Kd.R_lit (Kd.int .u8) _ 5 ?hg (N := 36) ?hd (xs := ([] : List _)) (inner := []) (ok := fun _ => True) (okp := fun _ => True) ?hr ?hp (fun _ hk => hk) trivial (Below.refl _ _) (Nat.le_refl _) (by simp) ?_; (case hd => rfl); (case hg => rfl); (case hr => first | (go_simp; done) | (go_simp; rfl)); (case hp => exact (Reps.none _ _)); intro v1 w6 ho7 hb hg_ hnew_; clear hg_ hnew_; have n0_ := Aside0.mk (Kd.R_lower ho7 (below_size (by repeat (first | (with_reducible first | exact HB.out | apply below_alloc | apply pw_below_drewN | apply below_drew1) | exact HB.out)))); have n1_ := Aside0.mk (below_step (by repeat (first | (with_reducible first | exact HB.out | apply below_alloc | apply pw_below_drewN | apply below_drew1) | exact HB.out)) hb); clear HB; have HO1 := n0_; have HB := n1_; clear n0_ n1_; clear hb ho7)
      | ((with_reducible refine gate_builtin (b := .append) (xs := #[.tmp 36, .tmp 39]) rfl ?_); at_builtin; refine Kd.R_append_rows (Kd.int .u8) (w0 := w) w.heap.size rfl (.tmp 36) (.tmp 39) 22 5 (.int .u8 0) 1 rfl Try.underlying22 info5 rfl (by decide) (by omega) v1 [] x1 _ _ _ (fun _ => True) (fun _ => False) rfl rfl ?aO ?aR (fun _ _ h => h) (fun _ h => h.elim) ?aF ?aB ?aS ?aL ?_; (case aR => repeat (first | exact (Kd.C_below HR1.out HB.out) | (with_reducible refine Kd.C_alloc ?_ _) | (with_reducible refine Kd.C_drewN ?_ _) | (with_reducible refine Kd.C_drew ?_))); (case aB => exact (by repeat (first | (with_reducible first | exact HB.out | apply below_alloc | apply pw_below_drewN | apply below_drew1) | exact HB.out))); (case aF => exact (fun _ _ => trivial)); (case aO => exact (by (with_reducible repeat (first | apply Kd.R_alloc | apply Kd.R_drewN | apply Kd.R_drew)); exact HO1.out)); (case aS => exact (below_size (by repeat (first | (with_reducible first | exact HB.out | apply below_alloc | apply pw_below_drewN | apply below_drew1) | exact HB.out)))); (case aL => have := HL.out; (try simp); omega); intro v2 w8 ho hb hg hat; have n0_ := Aside0.mk (hb); have n1_ := Aside0.mk (ho); clear HB; clear HO1; have HB := n0_; have HO2 := n1_; clear n0_ n1_; clear ho hb hg hat))
    go_ret2
    exact ⟨_, rfl, (by (with_reducible repeat (first | apply Kd.R_alloc | apply Kd.R_drewN | apply Kd.R_drew)); exact HO2.out), (by repeat (first | (with_reducible first | exact HB.out | apply below_alloc | apply pw_below_drewN | apply below_drew1) | exact HB.out))⟩
  · go_enter Try.func92, Try.ntmps92
    go_wp2_with fail
    go_quiet (first | ((go_at_call 97; (with_reducible refine (spec_l1Data.calls _ _ l0 true _ ?s0 ?s1 HD.out).mono ?_); (case s0 => repeat (first | exact HR0.out | (with_reducible refine Kd.C_alloc ?_ _) | (with_reducible refine Kd.C_drewN ?_ _) | (with_reducible refine Kd.C_drew ?_))); (case s1 => exact HC0.out); rintro e w' ⟨rfl, ⟨nd, rfl⟩⟩; exact ⟨rfl, _, World.drewN_drewN _ _ _⟩)) | (go_at_call 96; (with_reducible refine (spec_CrcOf.calls k _ _ x1 c _ ?s0 ?s1 HCR.out).mono ?_); (case s0 => repeat (first | exact HR1.out | (with_reducible refine Kd.C_alloc ?_ _) | (with_reducible refine Kd.C_drewN ?_ _) | (with_reducible refine Kd.C_drew ?_))); (case s1 => exact HC1.out); rintro e w' ⟨rfl, ⟨nd, rfl⟩⟩; exact ⟨rfl, _, World.drewN_drewN _ _ _⟩))
    have HB := Aside0.mk (Below.refl w.heap.size w)
    go_wp2_with (first
      | ((with_reducible refine gate_dst (N := 35) rfl ?_); refine Kd.R_lit (Kd.int .u8) _ 5 ?hg (N := 35) ?hd (xs := ([] : List _)) (inner := []) (ok := fun _ => True) (okp := fun _ => True) ?hr ?hp (fun _ hk => hk) trivial (Below.refl _ _) (Nat.le_refl _) (by simp) ?_; (case hd => rfl); (case hg => rfl); (case hr => first | (go_simp; done) | (go_simp; rfl)); (case hp => exact (Reps.none _ _)); intro v1 w6 ho7 hb hg_ hnew_; clear hg_ hnew_; have n0_ := Aside0.mk (Kd.R_lower ho7 (below_size (by repeat (first | (with_reducible first | exact HB.out | apply below_alloc | apply pw_below_drewN | apply below_drew1) | exact HB.out)))); have n1_ := Aside0.mk (below_step (by repeat (first | (with_reducible first | exact HB.out | apply below_alloc | apply pw_below_drewN | apply below_drew1) | exact HB.out)) hb); clear HB; have HO1 := n0_; have HB := n1_; clear n0_ n1_; clear hb ho7))
    go_ret2
    exact ⟨_, rfl, by first | exact Kd.R_nil _ _ _ _ _ | exact (by (with_reducible repeat (first | apply Kd.R_alloc | apply Kd.R_drewN | apply Kd.R_drew)); exact HO1.out), (by repeat (first | (with_reducible first | exact HB.out | apply below_alloc | apply pw_below_drewN | apply below_drew1) | exact HB.out))⟩
theorem spec_CutCrc.calls (k : Nat) (A0 : Option Addr) (c0 : Nat) (l0 : List Int) (r1 : List Int) (r2 : Bool) (w : World) (hr0 : Kd.C (Kd.int .u8) w A0 l0.length l0) (hc0 : l0.length ≤ c0) (h : spec_CutCrc.f k l0 = some (r1, r2)) :
    Calls Try.prog 92 #[.slice A0 l0.length c0] w fun e w' => ∃ v0_ : Value, e = .returned (.tuple #[v0_, .bool r2]) ∧ Kd.R (Kd.int .u8) 5 w' w.heap.size (fun _ => True) v0_ r1 ∧ Below w.heap.size w w' := by
  unfold spec_CutCrc.f at h
  by_cases hm : 2 ≤ l0.length ∧ l0.length ≤ 600
  · rw [if_pos hm] at h
    obtain ⟨c, hc, h⟩ := Option.bind_eq_some_iff.1 h
    obtain ⟨m, hm2⟩ : ∃ m, l0.length = m + 2 := ⟨l0.length - 2, by omega⟩
    rw [show l0.length - 2 = m by omega] at hc h
    have hcon := fun b hb => spec_CutCrc.calls_at k A0 c0 l0 c m b w hr0 hc0 hm2 (by omega) hc hb
    by_cases he : c = spec_two (rd l0 (m : Int)) (rd l0 ((m : Int) + 1))
    · rw [if_pos he] at h
      simp only [Option.some.injEq, Prod.mk.injEq] at h
      obtain ⟨rfl, rfl⟩ := h
      exact hcon false (bne_eq_false_iff_eq.mpr he)
    · rw [if_neg he] at h
      simp only [Option.some.injEq, Prod.mk.injEq] at h
      obtain ⟨rfl, rfl⟩ := h
      exact hcon true (bne_iff_ne.mpr he)
  · rw [if_neg hm] at h
    simp only [Option.some.injEq, Prod.mk.injEq] at h
    obtain ⟨rfl, rfl⟩ := h
    exact spec_CutCrc.calls_no A0 c0 l0 w hr0 hc0 (by omega)
end Go.Proofs.Ytookabfmbimnoaa.Lk

namespace Go.Proofs.Ytookabfmbimnoaa.Lk
open Go.RowKit Go.Proofs.YtookabfmbimnoaaW.PrintWords Go.Proofs.YtookabfmbimnoaaW.PrintLast Go.Proofs.YtookabfmbimnoaaW.PrintMore
set_option linter.unusedVariables false
set_option linter.unusedSimpArgs false

theorem canSend_ok (A0 : Option Addr) (c0 : Nat) (l0 : List Int) (n : Int) (w : World) (hr0 : Kd.C (Kd.int .i64) w A0 l0.length l0) (hc0 : l0.length ≤ c0) (hf : fatesOk l0 = true) (h0 : 0 ≤ n) (h1 : n ≤ 60) :
    Calls Try.prog 66 #[.slice A0 l0.length c0, .int .i64 n] w fun e w' => e = .returned (.bool true) ∧ Below w.heap.size w w' := by
  have HC := Aside0.mk (impl_FatesValid.calls A0 c0 l0 true w hr0 hc0 (by rw [← hf]; rfl))
  have HW := Aside0.mk (show impl_within.f n 0 60 = some true by rw [within_ok, decide_eq_true h0, decide_eq_true h1]; rfl)
  clear hr0 hf h0 h1
  have HB := Aside0.mk (Below.refl w.heap.size w)
  go_enter Try.func66, Try.ntmps66
  go_wp2_with (first | (go_at_call 43; (with_reducible refine (HC.out).mono ?_); rintro e w' ⟨rfl, hb⟩; have n_ := Aside0.mk (below_step HB.out hb); clear HB; have HB := n_; clear n_ hb) | (go_at_call 42; (with_reducible refine (impl_within.calls n 0 60 true _ HW.out).mono ?_); rintro e w' ⟨rfl, hd⟩; have n_ := Aside0.mk (below_step HB.out hd.below); clear HB; have HB := n_; clear n_ hd))
  go_ret
  exact ⟨rfl, HB.out⟩

set_option maxHeartbeats 1000000 in
theorem FatesBehind_ok (A0 : Option Addr) (c0 : Nat) (l0 : List Int) (n : Nat) (w : World) (hr0 : Kd.C (Kd.int .i64) w A0 l0.length l0) (hc0 : l0.length ≤ c0) (hf : fatesOk l0 = true) (hn : n ≤ 1000000) :
    Calls Try.prog 54 #[.slice A0 l0.length c0, .int .i64 n] w fun e w' => ∃ v0_ : Value, e = .returned v0_ ∧ Kd.R (Kd.int .i64) 3 w' w.heap.size (fun _ => True) v0_ (l0.drop n) ∧ Below w.heap.size w w' := by
  have HC := Aside0.mk (impl_FatesValid.calls A0 c0 l0 true w hr0 hc0 (by rw [← hf]; rfl))
  have hl : l0.length ≤ 200 := by unfold fatesOk at hf; simp at hf; exact hf.1
  have HL := Aside0.mk hl
  have HR0 := Aside0.mk hr0
  have hbig : (l0.length : Int) ≤ 200 := by omega
  obtain ⟨i0, hi0, _, hsz, _⟩ := info_parts info3
  have hmn : decide ((n : Int) < 0) = false := decide_eq_false (by omega)
  have HB := Aside0.mk (Below.refl w.heap.size w)
  by_cases hlt : n ≤ l0.length
  · obtain ⟨A1, hcut, hA, hC⟩ := print_drop_of (P := Try.prog) (Value.int .i64) 0 24 3 .i64 Try.underlying24 hi0 hsz A0 c0 l0 (n : Int) (by omega) (by omega) hc0
    simp only [Int.toNat_natCast] at hcut hA hC
    generalize hx : l0.drop n = x1 at hcut hA hC ⊢
    have HX := Aside0.mk (show x1.length ≤ 200 by rw [← hx, List.length_drop]; omega)
    have HR1 := Aside0.mk (Kd.C_of_reads (h1 := fun _ => rfl) (hA _ (Kd.reads_of_C hr0)))
    have HC1 := Aside0.mk hC
    have HCL := Aside0.mk (show slices_Clone_int_int.f x1 = some x1 from if_pos (by have := HX.out; omega))
    have hle : (n : Int) ≤ l0.length := by omega
    clear hx hA hC hi0 hsz hr0 hf hl
    go_enter Try.func54, Try.ntmps54
    go_wp2_with (first | (go_at_call 43; (with_reducible refine (HC.out).mono ?_); rintro e w' ⟨rfl, hb⟩; have n_ := Aside0.mk (below_step HB.out hb); have n2_ := Aside0.mk (Kd.C_below HR1.out hb); clear HB HR1; have HB := n_; have HR1 := n2_; clear n_ n2_ hb) | (go_at_call 72; (with_reducible refine (slices_Clone_int_int.calls _ _ x1 x1 _ ?s0 ?s1 HCL.out).mono ?_); (case s0 => repeat (first | exact HR1.out | (with_reducible refine Kd.C_alloc ?_ _) | (with_reducible refine Kd.C_drewN ?_ _) | (with_reducible refine Kd.C_drew ?_))); (case s1 => exact HC1.out); rintro e w' ⟨v2, rfl, ho2, hb2⟩; have n0_ := Aside0.mk (Kd.R_lower ho2 (below_size (by repeat (first | (with_reducible first | exact HB.out | apply below_alloc | apply pw_below_drewN | apply below_drew1) | exact HB.out)))); have n1_ := Aside0.mk (below_step (by repeat (first | (with_reducible first | exact HB.out | apply below_alloc | apply pw_below_drewN | apply below_drew1) | exact HB.out)) hb2); clear HB; have HO2 := n0_; have HB := n1_; clear n0_ n1_ ho2 hb2))
    go_ret
    exact ⟨_, rfl, (by (with_reducible repeat (first | apply Kd.R_alloc | apply Kd.R_drewN | apply Kd.R_drew)); exact HO2.out), (by repeat (first | (with_reducible first | exact HB.out | apply below_alloc | apply pw_below_drewN | apply below_drew1) | exact HB.out))⟩
  · obtain ⟨A1, hcut, hA, hC⟩ := print_drop_of (P := Try.prog) (Value.int .i64) 0 24 3 .i64 Try.underlying24 hi0 hsz A0 c0 l0 (l0.length : Int) (by omega) (by omega) hc0
    simp only [Int.toNat_natCast] at hcut hA hC
    rw [show l0.drop n = l0.drop l0.length by rw [List.drop_eq_nil_of_le (by omega), List.drop_eq_nil_of_le (by omega)]]
    generalize hx : l0.drop l0.length = x1 at hcut hA hC ⊢
    have HX := Aside0.mk (show x1.length ≤ 200 by rw [← hx, List.length_drop]; omega)
    have HR1 := Aside0.mk (Kd.C_of_reads (h1 := fun _ => rfl) (hA _ (Kd.reads_of_C hr0)))
    have HC1 := Aside0.mk hC
    have HCL := Aside0.mk (show slices_Clone_int_int.f x1 = some x1 from if_pos (by have := HX.out; omega))
    have hle : (l0.length : Int) < n := by omega
    clear hx hA hC hi0 hsz hr0 hf hl
    go_enter Try.func54, Try.ntmps54
    go_wp2_with (first | (go_at_call 43; (with_reducible refine (HC.out).mono ?_); rintro e w' ⟨rfl, hb⟩; have n_ := Aside0.mk (below_step HB.out hb); have n2_ := Aside0.mk (Kd.C_below HR1.out hb); clear HB HR1; have HB := n_; have HR1 := n2_; clear n_ n2_ hb) | (go_at_call 72; (with_reducible refine (slices_Clone_int_int.calls _ _ x1 x1 _ ?s0 ?s1 HCL.out).mono ?_); (case s0 => repeat (first | exact HR1.out | (with_reducible refine Kd.C_alloc ?_ _) | (with_reducible refine Kd.C_drewN ?_ _) | (with_reducible refine Kd.C_drew ?_))); (case s1 => exact HC1.out); rintro e w' ⟨v2, rfl, ho2, hb2⟩; have n0_ := Aside0.mk (Kd.R_lower ho2 (below_size (by repeat (first | (with_reducible first | exact HB.out | apply below_alloc | apply pw_below_drewN | apply below_drew1) | exact HB.out)))); have n1_ := Aside0.mk (below_step (by repeat (first | (with_reducible first | exact HB.out | apply below_alloc | apply pw_below_drewN | apply below_drew1) | exact HB.out)) hb2); clear HB; have HO2 := n0_; have HB := n1_; clear n0_ n1_ ho2 hb2))
    go_ret
    exact ⟨_, rfl, (by (with_reducible repeat (first | apply Kd.R_alloc | apply Kd.R_drewN | apply Kd.R_drew)); exact HO2.out), (by repeat (first | (with_reducible first | exact HB.out | apply below_alloc | apply pw_below_drewN | apply below_drew1) | exact HB.out))⟩
end Go.Proofs.Ytookabfmbimnoaa.Lk
