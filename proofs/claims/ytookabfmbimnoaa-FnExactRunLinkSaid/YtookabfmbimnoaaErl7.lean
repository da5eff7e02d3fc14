/- What the walks of this claim need: printed by a program of this session (wip/pack.py) out of the session's texts and of the words that the kit's print.sh lays; under no condition beyond those in each theorem. Lean checks it. -/
import Derived.Test.YtookabfmbimnoaaErl6
import Derived.Laws.BitsAllLaws
import Derived.Laws.Bits128
namespace Go.Proofs.Ytookabfmbimnoaa.Lk
open Go.RowKit Go.Proofs.YtookabfmbimnoaaW.PrintWords Go.Proofs.YtookabfmbimnoaaW.PrintLast Go.Proofs.YtookabfmbimnoaaW.PrintMore
set_option linter.unusedVariables false
set_option linter.unusedSimpArgs false

theorem i64_and16 (n : Int) : Go.bits .and .i64 n 65535 = n % 65536 := by
  have h127 : (BitVec.ofInt 64 65535).toNat = 2 ^ 16 - 1 := by decide
  have key : (BitVec.ofInt 64 n &&& BitVec.ofInt 64 65535).toNat = (n % ((2 ^ 64 : Nat) : Int)).toNat % 2 ^ 16 := by
    rw [BitVec.toNat_and, BitVec.toNat_ofInt, h127, Nat.and_two_pow_sub_one_eq_mod]
  show IntKind.i64.wrap ((BitVec.ofInt 64 n &&& BitVec.ofInt 64 65535).toNat : Nat) = n % 65536
  rw [key, IntKind.wrap_i64]
  omega
theorem i64_xor16 (a b : Int) (h0 : 0 ≤ a) (h1 : a ≤ 65535) (h2 : 0 ≤ b) (h3 : b ≤ 65535) : 0 ≤ Go.bits .xor .i64 a b ∧ Go.bits .xor .i64 a b ≤ 65535 := by
  have key : (BitVec.ofInt 64 a ^^^ BitVec.ofInt 64 b).toNat < 2 ^ 16 := by
    rw [BitVec.toNat_xor, BitVec.toNat_ofInt, BitVec.toNat_ofInt]
    exact Nat.xor_lt_two_pow (by omega) (by omega)
  show 0 ≤ IntKind.i64.wrap ((BitVec.ofInt 64 a ^^^ BitVec.ofInt 64 b).toNat : Nat) ∧ IntKind.i64.wrap ((BitVec.ofInt 64 a ^^^ BitVec.ofInt 64 b).toNat : Nat) ≤ 65535
  rw [IntKind.wrap_i64]
  omega
def byteOk (x : Int) : Prop := 0 ≤ x ∧ x ≤ 255
theorem w64 (n : Int) (h : -9223372036854775808 ≤ n ∧ n ≤ 9223372036854775807) : wrap64 n = n := IntWalk.wrap64_in n h
theorem u8_flip (x : Int) (h0 : 0 ≤ x) (h1 : x < 128) : Go.bits .xor .u8 x 128 = x + 128 := by
  obtain ⟨n, rfl⟩ := Int.eq_ofNat_of_zero_le h0
  have h : ∀ m : Fin 128, Go.bits .xor .u8 ((m.val : Nat) : Int) 128 = ((m.val : Nat) : Int) + 128 := by decide
  exact h ⟨n, by omega⟩
def flip0 : List Int → List Int
  | [] => []
  | x :: r => Go.bits .xor .u8 x 128 :: r
theorem impl_two_join (c : Int) (h0 : 0 ≤ c) (h1 : c ≤ 65535) : impl_two (c / 256 % 256) (c % 256) = c := by
  unfold impl_two
  rw [w64 (c / 256 % 256) (by omega), w64 (c / 256 % 256 * 256) (by omega), w64 (c % 256) (by omega)]
  rw [bits_join .i64 16 (by decide) (fun n h0 h1 => by rw [IntKind.wrap_i64]; omega) 8 _ _ (by omega) (by omega) (by omega) (by omega) (by omega) (by omega)]
  omega
theorem spec_two_join (c : Int) (h0 : 0 ≤ c) (h1 : c ≤ 65535) : spec_two ((wrap64 (Int.tdiv c 256)) % 256) ((Int.tmod c 256) % 256) = c := by
  unfold spec_two
  have e1 : Int.tdiv c 256 = c / 256 := Int.tdiv_eq_ediv_of_nonneg h0
  have e2 : Int.tmod c 256 = c % 256 := Int.tmod_eq_emod_of_nonneg h0
  rw [e1, e2, w64 (c / 256) (by omega), w64 (c / 256 % 256) (by omega), w64 (c / 256 % 256 * 256) (by omega), w64 (c % 256 % 256) (by omega), w64 _ (by omega)]
  omega

theorem impl_step0 : ∀ (m : Nat), m ≤ 8 → ∀ (k : Nat) (x : Int), m + 1 ≤ k → 0 ≤ x → x ≤ 65535 → ∃ c, impl_CrcStep.l0 k x (8 - m) = some c ∧ 0 ≤ c ∧ c ≤ 65535
  | 0, _, 0, x, hk, _, _ => by omega
  | 0, _, k + 1, x, hk, h0, h1 => ⟨x, by rw [impl_CrcStep.l0, if_neg (by omega)], h0, h1⟩
  | m + 1, _, 0, x, hk, _, _ => by omega
  | m + 1, hm, k + 1, x, hk, h0, h1 => by
    have e : wrap64 (8 - ((m + 1 : Nat) : Int) + 1) = 8 - (m : Int) := by rw [w64 _ (by omega)]; omega
    have e2 : wrap64 (x * 2) = x * 2 := w64 _ (by omega)
    rw [impl_CrcStep.l0, if_pos (by omega), e, e2]
    rw [i64_and16]
    split
    · have := i64_xor16 (x * 2 % 65536) 4129 (by omega) (by omega) (by omega) (by omega)
      exact impl_step0 m (by omega) k _ (by omega) this.1 this.2
    · exact impl_step0 m (by omega) k _ (by omega) (by omega) (by omega)
theorem impl_step (k : Nat) (hk : 10 ≤ k) (a b : Int) (h0 : 0 ≤ a) (h1 : a ≤ 65535) (hb : byteOk b) : ∃ c, impl_CrcStep.f k a b = some c ∧ 0 ≤ c ∧ c ≤ 65535 := by
  unfold byteOk at hb
  have e : impl_within.f a 0 65535 = some true := by rw [within_ok, decide_eq_true h0, decide_eq_true h1]; rfl
  unfold impl_CrcStep.f
  rw [e, Option.bind_some, if_pos rfl, w64 b (by omega), w64 (b * 256) (by omega)]
  have := i64_xor16 a (b * 256) h0 h1 (by omega) (by omega)
  exact impl_step0 8 (by omega) k _ (by omega) this.1 this.2
theorem impl_crc0 (l : List Int) (hl : l.length ≤ 600) (hb : ∀ x ∈ l, byteOk x) : ∀ (m : Nat), m ≤ l.length → ∀ (k : Nat) (x : Int), m + 11 ≤ k → 0 ≤ x → x ≤ 65535 → ∃ c, impl_CrcOf.l0 k x l (l.length : Int) ((l.length : Int) - m) = some c ∧ 0 ≤ c ∧ c ≤ 65535
  | m, hm, 0, x, hk, _, _ => by omega
  | 0, hm, k + 1, x, hk, h0, h1 => ⟨x, by rw [impl_CrcOf.l0, if_neg (by omega)], h0, h1⟩
  | m + 1, hm, k + 1, x, hk, h0, h1 => by
    have e : wrap64 ((l.length : Int) - ((m + 1 : Nat) : Int) + 1) = (l.length : Int) - (m : Int) := by rw [w64 _ (by omega)]; omega
    have hi : ((l.length : Int) - ((m + 1 : Nat) : Int)).toNat < l.length := by omega
    obtain ⟨c, hc, hc0, hc1⟩ := impl_step k (by omega) x (rd l ((l.length : Int) - ((m + 1 : Nat) : Int))) h0 h1 (by
      have : rd l ((l.length : Int) - ((m + 1 : Nat) : Int)) = l[((l.length : Int) - ((m + 1 : Nat) : Int)).toNat] := by
        show l.getD _ 0 = _
        rw [List.getD_eq_getElem?_getD, List.getElem?_eq_getElem hi]
        rfl
      rw [this]
      exact hb _ (List.getElem_mem hi))
    rw [impl_CrcOf.l0, if_pos (by omega), if_pos (by omega), if_pos (by omega), hc, Option.bind_some, e]
    exact impl_crc0 l hl hb m (by omega) k c (by omega) hc0 hc1
theorem impl_crc (l : List Int) (hl : l.length ≤ 600) (hb : ∀ x ∈ l, byteOk x) : ∃ c, impl_CrcOf.f 700 l = some c ∧ 0 ≤ c ∧ c ≤ 65535 := by
  have := impl_crc0 l hl hb l.length (Nat.le_refl _) 700 65535 (by omega) (by omega) (by omega)
  rw [Int.sub_self] at this
  unfold impl_CrcOf.f impl_isData.f
  rw [Option.bind_some, decide_eq_true (by omega), if_pos rfl]
  exact this
def impl_crcv (l : List Int) : Int := (impl_CrcOf.f 700 l).getD 0
theorem impl_crcv_ok (l : List Int) (hl : l.length ≤ 600) (hb : ∀ x ∈ l, byteOk x) : impl_CrcOf.f 700 l = some (impl_crcv l) ∧ 0 ≤ impl_crcv l ∧ impl_crcv l ≤ 65535 := by
  obtain ⟨c, hc, h0, h1⟩ := impl_crc l hl hb
  unfold impl_crcv
  rw [hc]
  exact ⟨rfl, h0, h1⟩
/-- The packet with the kind, the number and the data. -/
def impl_packv (kind seq : Int) (b : List Int) : List Int := ((16 * kind + seq) :: b) ++ [(fun c => c / 256 % 256) (impl_crcv ((16 * kind + seq) :: b)), (fun c => c % 256) (impl_crcv ((16 * kind + seq) :: b))]
theorem impl_packv_length (kind seq : Int) (b : List Int) : (impl_packv kind seq b).length = b.length + 3 := by simp [impl_packv]
theorem impl_pack (kind seq : Int) (b : List Int) (hk : kind = 1 ∨ (kind = 2 ∧ b = [])) (h0 : 0 ≤ seq) (h1 : seq ≤ 15) (hl : b.length ≤ 597) (hb : ∀ x ∈ b, byteOk x) : impl_PackLink.f 700 kind seq b = some (impl_packv kind seq b, true) := by
  have hw : (wrap64 ((wrap64 (16 * kind)) + seq)) % 256 = 16 * kind + seq := by
    rw [w64 (16 * kind) (by omega), w64 _ (by omega)]
    omega
  have hbo : ∀ x ∈ ((16 * kind + seq) :: b), byteOk x := by
    intro x hx
    rcases List.mem_cons.1 hx with rfl | hx
    · exact ⟨by omega, by omega⟩
    · exact hb x hx
  obtain ⟨hc, _, _⟩ := impl_crcv_ok ((16 * kind + seq) :: b) (by simp; omega) hbo
  have hadd : impl_AddCrc.f 700 ((16 * kind + seq) :: b) = some (impl_packv kind seq b, true) := by
    unfold impl_AddCrc.f impl_packv
    rw [if_neg (by rw [w64 _ (by simp; omega)]; simp; omega), hc]
    simp only [Option.bind_some, List.nil_append, List.length_nil, Nat.zero_add]
    rw [if_pos (by simp; omega), if_pos (by simp; omega)]
  have e1 : impl_within.f kind 1 2 = some true := by rw [within_ok, decide_eq_true (by omega), decide_eq_true (by omega)]; rfl
  have e2 : impl_within.f seq 0 15 = some true := by rw [within_ok, decide_eq_true (by omega), decide_eq_true (by omega)]; rfl
  unfold impl_PackLink.f
  rw [e1, Option.bind_some, if_pos rfl, e2, Option.bind_some, if_pos rfl, hw]
  rcases hk with rfl | ⟨rfl, rfl⟩
  · rw [if_neg (by omega), Option.bind_some, if_pos (by simp; omega)]
    simp only [List.cons_append, List.nil_append]
    rw [hadd]
    rfl
  · rw [if_pos rfl, if_neg (by simp), Option.bind_some, if_pos (by simp)]
    simp only [List.cons_append, List.nil_append]
    rw [hadd]
    rfl
theorem impl_unpack (kind seq : Int) (b : List Int) (hk : kind = 1 ∨ (kind = 2 ∧ b = [])) (h0 : 0 ≤ seq) (h1 : seq ≤ 15) (hl : b.length ≤ 597) (hb : ∀ x ∈ b, byteOk x) : impl_UnpackLink.f 700 (impl_packv kind seq b) = some (kind, seq, b, true) := by
  have hbo : ∀ x ∈ ((16 * kind + seq) :: b), byteOk x := by
    intro x hx
    rcases List.mem_cons.1 hx with rfl | hx
    · exact ⟨by omega, by omega⟩
    · exact hb x hx
  obtain ⟨hc, hc0, hc1⟩ := impl_crcv_ok ((16 * kind + seq) :: b) (by simp; omega) hbo
  have hcut : impl_CutCrc.f 700 (impl_packv kind seq b) = some ((16 * kind + seq) :: b, true) := by
    unfold impl_CutCrc.f
    rw [impl_packv_length, if_pos (by omega), show b.length + 3 - 2 = ((16 * kind + seq) :: b).length by simp]
    have ht : (impl_packv kind seq b).take ((16 * kind + seq) :: b).length = (16 * kind + seq) :: b := by unfold impl_packv; exact List.take_left
    have hr : ∀ (xs : List Int) (u v : Int), rd (xs ++ [u, v]) ((xs.length : Nat) : Int) = u ∧ rd (xs ++ [u, v]) (((xs.length : Nat) : Int) + 1) = v := by
      intro xs u v
      refine ⟨?_, ?_⟩
      · simp [rd, List.getD]
      · rw [show ((xs.length : Nat) : Int) + 1 = ((xs.length + 1 : Nat) : Int) by omega]
        simp [rd, List.getD]
    rw [ht, hc, Option.bind_some]
    unfold impl_packv
    rw [(hr _ _ _).1, (hr _ _ _).2, impl_two_join _ hc0 hc1, if_pos rfl]
  unfold impl_UnpackLink.f
  rw [hcut, Option.bind_some, if_pos rfl]
  unfold unpk
  simp only
  have hd : (16 * kind + seq) / 16 = kind := by omega
  have hm : (16 * kind + seq) % 16 = seq := by omega
  rw [hd, hm, if_pos (by omega), if_pos ⟨by omega, by
    rintro ⟨h2, hne⟩
    rcases hk with rfl | ⟨_, rfl⟩
    · omega
    · exact hne rfl⟩]
theorem impl_unflip (kind seq : Int) (b : List Int) (hk : kind = 1 ∨ (kind = 2 ∧ b = [])) (h0 : 0 ≤ seq) (h1 : seq ≤ 15) (hl : b.length ≤ 597) (hb : ∀ x ∈ b, byteOk x) : impl_UnpackLink.f 700 (flip0 (impl_packv kind seq b)) = some (0, 0, [], false) := by
  have hf : flip0 (impl_packv kind seq b) = ((16 * kind + seq + 128) :: b) ++ [(fun c => c / 256 % 256) (impl_crcv ((16 * kind + seq) :: b)), (fun c => c % 256) (impl_crcv ((16 * kind + seq) :: b))] := by
    show Go.bits .xor .u8 (16 * kind + seq) 128 :: _ = _
    rw [u8_flip _ (by omega) (by omega)]
    rfl
  have hbo : ∀ x ∈ ((16 * kind + seq + 128) :: b), byteOk x := by
    intro x hx
    rcases List.mem_cons.1 hx with rfl | hx
    · exact ⟨by omega, by omega⟩
    · exact hb x hx
  rw [hf]
  generalize [(fun c => c / 256 % 256) (impl_crcv ((16 * kind + seq) :: b)), (fun c => c % 256) (impl_crcv ((16 * kind + seq) :: b))] = tl at hf ⊢
  have htl : tl.length = 2 := by
    have := congrArg List.length hf
    simp [flip0, impl_packv] at this
    omega
  obtain ⟨hc, hc0, hc1⟩ := impl_crcv_ok ((16 * kind + seq + 128) :: b) (by simp; omega) hbo
  unfold impl_UnpackLink.f impl_CutCrc.f
  have hlen : (((16 * kind + seq + 128) :: b) ++ tl).length = b.length + 3 := by simp [htl]
  rw [hlen, if_pos (by omega), show b.length + 3 - 2 = ((16 * kind + seq + 128) :: b).length by simp, List.take_left, hc, Option.bind_some]
  split
  · rw [Option.bind_some, if_pos rfl]
    unfold unpk
    simp only
    rw [if_pos (by omega), if_neg (by omega)]
  · rw [Option.bind_some, if_neg (by simp)]

theorem spec_step0 : ∀ (m : Nat), m ≤ 8 → ∀ (k : Nat) (x : Int), m + 1 ≤ k → 0 ≤ x → x ≤ 65535 → ∃ c, spec_CrcStep.l0 k x (8 - m) = some c ∧ 0 ≤ c ∧ c ≤ 65535
  | 0, _, 0, x, hk, _, _ => by omega
  | 0, _, k + 1, x, hk, h0, h1 => ⟨x, by rw [spec_CrcStep.l0, if_neg (by omega)], h0, h1⟩
  | m + 1, _, 0, x, hk, _, _ => by omega
  | m + 1, hm, k + 1, x, hk, h0, h1 => by
    have e : wrap64 (8 - ((m + 1 : Nat) : Int) + 1) = 8 - (m : Int) := by rw [w64 _ (by omega)]; omega
    have e2 : wrap64 (x * 2) = x * 2 := w64 _ (by omega)
    rw [spec_CrcStep.l0, if_pos (by omega), e, e2]
    rw [show Int.tmod (x * 2) 65536 = x * 2 % 65536 from Int.tmod_eq_emod_of_nonneg (by omega)]
    split
    · have := i64_xor16 (x * 2 % 65536) 4129 (by omega) (by omega) (by omega) (by omega)
      exact spec_step0 m (by omega) k _ (by omega) this.1 this.2
    · exact spec_step0 m (by omega) k _ (by omega) (by omega) (by omega)
theorem spec_step (k : Nat) (hk : 10 ≤ k) (a b : Int) (h0 : 0 ≤ a) (h1 : a ≤ 65535) (hb : byteOk b) : ∃ c, spec_CrcStep.f k a b = some c ∧ 0 ≤ c ∧ c ≤ 65535 := by
  unfold byteOk at hb
  have e : spec_l2Word.f a = some true := by unfold spec_l2Word.f spec_l1In.f; rw [if_pos (by omega), decide_eq_true h1]; rfl
  unfold spec_CrcStep.f
  rw [e, Option.bind_some, if_pos rfl, w64 b (by omega), w64 (b * 256) (by omega)]
  have := i64_xor16 a (b * 256) h0 h1 (by omega) (by omega)
  exact spec_step0 8 (by omega) k _ (by omega) this.1 this.2
theorem spec_crc0 (l : List Int) (hl : l.length ≤ 600) (hb : ∀ x ∈ l, byteOk x) : ∀ (m : Nat), m ≤ l.length → ∀ (k : Nat) (x : Int), m + 11 ≤ k → 0 ≤ x → x ≤ 65535 → ∃ c, spec_CrcOf.l0 k l x ((l.length : Int) - m) = some c ∧ 0 ≤ c ∧ c ≤ 65535
  | m, hm, 0, x, hk, _, _ => by omega
  | 0, hm, k + 1, x, hk, h0, h1 => ⟨x, by rw [spec_CrcOf.l0, if_neg (by omega)], h0, h1⟩
  | m + 1, hm, k + 1, x, hk, h0, h1 => by
    have e : wrap64 ((l.length : Int) - ((m + 1 : Nat) : Int) + 1) = (l.length : Int) - (m : Int) := by rw [w64 _ (by omega)]; omega
    have hi : ((l.length : Int) - ((m + 1 : Nat) : Int)).toNat < l.length := by omega
    obtain ⟨c, hc, hc0, hc1⟩ := spec_step k (by omega) x (rd l ((l.length : Int) - ((m + 1 : Nat) : Int))) h0 h1 (by
      have : rd l ((l.length : Int) - ((m + 1 : Nat) : Int)) = l[((l.length : Int) - ((m + 1 : Nat) : Int)).toNat] := by
        show l.getD _ 0 = _
        rw [List.getD_eq_getElem?_getD, List.getElem?_eq_getElem hi]
        rfl
      rw [this]
      exact hb _ (List.getElem_mem hi))
    rw [spec_CrcOf.l0, if_pos (by omega), if_pos (by omega), hc, Option.bind_some, e]
    exact spec_crc0 l hl hb m (by omega) k c (by omega) hc0 hc1
theorem spec_crc (l : List Int) (hl : l.length ≤ 600) (hb : ∀ x ∈ l, byteOk x) : ∃ c, spec_CrcOf.f 700 l = some c ∧ 0 ≤ c ∧ c ≤ 65535 := by
  have := spec_crc0 l hl hb l.length (Nat.le_refl _) 700 65535 (by omega) (by omega) (by omega)
  rw [Int.sub_self] at this
  unfold spec_CrcOf.f spec_l1Data.f
  rw [Option.bind_some, decide_eq_true (by omega), if_pos rfl]
  exact this
def spec_crcv (l : List Int) : Int := (spec_CrcOf.f 700 l).getD 0
theorem spec_crcv_ok (l : List Int) (hl : l.length ≤ 600) (hb : ∀ x ∈ l, byteOk x) : spec_CrcOf.f 700 l = some (spec_crcv l) ∧ 0 ≤ spec_crcv l ∧ spec_crcv l ≤ 65535 := by
  obtain ⟨c, hc, h0, h1⟩ := spec_crc l hl hb
  unfold spec_crcv
  rw [hc]
  exact ⟨rfl, h0, h1⟩
/-- The packet with the kind, the number and the data. -/
def spec_packv (kind seq : Int) (b : List Int) : List Int := ((16 * kind + seq) :: b) ++ [(fun c => (wrap64 (Int.tdiv c 256)) % 256) (spec_crcv ((16 * kind + seq) :: b)), (fun c => (Int.tmod c 256) % 256) (spec_crcv ((16 * kind + seq) :: b))]
theorem spec_packv_length (kind seq : Int) (b : List Int) : (spec_packv kind seq b).length = b.length + 3 := by simp [spec_packv]
theorem spec_pack (kind seq : Int) (b : List Int) (hk : kind = 1 ∨ (kind = 2 ∧ b = [])) (h0 : 0 ≤ seq) (h1 : seq ≤ 15) (hl : b.length ≤ 597) (hb : ∀ x ∈ b, byteOk x) : spec_PackLink.f 700 kind seq b = some (spec_packv kind seq b, true) := by
  have hw : (wrap64 ((wrap64 (16 * kind)) + seq)) % 256 = 16 * kind + seq := by
    rw [w64 (16 * kind) (by omega), w64 _ (by omega)]
    omega
  have hbo : ∀ x ∈ ((16 * kind + seq) :: b), byteOk x := by
    intro x hx
    rcases List.mem_cons.1 hx with rfl | hx
    · exact ⟨by omega, by omega⟩
    · exact hb x hx
  obtain ⟨hc, _, _⟩ := spec_crcv_ok ((16 * kind + seq) :: b) (by simp; omega) hbo
  have hadd : spec_AddCrc.f 700 ((16 * kind + seq) :: b) = some (spec_packv kind seq b, true) := by
    unfold spec_AddCrc.f spec_packv
    rw [if_neg (by rw [w64 _ (by simp; omega)]; simp; omega), hc]
    simp only [Option.bind_some, List.nil_append, List.length_nil, Nat.zero_add]
    rw [if_pos (by simp; omega), if_pos (by simp; omega)]
  have e1 : spec_l1In.f kind 1 2 = some true := by unfold spec_l1In.f; rw [if_pos (by omega), decide_eq_true (by omega)]
  have e2 : spec_l1In.f seq 0 15 = some true := by unfold spec_l1In.f; rw [if_pos (by omega), decide_eq_true (by omega)]
  unfold spec_PackLink.f
  rw [e1, Option.bind_some, if_pos rfl, e2, Option.bind_some, if_pos rfl, hw]
  rcases hk with rfl | ⟨rfl, rfl⟩
  · rw [if_neg (by omega), Option.bind_some, if_pos (by simp; omega)]
    simp only [List.cons_append, List.nil_append]
    rw [hadd]
    rfl
  · rw [if_pos rfl, if_neg (by simp), Option.bind_some, if_pos (by simp)]
    simp only [List.cons_append, List.nil_append]
    rw [hadd]
    rfl
theorem spec_unpack (kind seq : Int) (b : List Int) (hk : kind = 1 ∨ (kind = 2 ∧ b = [])) (h0 : 0 ≤ seq) (h1 : seq ≤ 15) (hl : b.length ≤ 597) (hb : ∀ x ∈ b, byteOk x) : spec_UnpackLink.f 700 (spec_packv kind seq b) = some (kind, seq, b, true) := by
  have hbo : ∀ x ∈ ((16 * kind + seq) :: b), byteOk x := by
    intro x hx
    rcases List.mem_cons.1 hx with rfl | hx
    · exact ⟨by omega, by omega⟩
    · exact hb x hx
  obtain ⟨hc, hc0, hc1⟩ := spec_crcv_ok ((16 * kind + seq) :: b) (by simp; omega) hbo
  have hcut : spec_CutCrc.f 700 (spec_packv kind seq b) = some ((16 * kind + seq) :: b, true) := by
    unfold spec_CutCrc.f
    rw [spec_packv_length, if_pos (by omega), show b.length + 3 - 2 = ((16 * kind + seq) :: b).length by simp]
    have ht : (spec_packv kind seq b).take ((16 * kind + seq) :: b).length = (16 * kind + seq) :: b := by unfold spec_packv; exact List.take_left
    have hr : ∀ (xs : List Int) (u v : Int), rd (xs ++ [u, v]) ((xs.length : Nat) : Int) = u ∧ rd (xs ++ [u, v]) (((xs.length : Nat) : Int) + 1) = v := by
      intro xs u v
      refine ⟨?_, ?_⟩
      · simp [rd, List.getD]
      · rw [show ((xs.length : Nat) : Int) + 1 = ((xs.length + 1 : Nat) : Int) by omega]
        simp [rd, List.getD]
    rw [ht, hc, Option.bind_some]
    unfold spec_packv
    rw [(hr _ _ _).1, (hr _ _ _).2, spec_two_join _ hc0 hc1, if_pos rfl]
  unfold spec_UnpackLink.f
  rw [hcut, Option.bind_some, if_pos rfl]
  unfold unpk
  simp only
  have hd : (16 * kind + seq) / 16 = kind := by omega
  have hm : (16 * kind + seq) % 16 = seq := by omega
  rw [hd, hm, if_pos (by omega), if_pos ⟨by omega, by
    rintro ⟨h2, hne⟩
    rcases hk with rfl | ⟨_, rfl⟩
    · omega
    · exact hne rfl⟩]
theorem spec_unflip (kind seq : Int) (b : List Int) (hk : kind = 1 ∨ (kind = 2 ∧ b = [])) (h0 : 0 ≤ seq) (h1 : seq ≤ 15) (hl : b.length ≤ 597) (hb : ∀ x ∈ b, byteOk x) : spec_UnpackLink.f 700 (flip0 (spec_packv kind seq b)) = some (0, 0, [], false) := by
  have hf : flip0 (spec_packv kind seq b) = ((16 * kind + seq + 128) :: b) ++ [(fun c => (wrap64 (Int.tdiv c 256)) % 256) (spec_crcv ((16 * kind + seq) :: b)), (fun c => (Int.tmod c 256) % 256) (spec_crcv ((16 * kind + seq) :: b))] := by
    show Go.bits .xor .u8 (16 * kind + seq) 128 :: _ = _
    rw [u8_flip _ (by omega) (by omega)]
    rfl
  have hbo : ∀ x ∈ ((16 * kind + seq + 128) :: b), byteOk x := by
    intro x hx
    rcases List.mem_cons.1 hx with rfl | hx
    · exact ⟨by omega, by omega⟩
    · exact hb x hx
  rw [hf]
  generalize [(fun c => (wrap64 (Int.tdiv c 256)) % 256) (spec_crcv ((16 * kind + seq) :: b)), (fun c => (Int.tmod c 256) % 256) (spec_crcv ((16 * kind + seq) :: b))] = tl at hf ⊢
  have htl : tl.length = 2 := by
    have := congrArg List.length hf
    simp [flip0, spec_packv] at this
    omega
  obtain ⟨hc, hc0, hc1⟩ := spec_crcv_ok ((16 * kind + seq + 128) :: b) (by simp; omega) hbo
  unfold spec_UnpackLink.f spec_CutCrc.f
  have hlen : (((16 * kind + seq + 128) :: b) ++ tl).length = b.length + 3 := by simp [htl]
  rw [hlen, if_pos (by omega), show b.length + 3 - 2 = ((16 * kind + seq + 128) :: b).length by simp, List.take_left, hc, Option.bind_some]
  split
  · rw [Option.bind_some, if_pos rfl]
    unfold unpk
    simp only
    rw [if_pos (by omega), if_neg (by omega)]
  · rw [Option.bind_some, if_neg (by simp)]
end Go.Proofs.Ytookabfmbimnoaa.Lk

namespace Go.Proofs.Ytookabfmbimnoaa.Lk
open Go.RowKit Go.Proofs.YtookabfmbimnoaaW.PrintWords Go.Proofs.YtookabfmbimnoaaW.PrintLast Go.Proofs.YtookabfmbimnoaaW.PrintMore
set_option linter.unusedVariables false
set_option linter.unusedSimpArgs false

theorem flip0_set (b : List Int) : b.set 0 (Go.bits .xor .u8 (rd b 0) 128) = flip0 b := by
  cases b with
  | nil => rfl
  | cons x r => rfl
/-- What arrives of message i. -/
def passOf (l0 : List Int) (l1 : List (List Int)) (i : Int) : List Int := if fateN l0 i.toNat = 4 then flip0 (rd_L2 l1 i) else rd_L2 l1 i
set_option maxHeartbeats 8000000 in
set_option maxRecDepth 100000 in
theorem closure70 (gl gf : Nat) (A0 : Option Addr) (c0 : Nat) (l0 : List Int) (A1 : Option Addr) (c1 : Nat) (l1 : List (List Int)) (i : Int) (w : World) (hr0 : Kd.C (Kd.int .i64) w A0 l0.length l0) (hc0 : l0.length ≤ c0) (hr1 : Kd.C (Kd.slice 5 (Kd.int .u8)) w A1 l1.length l1)
    (hxl : w.cell? ⟨gl, 0, none⟩ = some (.slice A1 l1.length c1)) (hxf : w.cell? ⟨gf, 0, none⟩ = some (.slice A0 l0.length c0)) (h0 : 0 ≤ i) (h1 : i < l1.length) (hb : (rd_L2 l1 i).length ≤ 1000000) :
    Calls Try.prog 70 #[.int .i64 i, .pointer (some ⟨gl, 0, none⟩), .pointer (some ⟨gf, 0, none⟩)] w fun e w' => ∃ v0_ : Value, e = .returned v0_ ∧ Kd.R (Kd.int .u8) 5 w' w.heap.size (fun _ => True) v0_ (passOf l0 l1 i) ∧ Below w.heap.size w w' := by
  obtain ⟨ad, A, c, hA, hx, hcap, hrr⟩ := at_L2 hr1 i h0 h1
  subst hA
  have HR0 := Aside0.mk hr0
  have HC0 := Aside0.mk hc0
  have HR1 := Aside0.mk hrr
  have HC1 := Aside0.mk hcap
  have HF := Aside0.mk (show impl_fate.f l0 i = some (fateN l0 i.toNat) by have := fate_fateN l0 i.toNat; rwa [Int.toNat_of_nonneg h0] at this)
  have d0 := eq_true h0
  have d1 := eq_true h1
  have HCL := Aside0.mk (show bytes_Clone.f (rd_L2 l1 i) = some (rd_L2 l1 i) from if_pos hb)
  have hbig : ((rd_L2 l1 i).length : Int) ≤ 1000000 := by omega
  have HP := Aside0.mk (show passOf l0 l1 i = if fateN l0 i.toNat = 4 then flip0 (rd_L2 l1 i) else rd_L2 l1 i from rfl)
  generalize passOf l0 l1 i = res at HP ⊢
  generalize fateN l0 i.toNat = f at HF HP
  generalize rd_L2 l1 i = b at HR1 HC1 HCL HP hx hbig
  have hfl : (⟨gf, 0, none⟩ : Addr).block < w.heap.size := World.block_lt_of_cell? w _ hxf
  have HXF := Aside0.mk hxf
  have HFL := Aside0.mk hfl
  clear hr0 hc0 hr1 hrr hcap hb hxf hfl h0 h1
  have HB := Aside0.mk (Below.refl w.heap.size w)
  by_cases f4 : f = 4
  · subst f4
    rw [if_pos rfl] at HP
    by_cases hbl : b = []
    · have HBN := Aside0.mk hbl
      have e1 : decide ((b.length : Int) > 0) = false := decide_eq_false (by rw [hbl]; simp)
      have e2 : decide (0 < b.length) = false := decide_eq_false (by rw [hbl]; simp)
      have e3 : decide ((0 : Int) < b.length) = false := decide_eq_false (by rw [hbl]; simp)
      clear hbl
      go_enter Try.func70, Try.ntmps70
      go_wp2_with (first
      | (go_at_call 56; (with_reducible refine (bytes_Clone.calls _ _ _ _ _ ?s0 HC1.out HCL.out).mono ?_); (case s0 => repeat (first | exact HR1.out | (with_reducible refine Kd.C_alloc ?_ _) | (with_reducible refine Kd.C_drewN ?_ _) | (with_reducible refine Kd.C_drew ?_))); rintro e w' ⟨v2, rfl, ho, hb⟩; have n0_ := Aside0.mk (ho); have n1_ := Aside0.mk hb; have hxf2 := (hb.cell HFL.out).trans HXF.out; clear HB; have HO := n0_; have HB := n1_; clear n0_ n1_ ho hb; (try rw [List.length_nil] at HO); obtain ⟨Ao, co, eo⟩ := Kd.R_slice HO.out; subst eo)
      | (go_at_call 71; (with_reducible refine (impl_fate.calls _ _ l0 i _ _ ?s0 HC0.out HF.out).mono ?_); (case s0 => repeat (first | exact (Kd.C_below HR0.out HB.out) | (with_reducible refine Kd.C_alloc ?_ _) | (with_reducible refine Kd.C_drewN ?_ _) | (with_reducible refine Kd.C_drew ?_))); rintro e w' ⟨rfl, ⟨nd, rfl⟩⟩))
      go_ret
      exact ⟨_, rfl, by rw [HP.out, show flip0 b = b by rw [HBN.out]; rfl]; exact (by (with_reducible repeat (first | apply Kd.R_alloc | apply Kd.R_drewN | apply Kd.R_drew)); exact HO.out), (by repeat (first | (with_reducible first | exact HB.out | apply below_alloc | apply pw_below_drewN | apply below_drew1) | exact HB.out))⟩
    · have hpos : 0 < b.length := List.length_pos_iff.2 hbl
      have e1 : decide ((b.length : Int) > 0) = true := decide_eq_true (by omega)
      have e2 : decide (0 < b.length) = true := decide_eq_true (by omega)
      have e3 : decide ((0 : Int) < b.length) = true := decide_eq_true (by omega)
      go_enter Try.func70, Try.ntmps70
      have HPOS := Aside0.mk hpos
      have e4 := eq_true hpos
      have e5 : ((0 : Int) < b.length) = True := eq_true (by omega)
      clear hpos hbl
      go_wp2_with (first
      | (go_at_call 56; (with_reducible refine (bytes_Clone.calls _ _ _ _ _ ?s0 HC1.out HCL.out).mono ?_); (case s0 => repeat (first | exact HR1.out | (with_reducible refine Kd.C_alloc ?_ _) | (with_reducible refine Kd.C_drewN ?_ _) | (with_reducible refine Kd.C_drew ?_))); rintro e w' ⟨v2, rfl, ho, hb⟩; have n0_ := Aside0.mk (ho); have n1_ := Aside0.mk hb; have hxf2 := (hb.cell HFL.out).trans HXF.out; clear HB; have HO := n0_; have HB := n1_; clear n0_ n1_ ho hb; (try rw [List.length_nil] at HO); obtain ⟨Ao, co, eo⟩ := Kd.R_slice HO.out; subst eo; obtain ⟨g2, c2, eo2, gb, _, _, _⟩ := Kd.R_form HO.out (by have := HPOS.out; omega); cases eo2; have GB := Aside0.mk gb; clear gb; obtain ⟨hx2, hf2⟩ := Kd.R_celln 0 HO.out 0 (by omega) (by have := HPOS.out; omega); have hx3 : w'.cell? ⟨g2, 0, none⟩ = some (.int .u8 (rd b 0)) := hx2; have hf3 : w'.frozen? ⟨g2, 0, none⟩ = false := hf2; clear hx2 hf2; have HQ := Aside0.mk (Kd.R_putn HO.out 0 (Go.bits .xor .u8 (rd b 0) 128)))
      | (go_at_call 71; (with_reducible refine (impl_fate.calls _ _ l0 i _ _ ?s0 HC0.out HF.out).mono ?_); (case s0 => repeat (first | exact (Kd.C_below HR0.out HB.out) | (with_reducible refine Kd.C_alloc ?_ _) | (with_reducible refine Kd.C_drewN ?_ _) | (with_reducible refine Kd.C_drew ?_))); rintro e w' ⟨rfl, ⟨nd, rfl⟩⟩))
      go_ret
      exact ⟨_, rfl, by rw [HP.out, ← flip0_set]; exact HQ.out, (by repeat (first | (with_reducible first | exact HB.out | apply below_alloc | apply pw_below_drewN | apply below_drew1 | refine below_set ?_ GB.out) | exact HB.out))⟩
  · rw [if_neg f4] at HP
    have f4b : (f == 4) = false := beq_eq_false_iff_ne.mpr f4
    go_enter Try.func70, Try.ntmps70
    go_wp2_with (first
      | (go_at_call 56; (with_reducible refine (bytes_Clone.calls _ _ _ _ _ ?s0 HC1.out HCL.out).mono ?_); (case s0 => repeat (first | exact HR1.out | (with_reducible refine Kd.C_alloc ?_ _) | (with_reducible refine Kd.C_drewN ?_ _) | (with_reducible refine Kd.C_drew ?_))); rintro e w' ⟨v2, rfl, ho, hb⟩; have n0_ := Aside0.mk (ho); have n1_ := Aside0.mk hb; have hxf2 := (hb.cell HFL.out).trans HXF.out; clear HB; have HO := n0_; have HB := n1_; clear n0_ n1_ ho hb; (try rw [List.length_nil] at HO); obtain ⟨Ao, co, eo⟩ := Kd.R_slice HO.out; subst eo)
      | (go_at_call 71; (with_reducible refine (impl_fate.calls _ _ l0 i _ _ ?s0 HC0.out HF.out).mono ?_); (case s0 => repeat (first | exact (Kd.C_below HR0.out HB.out) | (with_reducible refine Kd.C_alloc ?_ _) | (with_reducible refine Kd.C_drewN ?_ _) | (with_reducible refine Kd.C_drew ?_))); rintro e w' ⟨rfl, ⟨nd, rfl⟩⟩))
    go_ret
    exact ⟨_, rfl, by rw [HP.out]; exact (by (with_reducible repeat (first | apply Kd.R_alloc | apply Kd.R_drewN | apply Kd.R_drew)); exact HO.out), (by repeat (first | (with_reducible first | exact HB.out | apply below_alloc | apply pw_below_drewN | apply below_drew1) | exact HB.out))⟩
end Go.Proofs.Ytookabfmbimnoaa.Lk

namespace Go.Proofs.Ytookabfmbimnoaa.Lk
open Go.RowKit Go.Proofs.YtookabfmbimnoaaW.PrintWords Go.Proofs.YtookabfmbimnoaaW.PrintLast Go.Proofs.YtookabfmbimnoaaW.PrintMore
set_option linter.unusedVariables false
set_option linter.unusedSimpArgs false

set_option maxHeartbeats 8000000 in
set_option maxRecDepth 100000 in
theorem mapped68 (gl gf : Nat) (A0 : Option Addr) (c0 : Nat) (l0 : List Int) (A1 : Option Addr) (c1 : Nat) (l1 : List (List Int)) (A2 : Option Addr) (c2 : Nat) (l2 : List Int) (w : World) (hr0 : Kd.C (Kd.int .i64) w A0 l0.length l0) (hc0 : l0.length ≤ c0) (hr1 : Kd.C (Kd.slice 5 (Kd.int .u8)) w A1 l1.length l1)
    (hr2 : Kd.C (Kd.int .i64) w A2 l2.length l2) (hc2 : l2.length ≤ c2)
    (hxl : w.cell? ⟨gl, 0, none⟩ = some (.slice A1 l1.length c1)) (hxf : w.cell? ⟨gf, 0, none⟩ = some (.slice A0 l0.length c0)) (hi : ∀ i ∈ l2, 0 ≤ i ∧ i < l1.length) (hb : ∀ i, (rd_L2 l1 i).length ≤ 1000000) (hl : l2.length ≤ 1000) :
    Calls Try.prog 68 #[.slice A2 l2.length c2, .func (.func 70) #[] #[.pointer (some ⟨gl, 0, none⟩), .pointer (some ⟨gf, 0, none⟩)]] w fun e w' => ∃ v0_ : Value, e = .returned v0_ ∧ Kd.R (Kd.slice 5 (Kd.int .u8)) 22 w' w.heap.size (fun _ => True) v0_ (l2.map (passOf l0 l1)) ∧ Below w.heap.size w w' := by
  have HR0 := Aside0.mk hr0
  have HR1 := Aside0.mk hr1
  have HR2 := Aside0.mk hr2
  have HC0 := Aside0.mk hc0
  have HXL := Aside0.mk hxl
  have HXF := Aside0.mk hxf
  have HI := Aside0.mk hi
  have HBB := Aside0.mk hb
  have HL := Aside0.mk hl
  clear hr0 hr1 hr2 hc0 hxl hxf hi hb hl
  have HB := Aside0.mk (Below.refl w.heap.size w)
  go_enter Try.func68, Try.ntmps68
  go_wp2_with fail
  go_loopg [5, 10] l2.length (fun kq v5 v10 w' => ∃ j : Nat, v10 = .int .i64 (j : Int) ∧ Aside0 (j + kq = l2.length) ∧ Aside0 (Kd.R (Kd.slice 5 (Kd.int .u8)) 22 w' w.heap.size (fun _ => True) v5 ((l2.take j).map (passOf l0 l1))) ∧ Aside0 (Below w.heap.size w w'))
  case atStart => exact ⟨0, rfl, ⟨by simp⟩, ⟨Kd.R_nil _ _ _ _ _⟩, ⟨HB.out⟩⟩
  case round =>
    clear HB
    obtain ⟨j, rfl, HJ, HO, HB⟩ := hrel
    cases gk with
    | zero =>
      have hj : j = l2.length := by have := HJ.out; omega
      subst hj
      have c1 : decide ((l2.length : Int) < l2.length) = false := decide_eq_false (by omega)
      rw [List.take_length] at HO
      go_wp2
      go_ret
      exact ⟨_, rfl, (by (with_reducible repeat (first | apply Kd.R_alloc | apply Kd.R_drewN | apply Kd.R_drew)); exact HO.out), (by repeat (first | (with_reducible first | exact HB.out | apply below_alloc | apply pw_below_drewN | apply below_drew1) | exact HB.out))⟩
    | succ k1 =>
      have hj : j < l2.length := by have := HJ.out; omega
      have c1 : decide ((j : Int) < l2.length) = true := decide_eq_true (by omega)
      have c2 : ((0 : Int) ≤ (j : Int)) = True := eq_true (by omega)
      have c3 : ((j : Int) < l2.length) = True := eq_true (by omega)
      obtain ⟨ad, hA, hx⟩ := Kd.at_int (Kd.C_below HR2.out HB.out) (j : Int) (by omega) (by omega)
      subst hA
      rw [show (j : Int).toNat = j from rfl] at hx
      have HT := Aside0.mk (show l2.take (j + 1) = l2.take j ++ [rd l2 j] by rw [List.take_succ_eq_append_getElem hj]; simp [rd, List.getD, hj])
      have HM := Aside0.mk (HI.out (rd l2 j) (by have : rd l2 j = l2[j] := by { simp [rd, List.getD, hj] }; rw [this]; exact List.getElem_mem hj))
      generalize rd l2 j = i at HT HM hx
      have HX := Aside0.mk (show ((l2.take j).map (passOf l0 l1)).length ≤ 1000 by rw [List.length_map, List.length_take]; have := HL.out; omega)
      have hw1 : wrap64 ((j : Int) + 1) = ((j + 1 : Nat) : Int) := by rw [IntWalk.wrap64_in _ (by have := HL.out; omega)]; simp
      have HCL := Aside0.mk (closure70 gl gf A0 c0 l0 A1 _ l1 i wr (Kd.C_below HR0.out HB.out) HC0.out (Kd.C_below HR1.out HB.out) ((HB.out.cell (World.block_lt_of_cell? w _ HXL.out)).trans HXL.out) ((HB.out.cell (World.block_lt_of_cell? w _ HXF.out)).trans HXF.out) HM.out.1 HM.out.2 (HBB.out i))
      go_wp2_with (first
      | ((with_reducible refine HCL.out.mono ?_); rintro e w' ⟨ve, rfl, he, hb⟩; obtain ⟨_, hown⟩ := Kd.R_own HO.out; have n2_ := Aside0.mk (Kd.R_lower (Kd.R_mono (ok' := fun k_ => some k_ ≠ (u5 : Value).ownBlock) (Kd.R_new he hown) (fun _ hk => hk.2)) (below_size HB.out)); clear hown; have n0_ := Aside0.mk (Kd.R_below HO.out hb); have n1_ := Aside0.mk (below_step HB.out hb); clear HO HB HCL; have HO := n0_; have HB := n1_; have HE := n2_; clear n0_ n1_ n2_ hb he; obtain ⟨Ae, ce, ee⟩ := Kd.R_slice HE.out; subst ee)
      | ((with_reducible refine gate_builtin (b := .append) (xs := #[.tmp 14, .tmp 18]) rfl ?_); at_builtin; refine Kd.R_append (Kd.slice 5 (Kd.int .u8)) (w0 := w) w.heap.size rfl (.tmp 14) (.tmp 18) 23 22 (.slice none 0 0) 24 rfl Try.underlying23 info22 rfl (by decide) (by omega) u5 ((l2.take j).map (passOf l0 l1)) (passOf l0 l1 i) [(.slice Ae (passOf l0 l1 i).length ce)] (fun _ => True) (fun k_ => some k_ ≠ (u5 : Value).ownBlock) rfl (by first | rfl | (show Value.slice _ 1 1 = _; simp)) ?aP (fun _ hk => ⟨trivial, hk⟩) ?aF ?aO ?aB ?aS ?aL ?_; (case aP => exact Kd.M_row HE.out); (case aB => exact (by repeat (first | (with_reducible first | exact HB.out | apply below_alloc | apply pw_below_drewN | apply below_drew1) | exact HB.out))); (case aF => exact (fun _ _ => trivial)); (case aO => exact (by (with_reducible repeat (first | apply Kd.R_alloc | apply Kd.R_drewN | apply Kd.R_drew)); exact HO.out)); (case aS => exact (below_size (by repeat (first | (with_reducible first | exact HB.out | apply below_alloc | apply pw_below_drewN | apply below_drew1) | exact HB.out)))); (case aL => have := HX.out; first | omega | (simp; omega) | (simp at *; omega)); intro v2 w8 ho hb hg hat; have n0_ := Aside0.mk (hb); have n1_ := Aside0.mk (ho); clear HB; clear HO; have HB := n0_; have HO2 := n1_; clear n0_ n1_; clear ho hb hg hat))
      go_roundg k1
      case measure => omega
      case rel => exact ⟨j + 1, by rw [hw1], ⟨by have := HJ.out; omega⟩, ⟨by rw [HT.out, List.map_append]; exact HO2.out⟩, ⟨(by repeat (first | (with_reducible first | exact HB.out | apply below_alloc | apply pw_below_drewN | apply below_drew1) | exact HB.out))⟩⟩
end Go.Proofs.Ytookabfmbimnoaa.Lk

namespace Go.Proofs.Ytookabfmbimnoaa.Lk
open Go.RowKit Go.Proofs.YtookabfmbimnoaaW.PrintWords Go.Proofs.YtookabfmbimnoaaW.PrintLast Go.Proofs.YtookabfmbimnoaaW.PrintMore
set_option linter.unusedVariables false
set_option linter.unusedSimpArgs false

theorem arrOf_snd (f : Int) (i : Nat) : ∀ x ∈ arrOf f i, x.2 = i := by
  unfold arrOf
  repeat' split
  all_goals simp
theorem arrList_mem (l : List Int) (n : Nat) : ∀ x ∈ arrList l n, 0 ≤ x.2 ∧ x.2 < n := by
  intro x hx
  simp only [arrList, List.mem_flatMap, List.mem_range] at hx
  obtain ⟨i, hi, hx⟩ := hx
  have := arrOf_snd _ i x hx
  omega
theorem arrivals_mem (l : List Int) (n : Nat) : ∀ i ∈ arrivals l n, 0 ≤ i ∧ i < n := by
  intro i hi
  simp only [arrivals, List.mem_map] at hi
  obtain ⟨x, hx, rfl⟩ := hi
  rw [sortA_merge] at hx
  exact arrList_mem l n x ((List.mergeSort_perm _ _).mem_iff.1 hx)
theorem arrivals_length (l : List Int) (n : Nat) : (arrivals l n).length ≤ 2 * n := by
  rw [arrivals, List.length_map, sortA_length]
  exact arrList_length l n
def passWire (l0 : List Int) (l1 : List (List Int)) : List (List Int) := (arrivals l0 l1.length).map (passOf l0 l1)
theorem rd_L2_le {l1 : List (List Int)} {m : Nat} (h : ∀ b ∈ l1, b.length ≤ m) (i : Int) : (rd_L2 l1 i).length ≤ m := by
  unfold rd_L2
  by_cases hi : i.toNat < l1.length
  · have e : l1.getD i.toNat [] = l1[i.toNat] := by simp [List.getD, hi]
    first | (rw [e]; exact h _ (List.getElem_mem hi)) | (simp [rdOf, List.getD, hi]; exact h _ (List.getElem_mem hi))
  · first | (rw [List.getD_eq_default _ _ (by omega)]; exact Nat.zero_le _) | (simp [rdOf, List.getD, hi])
set_option maxHeartbeats 8000000 in
set_option maxRecDepth 100000 in
theorem PassWire_ok (A0 : Option Addr) (c0 : Nat) (l0 : List Int) (A1 : Option Addr) (c1 : Nat) (l1 : List (List Int)) (w : World) (hr0 : Kd.C (Kd.int .i64) w A0 l0.length l0) (hc0 : l0.length ≤ c0) (hr1 : Kd.C (Kd.slice 5 (Kd.int .u8)) w A1 l1.length l1) (hc1 : l1.length ≤ c1)
    (hf : fatesOk l0 = true) (hn : l1.length ≤ 9) (hd : ∀ b ∈ l1, b.length ≤ 600) :
    Calls Try.prog 53 #[.slice A0 l0.length c0, .slice A1 l1.length c1] w fun e w' => ∃ v0_ : Value, e = .returned v0_ ∧ Kd.R (Kd.slice 5 (Kd.int .u8)) 22 w' w.heap.size (fun _ => True) v0_ (passWire l0 l1) ∧ Below w.heap.size w w' := by
  have HR0 := Aside0.mk hr0
  have HR1 := Aside0.mk hr1
  have HC0 := Aside0.mk hc0
  have HC1 := Aside0.mk hc1
  have HF := Aside0.mk hf
  have HN := Aside0.mk hn
  have HD := Aside0.mk hd
  clear hr0 hr1 hc0 hc1 hf hn hd
  have HX0 := Aside0.mk (show ∃ W : World, W = (w.alloc (.cells #[.slice A0 l0.length c0] 24)).alloc (.cells #[.slice A1 l1.length c1] 23) ∧ Below w.heap.size w W ∧ W.cell? ⟨w.heap.size, 0, none⟩ = some (.slice A0 l0.length c0) ∧ W.cell? ⟨w.heap.size + 1, 0, none⟩ = some (.slice A1 l1.length c1) from ⟨_, rfl, below_alloc (below_alloc (Below.refl _ _) _) _, by simp, by simp⟩)
  go_enter Try.func53, Try.ntmps53
  go_wp2_with fail
  obtain ⟨W, hW, hB, hx0, hx1⟩ := HX0.out
  rw [← hW]
  clear hW HX0
  have HB := Aside0.mk hB
  have HX0 := Aside0.mk hx0
  have HX1 := Aside0.mk hx1
  clear hB hx0 hx1
  refine (canSend_ok A0 c0 l0 l1.length W (Kd.C_below HR0.out HB.out) HC0.out HF.out (by omega) (by have := HN.out; omega)).mono ?_
  rintro e w' ⟨rfl, hb⟩
  have n0_ := Aside0.mk (below_step HB.out hb)
  have n1_ := Aside0.mk ((hb.cell (World.block_lt_of_cell? _ _ HX0.out)).trans HX0.out)
  have n2_ := Aside0.mk ((hb.cell (World.block_lt_of_cell? _ _ HX1.out)).trans HX1.out)
  clear HB HX0 HX1 hb
  have HB := n0_
  have HX0 := n1_
  have HX1 := n2_
  clear n0_ n1_ n2_
  have hx0 := HX0.out
  have hx1 := HX1.out
  clear hx0
  go_wp2_with fail
  have HALL := Aside0.mk (show l1.all (fun b => decide ((b.length : Int) ≤ 600)) = true by rw [List.all_eq_true]; intro b hb; have := HD.out b hb; exact decide_eq_true (by omega))
  refine (all_bytes 67 (fun b => decide ((b.length : Int) ≤ 600)) (enters_of Try.func67 (by kernel_rfl) rfl) A1 c1 l1 _ (Kd.C_below HR1.out HB.out) HC1.out (fun x A c W _ hx hc => (impl_isData.calls A c x _ W hx hc rfl).mono (by rintro e w' ⟨rfl, hd⟩; exact ⟨rfl, hd.below⟩))).mono ?_
  rw [HALL.out]
  rintro e w2 ⟨rfl, hb⟩
  clear hx1
  have n0_ := Aside0.mk (below_step HB.out hb)
  have n1_ := Aside0.mk ((hb.cell (World.block_lt_of_cell? _ _ HX0.out)).trans HX0.out)
  have n2_ := Aside0.mk ((hb.cell (World.block_lt_of_cell? _ _ HX1.out)).trans HX1.out)
  clear HB HX0 HX1 hb
  have HB := n0_
  have HX0 := n1_
  have HX1 := n2_
  clear n0_ n1_ n2_
  have hx0 := HX0.out
  have hx1 := HX1.out
  go_wp2_with fail
  refine (ArrivalsOf_ok A0 c0 l0 l1.length _ (Kd.C_below HR0.out HB.out) HC0.out HF.out HN.out).mono ?_
  rintro e w3 ⟨v3, rfl, ho, hb⟩
  clear hx0 hx1
  have HO := Aside0.mk (Kd.R_lower ho (below_size HB.out))
  clear ho
  have n0_ := Aside0.mk (below_step HB.out hb)
  have n1_ := Aside0.mk ((hb.cell (World.block_lt_of_cell? _ _ HX0.out)).trans HX0.out)
  have n2_ := Aside0.mk ((hb.cell (World.block_lt_of_cell? _ _ HX1.out)).trans HX1.out)
  clear HB HX0 HX1 hb
  have HB := n0_
  have HX0 := n1_
  have HX1 := n2_
  clear n0_ n1_ n2_
  have hx0 := HX0.out
  have hx1 := HX1.out
  clear hx0 hx1
  obtain ⟨A3, c3, e3⟩ := Kd.R_slice HO.out
  subst e3
  go_wp2_with fail
  obtain ⟨hq1, hq2, hq3⟩ := Kd.R_reads' HO.out
  refine (mapped68 (w.heap.size + 1) w.heap.size A0 c0 l0 A1 c1 l1 A3 c3 (arrivals l0 l1.length) _ (Kd.C_below HR0.out HB.out) HC0.out (Kd.C_below HR1.out HB.out) hq3 hq2 HX1.out HX0.out (arrivals_mem _ _) (fun i => Nat.le_trans (rd_L2_le HD.out i) (by omega)) (by have := arrivals_length l0 l1.length; have := HN.out; omega)).mono ?_
  rintro e w4 ⟨v4, rfl, ho, hb⟩
  clear hq1 hq2 hq3 HO
  have HO := Aside0.mk (Kd.R_lower ho (below_size HB.out))
  clear ho
  have n0_ := Aside0.mk (below_step HB.out hb)
  have n1_ := Aside0.mk ((hb.cell (World.block_lt_of_cell? _ _ HX0.out)).trans HX0.out)
  have n2_ := Aside0.mk ((hb.cell (World.block_lt_of_cell? _ _ HX1.out)).trans HX1.out)
  clear HB HX0 HX1 hb
  have HB := n0_
  have HX0 := n1_
  have HX1 := n2_
  clear n0_ n1_ n2_
  have hx0 := HX0.out
  have hx1 := HX1.out
  go_wp2_with fail
  go_ret
  exact ⟨_, rfl, HO.out, HB.out⟩
set_option maxHeartbeats 8000000 in
set_option maxRecDepth 100000 in
/-- pass: the wire's fates lie in the box g's first cell, how many were sent in its second. -/
theorem pass_ok (g : Nat) (A0 : Option Addr) (c0 : Nat) (l0 : List Int) (s : Nat) (A1 : Option Addr) (c1 : Nat) (l1 : List (List Int)) (w : World) (hr0 : Kd.C (Kd.int .i64) w A0 l0.length l0) (hc0 : l0.length ≤ c0) (hr1 : Kd.C (Kd.slice 5 (Kd.int .u8)) w A1 l1.length l1) (hc1 : l1.length ≤ c1)
    (hg : w.heap[g]? = some (.cells #[.slice A0 l0.length c0, .int .i64 s] 52 (0, 0)))
    (hf : fatesOk l0 = true) (hn : l1.length ≤ 9) (hs : s ≤ 100000) (hd : ∀ b ∈ l1, b.length ≤ 600) :
    Calls Try.prog 33 #[.pointer (some ⟨g, 0, none⟩), .slice A1 l1.length c1] w fun e w' => ∃ (v0_ : Value) (w2 : World), e = .returned v0_ ∧ Kd.R (Kd.slice 5 (Kd.int .u8)) 22 w2 w.heap.size (fun _ => True) v0_ (passWire (l0.drop s) l1) ∧ Below w.heap.size w w2 ∧ w' = w2.setCell ⟨g, 1, none⟩ (.int .i64 ((s + l1.length : Nat) : Int)) := by
  have HR0 := Aside0.mk hr0
  have HC0 := Aside0.mk hc0
  have HF0 := Aside0.mk hf
  have HS := Aside0.mk hs
  have HR1 := Aside0.mk hr1
  have HC1 := Aside0.mk hc1
  have HF := Aside0.mk (show fatesOk (l0.drop s) = true by unfold fatesOk at hf ⊢; simp at hf ⊢; exact ⟨by omega, fun x hx => hf.2 x (List.mem_of_mem_drop hx)⟩)
  have HN := Aside0.mk hn
  have HD := Aside0.mk hd
  have HG := Aside0.mk hg
  have hx0 : w.cell? ⟨g, 0, none⟩ = some (.slice A0 l0.length c0) := by simp [World.cell?, hg]
  have hx1 : w.cell? ⟨g, 1, none⟩ = some (.int .i64 s) := by simp [World.cell?, hg]
  have hw1 : wrap64 ((s : Int) + (l1.length : Int)) = ((s + l1.length : Nat) : Int) := by rw [IntWalk.wrap64_in _ (by omega)]; simp
  have HX0 := Aside0.mk hx0
  have HX1 := Aside0.mk hx1
  have HGL := Aside0.mk (World.block_lt_of_cell? _ _ hx0)
  have HCON := Aside0.mk (fun (W : World) (hc : Kd.C (Kd.int .i64) W A0 l0.length l0) => FatesBehind_ok A0 c0 l0 s W hc hc0 hf (by omega))
  clear hr0 hc0 hr1 hc1 hg hf hn hs hd HF0
  generalize l0.drop s = ld at HF HCON ⊢
  have HB := Aside0.mk (Below.refl w.heap.size w)
  go_enter Try.func33, Try.ntmps33
  go_wp2_with fail
  go_region_held3 (fun W => W.cell? ⟨g, 0, none⟩ = some (.slice A0 l0.length c0) ∧ W.cell? ⟨g, 1, none⟩ = some (.int .i64 s)) (first | go_keep | (exact ⟨(HB.out.cell HGL.out).trans HX0.out, (HB.out.cell HGL.out).trans HX1.out⟩)) (first | (go_at_call 54; (with_reducible refine (HCON.out _ ?s0).mono ?_); (case s0 => repeat (first | exact (Kd.C_below HR0.out (by repeat (first | (with_reducible first | exact HB.out | apply below_alloc | apply pw_below_drewN | apply below_drew1) | exact HB.out))) | (with_reducible refine Kd.C_alloc ?_ _) | (with_reducible refine Kd.C_drewN ?_ _) | (with_reducible refine Kd.C_drew ?_))); rintro e w' ⟨vf, rfl, ho, hb⟩; have n0_ := Aside0.mk (below_step (by repeat (first | (with_reducible first | exact HB.out | apply below_alloc | apply pw_below_drewN | apply below_drew1) | exact HB.out)) hb); have n1_ := Aside0.mk (Kd.R_lower ho (below_size (by repeat (first | (with_reducible first | exact HB.out | apply below_alloc | apply pw_below_drewN | apply below_drew1) | exact HB.out)))); clear HB; have HB := n0_; have HOF := n1_; clear n0_ n1_ ho hb; obtain ⟨Af, cf, ef⟩ := Kd.R_slice HOF.out; subst ef) | (go_at_call 53; (with_reducible refine (PassWire_ok _ _ ld _ _ l1 _ ?s0 ?s1 ?s2 HC1.out HF.out HN.out HD.out).mono ?_); (case s0 => exact (Kd.R_reads' (by (with_reducible repeat (first | apply Kd.R_alloc | apply Kd.R_drewN | apply Kd.R_drew)); exact HOF.out)).2.2); (case s1 => exact (Kd.R_reads' HOF.out).2.1); (case s2 => repeat (first | exact (Kd.C_below HR1.out (by repeat (first | (with_reducible first | exact HB.out | apply below_alloc | apply pw_below_drewN | apply below_drew1) | exact HB.out))) | (with_reducible refine Kd.C_alloc ?_ _) | (with_reducible refine Kd.C_drewN ?_ _) | (with_reducible refine Kd.C_drew ?_))); rintro e w' ⟨vf, rfl, ho, hb⟩; have n0_ := Aside0.mk (below_step (by repeat (first | (with_reducible first | exact HB.out | apply below_alloc | apply pw_below_drewN | apply below_drew1) | exact HB.out)) hb); have n1_ := Aside0.mk (Kd.R_lower ho (below_size (by repeat (first | (with_reducible first | exact HB.out | apply below_alloc | apply pw_below_drewN | apply below_drew1) | exact HB.out)))); clear HB; have HB := n0_; have HO := n1_; clear n0_ n1_ ho hb))
  clear hx0 hx1
  have hx1 := (HB.out.cell HGL.out).trans HX1.out
  have hf1 := (HB.out.frozen (p := ⟨g, 1, none⟩) HGL.out).trans (show w.frozen? ⟨g, 1, none⟩ = false by simp [World.frozen?, HG.out])
  go_wp2_with fail
  go_ret
  exact ⟨_, _, rfl, HO.out, HB.out, rfl⟩
end Go.Proofs.Ytookabfmbimnoaa.Lk

namespace Go.Proofs.Ytookabfmbimnoaa.Lk
open Go.RowKit Go.Proofs.YtookabfmbimnoaaW.PrintWords Go.Proofs.YtookabfmbimnoaaW.PrintLast Go.Proofs.YtookabfmbimnoaaW.PrintMore
set_option linter.unusedVariables false
set_option linter.unusedSimpArgs false

/-- A link in the midst of its run: the data that came, what the sender knows, messages sent there and back, rounds. -/
structure LSt where
  got : List (List Int)
  kn : Nat
  s1 : Nat
  s2 : Nat
  rounds : Nat
def recv1 (list : List (List Int)) (kn : Nat) (fs : List Int) (got : List (List Int)) (j : Int) : List (List Int) :=
  if fateN fs j.toNat = 4 then got else if (kn + j.toNat) % 16 = got.length % 16 then got ++ [list.getD (kn + j.toNat) []] else got
def ackFind (kn w q : Nat) : Nat := match (List.range (w + 1)).find? (fun d => decide ((kn + d) % 16 = q)) with
  | some d => kn + d
  | none => kn
def ack1 (w q : Nat) (gs : List Int) (kn : Nat) (j : Int) : Nat := if fateN gs j.toNat = 4 then kn else ackFind kn w q
def sentN (w len kn : Nat) : Nat := min len (kn + w) - kn
def stepL (w : Nat) (list : List (List Int)) (there back : List Int) (st : LSt) : LSt :=
  let got := (arrivals (there.drop st.s1) (sentN w list.length st.kn)).foldl (recv1 list st.kn (there.drop st.s1)) st.got
  ⟨got, (arrivals (back.drop st.s2) 1).foldl (ack1 w (got.length % 16) (back.drop st.s2)) st.kn, st.s1 + sentN w list.length st.kn, st.s2 + 1, st.rounds + 1⟩
def loopL (w : Nat) (list : List (List Int)) (there back : List Int) : Nat → LSt → LSt
  | 0, st => st
  | m + 1, st => if st.kn < list.length then loopL w list there back m (stepL w list there back st) else st
def runL (w : Nat) (list : List (List Int)) (there back : List Int) (rounds : Nat) : LSt := loopL w list there back rounds ⟨[], 0, 0, 0, 0⟩
def bytesOk (l : List (List Int)) : Bool := l.all fun b => b.all fun x => decide (0 ≤ x) && decide (x ≤ 255)
theorem bytesOk_of {l : List (List Int)} (h : bytesOk l = true) {b : List Int} (hb : b ∈ l) : ∀ x ∈ b, byteOk x := by
  intro x hx
  have := List.all_eq_true.1 (List.all_eq_true.1 h b hb) x hx
  simp at this
  exact this
theorem bytesOk_getD {l : List (List Int)} (h : bytesOk l = true) (i : Nat) : ∀ x ∈ l.getD i [], byteOk x := by
  by_cases hi : i < l.length
  · rw [List.getD_eq_getElem?_getD, List.getElem?_eq_getElem hi]
    exact bytesOk_of h (List.getElem_mem hi)
  · rw [List.getD_eq_getElem?_getD, List.getElem?_eq_none (by omega)]
    intro x hx
    simp at hx
theorem short_getD {l : List (List Int)} (h : l.all shortB = true) (i : Nat) : (l.getD i []).length ≤ 597 := by
  by_cases hi : i < l.length
  · rw [List.getD_eq_getElem?_getD, List.getElem?_eq_getElem hi]
    exact of_decide_eq_true (List.all_eq_true.1 h _ (List.getElem_mem hi))
  · rw [List.getD_eq_getElem?_getD, List.getElem?_eq_none (by omega)]
    exact Nat.zero_le _
theorem ackFind_hit {kn w q d : Nat} (hd : d ≤ w) (h : (kn + d) % 16 = q) (hn : ∀ e, e < d → (kn + e) % 16 ≠ q) : ackFind kn w q = kn + d := by
  unfold ackFind
  have : (List.range (w + 1)).find? (fun d => decide ((kn + d) % 16 = q)) = some d := by
    rw [List.find?_range_eq_some]
    exact ⟨by simpa using h, by simp; omega, fun j hj => by simpa using hn j hj⟩
  rw [this]
theorem ackFind_miss {kn w q : Nat} (hn : ∀ e, e ≤ w → (kn + e) % 16 ≠ q) : ackFind kn w q = kn := by
  unfold ackFind
  have : (List.range (w + 1)).find? (fun d => decide ((kn + d) % 16 = q)) = none := by
    rw [List.find?_eq_none]
    intro x hx
    simp at hx ⊢
    exact hn x (by omega)
  rw [this]
theorem ackFind_le (kn w q : Nat) : kn ≤ ackFind kn w q ∧ ackFind kn w q ≤ kn + w := by
  unfold ackFind
  split
  · rename_i d hd
    have := List.mem_of_find?_eq_some hd
    simp at this
    omega
  · omega
theorem ack1_le (w q : Nat) (gs : List Int) (kn : Nat) (j : Int) : kn ≤ ack1 w q gs kn j ∧ ack1 w q gs kn j ≤ kn + w := by
  unfold ack1
  split
  · omega
  · exact ackFind_le kn w q
theorem acks_le (w q : Nat) (gs : List Int) : ∀ (l : List Int) (kn : Nat), kn ≤ l.foldl (ack1 w q gs) kn ∧ l.foldl (ack1 w q gs) kn ≤ kn + l.length * w
  | [], kn => by simp
  | j :: l, kn => by
    have h1 := ack1_le w q gs kn j
    have h2 := acks_le w q gs l (ack1 w q gs kn j)
    simp only [List.foldl_cons, List.length_cons]
    refine ⟨by omega, ?_⟩
    rw [Nat.succ_mul]
    omega
theorem recv1_le (list : List (List Int)) (kn : Nat) (fs : List Int) (got : List (List Int)) (j : Int) : (recv1 list kn fs got j).length ≤ got.length + 1 := by
  unfold recv1
  repeat' split
  all_goals simp
theorem recvs_le (list : List (List Int)) (kn : Nat) (fs : List Int) : ∀ (l : List Int) (got : List (List Int)), (l.foldl (recv1 list kn fs) got).length ≤ got.length + l.length
  | [], got => by simp
  | j :: l, got => by
    have h1 := recv1_le list kn fs got j
    have h2 := recvs_le list kn fs l (recv1 list kn fs got j)
    simp only [List.foldl_cons, List.length_cons]
    omega
theorem rd_L2_get {l : List (List Int)} {i : Nat} (h : i < l.length) : rd_L2 l (i : Int) = l[i] := by
  show l.getD i [] = _
  rw [List.getD_eq_getElem?_getD, List.getElem?_eq_getElem h]
  rfl
/-- What UnpackLink makes of the arrival of message i. -/
def unOf (list : List (List Int)) (kn : Nat) (fs : List Int) (i : Nat) : Int × Int × List Int × Bool :=
  if fateN fs i = 4 then (0, 0, [], false) else (1, (((kn + i) % 16 : Nat) : Int), list.getD (kn + i) [], true)
def unBack (q : Nat) (gs : List Int) (i : Nat) : Int × Int × List Int × Bool :=
  if fateN gs i = 4 then (0, 0, [], false) else (2, (q : Int), [], true)

def impl_packs (list : List (List Int)) (kn n : Nat) : List (List Int) := (List.range n).map fun i => impl_packv 1 (((kn + i) % 16 : Nat) : Int) (list.getD (kn + i) [])
theorem impl_packs_length (list : List (List Int)) (kn n : Nat) : (impl_packs list kn n).length = n := by simp [impl_packs]
theorem impl_packs_succ (list : List (List Int)) (kn n : Nat) : impl_packs list kn (n + 1) = impl_packs list kn n ++ [impl_packv 1 (((kn + n) % 16 : Nat) : Int) (list.getD (kn + n) [])] := by simp [impl_packs, List.range_succ]
theorem impl_packs_short {list : List (List Int)} (h : list.all shortB = true) (kn n : Nat) : ∀ b ∈ impl_packs list kn n, b.length ≤ 600 := by
  intro b hb
  simp only [impl_packs, List.mem_map, List.mem_range] at hb
  obtain ⟨i, _, rfl⟩ := hb
  have := short_getD h (kn + i)
  rw [impl_packv_length]
  omega
theorem impl_unOf {list : List (List Int)} (hs : list.all shortB = true) (hb : bytesOk list = true) (kn n : Nat) (fs : List Int) (i : Int) (h0 : 0 ≤ i) (h1 : i < n) : impl_UnpackLink.f 700 (passOf fs (impl_packs list kn n) i) = some (unOf list kn fs i.toNat) := by
  obtain ⟨m, rfl⟩ := Int.eq_ofNat_of_zero_le h0
  have hm : m < (impl_packs list kn n).length := by rw [impl_packs_length]; omega
  have hp : rd_L2 (impl_packs list kn n) (m : Int) = impl_packv 1 (((kn + m) % 16 : Nat) : Int) (list.getD (kn + m) []) := by rw [rd_L2_get hm]; simp [impl_packs]
  unfold passOf unOf
  rw [hp, Int.toNat_natCast]
  split
  · exact impl_unflip 1 _ _ (.inl rfl) (by omega) (by omega) (short_getD hs _) (bytesOk_getD hb _)
  · exact impl_unpack 1 _ _ (.inl rfl) (by omega) (by omega) (short_getD hs _) (bytesOk_getD hb _)
theorem impl_unBack (q : Nat) (hq : q < 16) (gs : List Int) (i : Int) (h0 : 0 ≤ i) (h1 : i < 1) : impl_UnpackLink.f 700 (passOf gs [impl_packv 2 (q : Int) []] i) = some (unBack q gs i.toNat) := by
  obtain rfl : i = 0 := by omega
  unfold passOf unBack
  rw [show rd_L2 [impl_packv 2 (q : Int) []] 0 = impl_packv 2 (q : Int) [] from rfl]
  split
  · exact impl_unflip 2 _ _ (.inr ⟨rfl, rfl⟩) (by omega) (by omega) (by simp) (fun x hx => by simp at hx)
  · exact impl_unpack 2 _ _ (.inr ⟨rfl, rfl⟩) (by omega) (by omega) (by simp) (fun x hx => by simp at hx)

def spec_packs (list : List (List Int)) (kn n : Nat) : List (List Int) := (List.range n).map fun i => spec_packv 1 (((kn + i) % 16 : Nat) : Int) (list.getD (kn + i) [])
theorem spec_packs_length (list : List (List Int)) (kn n : Nat) : (spec_packs list kn n).length = n := by simp [spec_packs]
theorem spec_packs_succ (list : List (List Int)) (kn n : Nat) : spec_packs list kn (n + 1) = spec_packs list kn n ++ [spec_packv 1 (((kn + n) % 16 : Nat) : Int) (list.getD (kn + n) [])] := by simp [spec_packs, List.range_succ]
theorem spec_packs_short {list : List (List Int)} (h : list.all shortB = true) (kn n : Nat) : ∀ b ∈ spec_packs list kn n, b.length ≤ 600 := by
  intro b hb
  simp only [spec_packs, List.mem_map, List.mem_range] at hb
  obtain ⟨i, _, rfl⟩ := hb
  have := short_getD h (kn + i)
  rw [spec_packv_length]
  omega
theorem spec_unOf {list : List (List Int)} (hs : list.all shortB = true) (hb : bytesOk list = true) (kn n : Nat) (fs : List Int) (i : Int) (h0 : 0 ≤ i) (h1 : i < n) : spec_UnpackLink.f 700 (passOf fs (spec_packs list kn n) i) = some (unOf list kn fs i.toNat) := by
  obtain ⟨m, rfl⟩ := Int.eq_ofNat_of_zero_le h0
  have hm : m < (spec_packs list kn n).length := by rw [spec_packs_length]; omega
  have hp : rd_L2 (spec_packs list kn n) (m : Int) = spec_packv 1 (((kn + m) % 16 : Nat) : Int) (list.getD (kn + m) []) := by rw [rd_L2_get hm]; simp [spec_packs]
  unfold passOf unOf
  rw [hp, Int.toNat_natCast]
  split
  · exact spec_unflip 1 _ _ (.inl rfl) (by omega) (by omega) (short_getD hs _) (bytesOk_getD hb _)
  · exact spec_unpack 1 _ _ (.inl rfl) (by omega) (by omega) (short_getD hs _) (bytesOk_getD hb _)
theorem spec_unBack (q : Nat) (hq : q < 16) (gs : List Int) (i : Int) (h0 : 0 ≤ i) (h1 : i < 1) : spec_UnpackLink.f 700 (passOf gs [spec_packv 2 (q : Int) []] i) = some (unBack q gs i.toNat) := by
  obtain rfl : i = 0 := by omega
  unfold passOf unBack
  rw [show rd_L2 [spec_packv 2 (q : Int) []] 0 = spec_packv 2 (q : Int) [] from rfl]
  split
  · exact spec_unflip 2 _ _ (.inr ⟨rfl, rfl⟩) (by omega) (by omega) (by simp) (fun x hx => by simp at hx)
  · exact spec_unpack 2 _ _ (.inr ⟨rfl, rfl⟩) (by omega) (by omega) (by simp) (fun x hx => by simp at hx)
end Go.Proofs.Ytookabfmbimnoaa.Lk

namespace Go.Proofs.Ytookabfmbimnoaa.Lk
open Go.RowKit Go.Proofs.YtookabfmbimnoaaW.PrintWords Go.Proofs.YtookabfmbimnoaaW.PrintLast Go.Proofs.YtookabfmbimnoaaW.PrintMore
attribute [local go_sem] max2_int min2_int max_two min_two max_three min_three max_four min_four   -- for this text's walks alone
set_option linter.unusedVariables false
set_option linter.unusedSimpArgs false

mutual
def spec_ArrivalsOf.j0 : Nat → List Int → Int → List Int → Bool → Option (List Int)
  | 0, _, _, _, _ => none
  | k + 1, x0, x1, x5, x16 => if x16 = true then (some x5) else (spec_ArrivalsOf.l0 k x0 x1 x5 0)
def spec_ArrivalsOf.l0 : Nat → List Int → Int → List Int → Int → Option (List Int)
  | 0, _, _, _, _ => none
  | k + 1, x0, x1, x5, x6 => if x6 < (wrap64 ((wrap64 (2 * x1)) + 3)) then (spec_ArrivalsOf.l1 k x0 x1 x5 x6 0) else (some x5)
def spec_ArrivalsOf.l1 : Nat → List Int → Int → List Int → Int → Int → Option (List Int)
  | 0, _, _, _, _, _ => none
  | k + 1, x0, x1, x5, x6, x7 => if x7 < x1 then ((spec_l4At.f x0 x7).bind fun t332 => (if t332 = x6 then (if x5.length < 17592186044416 then ((some (x5 ++ [x7] : List Int)).bind fun y333 => ((spec_l4Fate.f x0 x7).bind fun t336 => (if t336 = 2 then (if y333.length < 17592186044416 then (spec_ArrivalsOf.l1 k x0 x1 (y333 ++ [x7]) x6 (wrap64 (x7 + 1))) else (none)) else (spec_ArrivalsOf.l1 k x0 x1 y333 x6 (wrap64 (x7 + 1)))))) else (none)) else (spec_ArrivalsOf.l1 k x0 x1 x5 x6 (wrap64 (x7 + 1))))) else (spec_ArrivalsOf.l0 k x0 x1 x5 (wrap64 (x6 + 1)))
end
def spec_ArrivalsOf.f (k : Nat) (l0 : List Int) (a1 : Int) : Option (List Int) := (some (([] : List Int) : List Int)).bind fun y327 => ((spec_FatesValid.f k l0).bind fun t330 => (if t330 = true then ((spec_l1In.f a1 0 60).bind fun t331 => (spec_ArrivalsOf.j0 k l0 a1 y327 (!t331))) else (spec_ArrivalsOf.j0 k l0 a1 y327 true)))
set_option maxHeartbeats 8000000 in
set_option maxRecDepth 100000 in
theorem spec_ArrivalsOf.calls (k : Nat) (A0 : Option Addr) (c0 : Nat) (l0 : List Int) (a1 : Int) (r : List Int) (w : World) (hr0 : Kd.C (Kd.int .i64) w A0 l0.length l0) (hc0 : l0.length ≤ c0) (h : spec_ArrivalsOf.f k l0 a1 = some r) :
    Calls Try.prog 89 #[.slice A0 l0.length c0, .int .i64 a1] w fun e w' => ∃ v0_ : Value, e = .returned (v0_) ∧ Kd.R (Kd.int .i64) 3 w' w.heap.size (fun _ => True) v0_ r ∧ Below w.heap.size w w' := by
  have HR0 := Aside0.mk hr0
  have HC0 := Aside0.mk hc0
  clear hr0 hc0
  have HB := Aside0.mk (Below.refl w.heap.size w)
  have H : ((some (([] : List Int) : List Int)).bind fun y327 => ((spec_FatesValid.f k l0).bind fun t330 => (if t330 = true then ((spec_l1In.f a1 0 60).bind fun t331 => (spec_ArrivalsOf.j0 k l0 a1 y327 (!t331))) else (spec_ArrivalsOf.j0 k l0 a1 y327 true)))) = some r := h
  clear h
  obtain ⟨y327, hy327⟩ : ∃ y_ : List Int, y_ = (([] : List Int)) := ⟨_, rfl⟩
  replace H : ((spec_FatesValid.f k l0).bind fun t330 => (if t330 = true then ((spec_l1In.f a1 0 60).bind fun t331 => (spec_ArrivalsOf.j0 k l0 a1 y327 (!t331))) else (spec_ArrivalsOf.j0 k l0 a1 y327 true))) = some r := by first | (rw [hy327]; with_reducible exact H) | (have H2_ := (Option.bind_some _ _).symm.trans H; rw [hy327]; with_reducible exact H2_) | (have H2_ := (Option.bind_some _ _).symm.trans H; with_reducible exact H2_) | with_reducible exact H | (rw [hy327]; exact H) | exact H
  have Ny327 := Aside0.mk hy327
  clear hy327
  have HC3 := Aside0.mk H
  clear H
  go_enter Try.func89, Try.ntmps89
  go_upto_region 2 with (first | ((with_reducible refine gate_dst (N := 8) rfl ?_); refine Kd.R_lit (Kd.int .i64) _ 3 ?hg (N := 8) ?hd (xs := ([] : List Int)) (inner := []) (ok := fun _ => True) (okp := fun _ => True) ?hr ?hp (fun _ hk => hk) trivial (Below.refl _ _) (Nat.le_refl _) (by simp) ?_; (case hd => rfl); (case hg => rfl); (case hr => first | (go_simp; done) | (go_simp; rfl)); (case hp => exact (Reps.none _ _)); intro v328 w4 ho5 hb hg_ hnew_; clear hg_ hnew_; (first | rw [← Ny327.out] at ho5 | (simp only [Int.reduceToNat] at ho5; rw [← Ny327.out] at ho5)); have n0_ := Aside0.mk (Kd.R_lower ho5 (below_size (by repeat (first | (with_reducible first | exact HB.out | apply below_alloc | apply pw_below_drewN | apply below_drew1) | exact HB.out)))); have n1_ := Aside0.mk (below_step (by repeat (first | (with_reducible first | exact HB.out | apply below_alloc | apply pw_below_drewN | apply below_drew1) | exact HB.out)) hb); clear HB; have HO329 := n0_; have HB := n1_; clear n0_ n1_; clear hb ho5))
  (try simp only [Act.put, List.setIfInBounds_toArray, List.set_cons_zero, List.set_cons_succ])
  go_cut [16] (fun v16 wc => ∃ (kq : Nat) (x16_2 : Bool), v16 = .bool x16_2 ∧ Aside0 (spec_ArrivalsOf.j0 kq l0 a1 y327 x16_2 = some r) ∧ Aside0 (kq ≤ k) ∧ Aside0 (Kd.R (Kd.int .i64) 3 wc w.heap.size (fun _ => True) v328 y327) ∧ Aside0 (Below w.heap.size w wc))
  case first =>
    have H := HC3.out
    clear HC3
    replace H := Option.bind_eq_some_iff.mp H
    obtain ⟨t330, A60, H⟩ := H
    replace H : (if t330 = true then ((spec_l1In.f a1 0 60).bind fun t331 => (spec_ArrivalsOf.j0 k l0 a1 y327 (!t331))) else (spec_ArrivalsOf.j0 k l0 a1 y327 true)) = some r := H
    have A6 := Aside0.mk A60
    clear A60
    by_cases c7 : t330 = true
    · subst c7
      have H1 : ((spec_l1In.f a1 0 60).bind fun t331 => (spec_ArrivalsOf.j0 k l0 a1 y327 (!t331))) = some r := by rw [if_pos rfl] at H; exact H
      clear H
      have H := H1
      clear H1
      replace H := Option.bind_eq_some_iff.mp H
      obtain ⟨t331, A80, H⟩ := H
      replace H : (spec_ArrivalsOf.j0 k l0 a1 y327 (!t331)) = some r := H
      have A8 := Aside0.mk A80
      clear A80
      have H' := Aside0.mk H
      clear H
      go_wp2_with (first | ((with_reducible refine gate_callee (f := 44) rfl ?_); refine goesL_ (some 10) rfl rfl Try.func44 (by kernel_rfl) rfl #[.slice A0 l0.length c0] rfl (by (try simp only [List.map_toArray, List.map_cons, List.map_nil]); first | done | rfl | (simp only [List.length_drop, List.length_take]; rfl)) ?_; (with_reducible refine (spec_FatesValid.calls k _ _ l0 true _ ?side1 ?side2 A6.out).mono ?_); (case side1 => repeat (first | exact (Kd.C_below HR0.out HB.out) | (with_reducible refine Kd.C_alloc ?_ _) | (with_reducible refine Kd.C_drewN ?_ _) | (with_reducible refine Kd.C_drew ?_))); (case side2 => exact HC0.out); rintro e w' ⟨rfl, ⟨nd, rfl⟩⟩; refine ⟨_, rfl, ?_⟩) | (go_at_call 36; (with_reducible refine (spec_l1In.calls a1 0 60 t331 _ A8.out).mono ?_); rintro e w' ⟨rfl, ⟨nd, rfl⟩⟩))
      go_meet
      case rel => exact ⟨_, (!t331), (by first | rfl | (simp; done) | (simp [*]; done)), H', ⟨by first | omega | exact Nat.le_refl _⟩, ⟨by (with_reducible repeat (first | apply Kd.R_alloc | apply Kd.R_drewN | apply Kd.R_drew)); exact HO329.out⟩, ⟨by repeat (first | (with_reducible first | exact HB.out | apply below_alloc | apply pw_below_drewN | apply below_drew1) | exact HB.out)⟩⟩
    · replace c7 := Bool.eq_false_iff.mpr c7
      subst c7
      have H1 : (spec_ArrivalsOf.j0 k l0 a1 y327 true) = some r := by rw [if_neg (show ¬ (false = true) by decide)] at H; exact H
      clear H
      have H := H1
      clear H1
      have H' := Aside0.mk H
      clear H
      go_wp2_with (first | ((with_reducible refine gate_callee (f := 44) rfl ?_); refine goesL_ (some 10) rfl rfl Try.func44 (by kernel_rfl) rfl #[.slice A0 l0.length c0] rfl (by (try simp only [List.map_toArray, List.map_cons, List.map_nil]); first | done | rfl | (simp only [List.length_drop, List.length_take]; rfl)) ?_; (with_reducible refine (spec_FatesValid.calls k _ _ l0 false _ ?side1 ?side2 A6.out).mono ?_); (case side1 => repeat (first | exact (Kd.C_below HR0.out HB.out) | (with_reducible refine Kd.C_alloc ?_ _) | (with_reducible refine Kd.C_drewN ?_ _) | (with_reducible refine Kd.C_drew ?_))); (case side2 => exact HC0.out); rintro e w' ⟨rfl, ⟨nd, rfl⟩⟩; refine ⟨_, rfl, ?_⟩))
      go_meet
      case rel => exact ⟨_, (true), (by first | rfl | (simp; done) | (simp [*]; done)), H', ⟨by first | omega | exact Nat.le_refl _⟩, ⟨by (with_reducible repeat (first | apply Kd.R_alloc | apply Kd.R_drewN | apply Kd.R_drew)); exact HO329.out⟩, ⟨by repeat (first | (with_reducible first | exact HB.out | apply below_alloc | apply pw_below_drewN | apply below_drew1) | exact HB.out)⟩⟩
  case rest =>
    clear HC3
    try clear p2
    try clear c4
    try clear c7
    try clear c8
    obtain ⟨kq, x16_2, rfl, HA, HJ2, HO_5, HB⟩ := hcut
    cases kq with
    | zero => exact absurd HA.out (by simp [spec_ArrivalsOf.j0])
    | succ kj2 =>
      have H := HA.out
      clear HA
      simp only [spec_ArrivalsOf.j0] at H
      by_cases c9 : x16_2 = true
      · subst c9
        have H1 : (some y327) = some r := by rw [if_pos rfl] at H; exact H
        clear H
        have H := H1
        clear H1
        obtain rfl := Option.some.inj H
        go_wp2
        go_ret
        exact ⟨_, by first | rfl | (simp [errW_none, errW_some] <;> rfl) | (simp [*, errW_none, errW_some] <;> rfl), by (with_reducible repeat (first | apply Kd.R_alloc | apply Kd.R_drewN | apply Kd.R_drew)); exact HO_5.out, by repeat (first | (with_reducible first | exact HB.out | apply below_alloc | apply pw_below_drewN | apply below_drew1) | exact HB.out)⟩
      · replace c9 := Bool.eq_false_iff.mpr c9
        subst c9
        have H1 : (spec_ArrivalsOf.l0 kj2 l0 a1 y327 0) = some r := by rw [if_neg (show ¬ (false = true) by decide)] at H; exact H
        clear H
        have H := H1
        clear H1
        have H' := Aside0.mk H
        clear H
        go_wp2
        go_loopg [5, 6] kj2 (fun kq v5 v6 w' => ∃ (x5_2 : List Int) (x6_2 : Int), v6 = .int .i64 x6_2 ∧ Aside0 (spec_ArrivalsOf.l0 kq l0 a1 x5_2 x6_2 = some r) ∧ Aside0 (kq ≤ kj2) ∧ Aside0 (Kd.R (Kd.int .i64) 3 w' w.heap.size (fun _ => True) v5 x5_2) ∧ Aside0 (Below w.heap.size w w'))
        case atStart => exact ⟨(y327), (0), (by first | rfl | (simp; done) | (simp [*]; done)), H', ⟨Nat.le_refl _⟩, ⟨by (with_reducible repeat (first | apply Kd.R_alloc | apply Kd.R_drewN | apply Kd.R_drew)); exact HO_5.out⟩, ⟨by repeat (first | (with_reducible first | exact HB.out | apply below_alloc | apply pw_below_drewN | apply below_drew1) | exact HB.out)⟩⟩
        case round =>
          clear H'
          try clear p2
          try clear c4
          try clear c7
          try clear c8
          try clear c9
          try clear p2
          obtain ⟨x5_2, x6_2, rfl, HA, HK2, HO_5, HB⟩ := hrel
          cases gk with
          | zero => exact absurd HA.out (by simp [spec_ArrivalsOf.l0])
          | succ k2 =>
            have H := HA.out
            clear HA
            simp only [spec_ArrivalsOf.l0] at H
            by_cases c10 : x6_2 < (wrap64 ((wrap64 (2 * a1)) + 3))
            · rw [if_pos c10] at H
              have c10b0 : decide (x6_2 < (wrap64 ((wrap64 (2 * a1)) + 3))) = true := decide_eq_true c10
              clear c10
              have H' := Aside0.mk H
              clear H
              go_wp2
              go_loopg [5, 7] k2 (fun kq v5 v7 w' => ∃ (x5_3 : List Int) (x7_3 : Int), v7 = .int .i64 x7_3 ∧ Aside0 (spec_ArrivalsOf.l1 kq l0 a1 x5_3 x6_2 x7_3 = some r) ∧ Aside0 (kq ≤ k2) ∧ Aside0 (Kd.R (Kd.int .i64) 3 w' w.heap.size (fun _ => True) v5 x5_3) ∧ Aside0 (Below w.heap.size w w'))
              case atStart => exact ⟨(x5_2), (0), (by first | rfl | (simp; done) | (simp [*]; done)), H', ⟨Nat.le_refl _⟩, ⟨by (with_reducible repeat (first | apply Kd.R_alloc | apply Kd.R_drewN | apply Kd.R_drew)); exact HO_5.out⟩, ⟨by repeat (first | (with_reducible first | exact HB.out | apply below_alloc | apply pw_below_drewN | apply below_drew1) | exact HB.out)⟩⟩
              case round =>
                clear H'
                try clear c1
                try clear p2
                try clear c4
                try clear p6
                try clear c7
                try clear c8
                try clear c9
                try clear c10
                try clear c10b0
                try clear p2
                obtain ⟨x5_3, x7_3, rfl, HA, HK3, HO_5, HB⟩ := hrel
                cases gk with
                | zero => exact absurd HA.out (by simp [spec_ArrivalsOf.l1])
                | succ k3 =>
                  have H := HA.out
                  clear HA
                  simp only [spec_ArrivalsOf.l1] at H
                  by_cases c11 : x7_3 < a1
                  · rw [if_pos c11] at H
                    have c11b0 : decide (x7_3 < a1) = true := decide_eq_true c11
                    clear c11
                    replace H := Option.bind_eq_some_iff.mp H
                    obtain ⟨t332, A120, H⟩ := H
                    replace H : (if t332 = x6_2 then (if x5_3.length < 17592186044416 then ((some (x5_3 ++ [x7_3] : List Int)).bind fun y333 => ((spec_l4Fate.f l0 x7_3).bind fun t336 => (if t336 = 2 then (if y333.length < 17592186044416 then (spec_ArrivalsOf.l1 k3 l0 a1 (y333 ++ [x7_3]) x6_2 (wrap64 (x7_3 + 1))) else (none)) else (spec_ArrivalsOf.l1 k3 l0 a1 y333 x6_2 (wrap64 (x7_3 + 1)))))) else (none)) else (spec_ArrivalsOf.l1 k3 l0 a1 x5_3 x6_2 (wrap64 (x7_3 + 1)))) = some r := H
                    have A12 := Aside0.mk A120
                    clear A120
                    by_cases c13 : t332 = x6_2
                    · rw [if_pos c13] at H
                      have c13b0 : (t332 == x6_2) = true := beq_iff_eq.mpr c13
                      have c13b1 : (t332 != x6_2) = false := bne_eq_false_iff_eq.mpr c13
                      clear c13
                      by_cases c14 : x5_3.length < 17592186044416
                      · rw [if_pos c14] at H
                        have LMc14 := Aside0.mk c14
                        clear c14
                        obtain ⟨y333, hy333⟩ : ∃ y_ : List Int, y_ = (x5_3 ++ [x7_3]) := ⟨_, rfl⟩
                        replace H : ((spec_l4Fate.f l0 x7_3).bind fun t336 => (if t336 = 2 then (if y333.length < 17592186044416 then (spec_ArrivalsOf.l1 k3 l0 a1 (y333 ++ [x7_3]) x6_2 (wrap64 (x7_3 + 1))) else (none)) else (spec_ArrivalsOf.l1 k3 l0 a1 y333 x6_2 (wrap64 (x7_3 + 1))))) = some r := by first | (rw [hy333]; with_reducible exact H) | (have H2_ := (Option.bind_some _ _).symm.trans H; rw [hy333]; with_reducible exact H2_) | (have H2_ := (Option.bind_some _ _).symm.trans H; with_reducible exact H2_) | with_reducible exact H | (rw [hy333]; exact H) | exact H
                        have Ny333 := Aside0.mk hy333
                        clear hy333
                        replace H := Option.bind_eq_some_iff.mp H
                        obtain ⟨t336, A150, H⟩ := H
                        replace H : (if t336 = 2 then (if y333.length < 17592186044416 then (spec_ArrivalsOf.l1 k3 l0 a1 (y333 ++ [x7_3]) x6_2 (wrap64 (x7_3 + 1))) else (none)) else (spec_ArrivalsOf.l1 k3 l0 a1 y333 x6_2 (wrap64 (x7_3 + 1)))) = some r := H
                        have A15 := Aside0.mk A150
                        clear A150
                        by_cases c16 : t336 = 2
                        · rw [if_pos c16] at H
                          have c16b0 : (t336 == 2) = true := beq_iff_eq.mpr c16
                          have c16b1 : (t336 != 2) = false := bne_eq_false_iff_eq.mpr c16
                          clear c16
                          by_cases c17 : y333.length < 17592186044416
                          · rw [if_pos c17] at H
                            have LMc17 := Aside0.mk c17
                            clear c17
                            obtain ⟨y337, hy337⟩ : ∃ y_ : List Int, y_ = (y333 ++ [x7_3]) := ⟨_, rfl⟩
                            replace H : (spec_ArrivalsOf.l1 k3 l0 a1 y337 x6_2 (wrap64 (x7_3 + 1))) = some r := by first | (rw [hy337]; with_reducible exact H) | (have H2_ := (Option.bind_some _ _).symm.trans H; rw [hy337]; with_reducible exact H2_) | (have H2_ := (Option.bind_some _ _).symm.trans H; with_reducible exact H2_) | with_reducible exact H | (rw [hy337]; exact H) | exact H
                            have Ny337 := Aside0.mk hy337
                            clear hy337
                            have H' := Aside0.mk H
                            clear H
                            go_wp2_with (first | ((with_reducible refine gate_callee (f := 98) rfl ?_); refine goesL_ (some 32) rfl rfl Try.func98 (by kernel_rfl) rfl #[.slice A0 l0.length c0, .int .i64 x7_3] rfl (by (try simp only [List.map_toArray, List.map_cons, List.map_nil]); first | done | rfl | (simp only [List.length_drop, List.length_take]; rfl)) ?_; (with_reducible refine (spec_l4At.calls _ _ l0 x7_3 t332 _ ?side1 ?side2 A12.out).mono ?_); (case side1 => repeat (first | exact (Kd.C_below HR0.out HB.out) | (with_reducible refine Kd.C_alloc ?_ _) | (with_reducible refine Kd.C_drewN ?_ _) | (with_reducible refine Kd.C_drew ?_))); (case side2 => exact HC0.out); rintro e w' ⟨rfl, ⟨nd, rfl⟩⟩; refine ⟨_, rfl, ?_⟩) | ((with_reducible refine gate_builtin (b := .append) (xs := #[.tmp 35, .tmp 37]) rfl ?_); at_builtin; refine Kd.R_append (Kd.int .i64) (w0 := w) w.heap.size rfl (.tmp 35) (.tmp 37) 24 3 (.int .i64 0) 8 rfl Try.underlying24 info3 rfl (by decide) (by omega) u5 x5_3 x7_3 [.int .i64 x7_3] (fun _ => True) (fun _ => False) rfl rfl ?aP (fun _ hk => hk.elim) ?aF ?aO ?aB ?aS ?aL ?_; (case aP => exact rfl); (case aB => exact (by repeat (first | (with_reducible first | exact HB.out | apply below_alloc | apply pw_below_drewN | apply below_drew1) | exact HB.out))); (case aF => exact (fun _ _ => trivial)); (case aO => exact (by (with_reducible repeat (first | apply Kd.R_alloc | apply Kd.R_drewN | apply Kd.R_drew)); exact HO_5.out)); (case aS => exact (below_size (by repeat (first | (with_reducible first | exact HB.out | apply below_alloc | apply pw_below_drewN | apply below_drew1) | exact HB.out)))); (case aL => have := LMc14.out; omega); intro v334 w18 ho hb hg hat; rw [← Ny333.out] at ho; have n0_ := Aside0.mk (hb); have n1_ := Aside0.mk (ho); clear HB; clear HO_5; have HB := n0_; have HO335 := n1_; clear n0_ n1_; clear ho hb hg hat) | ((with_reducible refine gate_callee (f := 90) rfl ?_); refine goesL_ (some 41) rfl rfl Try.func90 (by kernel_rfl) rfl #[.slice A0 l0.length c0, .int .i64 x7_3] rfl (by (try simp only [List.map_toArray, List.map_cons, List.map_nil]); first | done | rfl | (simp only [List.length_drop, List.length_take]; rfl)) ?_; (with_reducible refine (spec_l4Fate.calls _ _ l0 x7_3 t336 _ ?side1 ?side2 A15.out).mono ?_); (case side1 => repeat (first | exact (Kd.C_below HR0.out HB.out) | (with_reducible refine Kd.C_alloc ?_ _) | (with_reducible refine Kd.C_drewN ?_ _) | (with_reducible refine Kd.C_drew ?_))); (case side2 => exact HC0.out); rintro e w' ⟨rfl, ⟨nd, rfl⟩⟩; refine ⟨_, rfl, ?_⟩) | ((with_reducible refine gate_builtin (b := .append) (xs := #[.tmp 43, .tmp 45]) rfl ?_); at_builtin; refine Kd.R_append (Kd.int .i64) (w0 := w) w.heap.size rfl (.tmp 43) (.tmp 45) 24 3 (.int .i64 0) 8 rfl Try.underlying24 info3 rfl (by decide) (by omega) v334 y333 x7_3 [.int .i64 x7_3] (fun _ => True) (fun _ => False) rfl rfl ?aP (fun _ hk => hk.elim) ?aF ?aO ?aB ?aS ?aL ?_; (case aP => exact rfl); (case aB => exact (by repeat (first | (with_reducible first | exact HB.out | apply below_alloc | apply pw_below_drewN | apply below_drew1) | exact HB.out))); (case aF => exact (fun _ _ => trivial)); (case aO => exact (by (with_reducible repeat (first | apply Kd.R_alloc | apply Kd.R_drewN | apply Kd.R_drew)); exact HO335.out)); (case aS => exact (below_size (by repeat (first | (with_reducible first | exact HB.out | apply below_alloc | apply pw_below_drewN | apply below_drew1) | exact HB.out)))); (case aL => have := LMc17.out; omega); intro v338 w19 ho hb hg hat; rw [← Ny337.out] at ho; have n0_ := Aside0.mk (hb); have n1_ := Aside0.mk (ho); clear HB; clear HO335; have HB := n0_; have HO339 := n1_; clear n0_ n1_; clear ho hb hg hat))
                            go_roundg k3
                            case measure => have := HJ2.out; have := HK2.out; have := HK3.out; omega
                            case rel => exact ⟨(y337), (wrap64 (x7_3 + 1)), (by first | rfl | (simp; done) | (simp [*]; done)), H', ⟨by have := HJ2.out; have := HK2.out; have := HK3.out; omega⟩, ⟨by (with_reducible repeat (first | apply Kd.R_alloc | apply Kd.R_drewN | apply Kd.R_drew)); exact HO339.out⟩, ⟨by repeat (first | (with_reducible first | exact HB.out | apply below_alloc | apply pw_below_drewN | apply below_drew1) | exact HB.out)⟩⟩
                          · rw [if_neg c17] at H
                            exact absurd H (by simp)
                        · rw [if_neg c16] at H
                          have c16b0 : (t336 == 2) = false := beq_eq_false_iff_ne.mpr c16
                          have c16b1 : (t336 != 2) = true := bne_iff_ne.mpr c16
                          have H' := Aside0.mk H
                          clear H
                          go_wp2_with (first | ((with_reducible refine gate_callee (f := 98) rfl ?_); refine goesL_ (some 32) rfl rfl Try.func98 (by kernel_rfl) rfl #[.slice A0 l0.length c0, .int .i64 x7_3] rfl (by (try simp only [List.map_toArray, List.map_cons, List.map_nil]); first | done | rfl | (simp only [List.length_drop, List.length_take]; rfl)) ?_; (with_reducible refine (spec_l4At.calls _ _ l0 x7_3 t332 _ ?side1 ?side2 A12.out).mono ?_); (case side1 => repeat (first | exact (Kd.C_below HR0.out HB.out) | (with_reducible refine Kd.C_alloc ?_ _) | (with_reducible refine Kd.C_drewN ?_ _) | (with_reducible refine Kd.C_drew ?_))); (case side2 => exact HC0.out); rintro e w' ⟨rfl, ⟨nd, rfl⟩⟩; refine ⟨_, rfl, ?_⟩) | ((with_reducible refine gate_builtin (b := .append) (xs := #[.tmp 35, .tmp 37]) rfl ?_); at_builtin; refine Kd.R_append (Kd.int .i64) (w0 := w) w.heap.size rfl (.tmp 35) (.tmp 37) 24 3 (.int .i64 0) 8 rfl Try.underlying24 info3 rfl (by decide) (by omega) u5 x5_3 x7_3 [.int .i64 x7_3] (fun _ => True) (fun _ => False) rfl rfl ?aP (fun _ hk => hk.elim) ?aF ?aO ?aB ?aS ?aL ?_; (case aP => exact rfl); (case aB => exact (by repeat (first | (with_reducible first | exact HB.out | apply below_alloc | apply pw_below_drewN | apply below_drew1) | exact HB.out))); (case aF => exact (fun _ _ => trivial)); (case aO => exact (by (with_reducible repeat (first | apply Kd.R_alloc | apply Kd.R_drewN | apply Kd.R_drew)); exact HO_5.out)); (case aS => exact (below_size (by repeat (first | (with_reducible first | exact HB.out | apply below_alloc | apply pw_below_drewN | apply below_drew1) | exact HB.out)))); (case aL => have := LMc14.out; omega); intro v334 w20 ho hb hg hat; rw [← Ny333.out] at ho; have n0_ := Aside0.mk (hb); have n1_ := Aside0.mk (ho); clear HB; clear HO_5; have HB := n0_; have HO335 := n1_; clear n0_ n1_; clear ho hb hg hat) | ((with_reducible refine gate_callee (f := 90) rfl ?_); refine goesL_ (some 41) rfl rfl Try.func90 (by kernel_rfl) rfl #[.slice A0 l0.length c0, .int .i64 x7_3] rfl (by (try simp only [List.map_toArray, List.map_cons, List.map_nil]); first | done | rfl | (simp only [List.length_drop, List.length_take]; rfl)) ?_; (with_reducible refine (spec_l4Fate.calls _ _ l0 x7_3 t336 _ ?side1 ?side2 A15.out).mono ?_); (case side1 => repeat (first | exact (Kd.C_below HR0.out HB.out) | (with_reducible refine Kd.C_alloc ?_ _) | (with_reducible refine Kd.C_drewN ?_ _) | (with_reducible refine Kd.C_drew ?_))); (case side2 => exact HC0.out); rintro e w' ⟨rfl, ⟨nd, rfl⟩⟩; refine ⟨_, rfl, ?_⟩))
                          go_roundg k3
                          case measure => have := HJ2.out; have := HK2.out; have := HK3.out; omega
                          case rel => exact ⟨(y333), (wrap64 (x7_3 + 1)), (by first | rfl | (simp; done) | (simp [*]; done)), H', ⟨by have := HJ2.out; have := HK2.out; have := HK3.out; omega⟩, ⟨by (with_reducible repeat (first | apply Kd.R_alloc | apply Kd.R_drewN | apply Kd.R_drew)); exact HO335.out⟩, ⟨by repeat (first | (with_reducible first | exact HB.out | apply below_alloc | apply pw_below_drewN | apply below_drew1) | exact HB.out)⟩⟩
                      · rw [if_neg c14] at H
                        exact absurd H (by simp)
                    · rw [if_neg c13] at H
                      have c13b0 : (t332 == x6_2) = false := beq_eq_false_iff_ne.mpr c13
                      have c13b1 : (t332 != x6_2) = true := bne_iff_ne.mpr c13
                      have H' := Aside0.mk H
                      clear H
                      go_wp2_with (first | ((with_reducible refine gate_callee (f := 98) rfl ?_); refine goesL_ (some 32) rfl rfl Try.func98 (by kernel_rfl) rfl #[.slice A0 l0.length c0, .int .i64 x7_3] rfl (by (try simp only [List.map_toArray, List.map_cons, List.map_nil]); first | done | rfl | (simp only [List.length_drop, List.length_take]; rfl)) ?_; (with_reducible refine (spec_l4At.calls _ _ l0 x7_3 t332 _ ?side1 ?side2 A12.out).mono ?_); (case side1 => repeat (first | exact (Kd.C_below HR0.out HB.out) | (with_reducible refine Kd.C_alloc ?_ _) | (with_reducible refine Kd.C_drewN ?_ _) | (with_reducible refine Kd.C_drew ?_))); (case side2 => exact HC0.out); rintro e w' ⟨rfl, ⟨nd, rfl⟩⟩; refine ⟨_, rfl, ?_⟩))
                      go_roundg k3
                      case measure => have := HJ2.out; have := HK2.out; have := HK3.out; omega
                      case rel => exact ⟨(x5_3), (wrap64 (x7_3 + 1)), (by first | rfl | (simp; done) | (simp [*]; done)), H', ⟨by have := HJ2.out; have := HK2.out; have := HK3.out; omega⟩, ⟨by (with_reducible repeat (first | apply Kd.R_alloc | apply Kd.R_drewN | apply Kd.R_drew)); exact HO_5.out⟩, ⟨by repeat (first | (with_reducible first | exact HB.out | apply below_alloc | apply pw_below_drewN | apply below_drew1) | exact HB.out)⟩⟩
                  · rw [if_neg c11] at H
                    have c11b0 : decide (x7_3 < a1) = false := decide_eq_false c11
                    clear c11
                    have H' := Aside0.mk H
                    clear H
                    go_wp2
                    go_roundg k3
                    case measure => have := HJ2.out; have := HK2.out; have := HK3.out; omega
                    case rel => exact ⟨(x5_3), (wrap64 (x6_2 + 1)), (by first | rfl | (simp; done) | (simp [*]; done)), H', ⟨by have := HJ2.out; have := HK2.out; have := HK3.out; omega⟩, ⟨by (with_reducible repeat (first | apply Kd.R_alloc | apply Kd.R_drewN | apply Kd.R_drew)); exact HO_5.out⟩, ⟨by repeat (first | (with_reducible first | exact HB.out | apply below_alloc | apply pw_below_drewN | apply below_drew1) | exact HB.out)⟩⟩
            · rw [if_neg c10] at H
              have c10b0 : decide (x6_2 < (wrap64 ((wrap64 (2 * a1)) + 3))) = false := decide_eq_false c10
              clear c10
              obtain rfl := Option.some.inj H
              go_wp2
              go_ret
              exact ⟨_, by first | rfl | (simp [errW_none, errW_some] <;> rfl) | (simp [*, errW_none, errW_some] <;> rfl), by (with_reducible repeat (first | apply Kd.R_alloc | apply Kd.R_drewN | apply Kd.R_drew)); exact HO_5.out, by repeat (first | (with_reducible first | exact HB.out | apply below_alloc | apply pw_below_drewN | apply below_drew1) | exact HB.out)⟩

def spec_l1Flip.f (l0 : List Int) (a1 : Int) : Option (List Int) := (some (([] : List Int) : List Int)).bind fun y340 => (if y340.length + l0.length < 140737488355328 then ((some (y340 ++ l0 : List Int)).bind fun y343 => (if 0 ≤ (wrap64 (Int.tdiv a1 8)) then (if (wrap64 (Int.tdiv a1 8)) < (y343.length : Int) then (if 0 ≤ (wrap64 (7 - (Int.tmod a1 8))) then (some (y343.set ((wrap64 (Int.tdiv a1 8)) : Int).toNat (Go.bits .xor .u8 (rd y343 (wrap64 (Int.tdiv a1 8))) (shl .u8 1 (wrap64 (7 - (Int.tmod a1 8))))))) else (none)) else (none)) else (none))) else (none))
def spec_l1Flip.T2 : Bool × List (List Nat × List Nat) := (true, [([], []), ([], []), ([1], [1]), ([], []), ([], []), ([4], [4]), ([3, 5], [3, 5]), ([6], [6]), ([], []), ([8], [8]), ([9], [9]), ([10], [10]), ([7, 11], [7, 11]), ([0, 2, 0, 1, 2, 3, 4, 5, 6, 7, 8, 9, 10, 11, 12], [0, 2]), ([13, 12, 0, 1, 2, 3, 4, 5, 6, 7, 8, 9, 10, 11, 12], [12, 13])])
def spec_l1Flip.B2 : List Nat := [0, 0, 2, 0, 0, 16, 56, 120, 0, 256, 768, 1792, 4088, 8191, 16383]
theorem spec_l1Flip.tab2 : rtab .any (opsOf Try.f91 2) = spec_l1Flip.T2 := by kernel_rfl
theorem spec_l1Flip.bits2 : waitsOk spec_l1Flip.T2.2 spec_l1Flip.B2 = true := by kernel_rfl
set_option maxHeartbeats 8000000 in
set_option maxRecDepth 100000 in
theorem spec_l1Flip.calls (A0 : Option Addr) (c0 : Nat) (l0 : List Int) (a1 : Int) (r : List Int) (w : World) (hr0 : Kd.C (Kd.int .u8) w A0 l0.length l0) (hc0 : l0.length ≤ c0) (h : spec_l1Flip.f l0 a1 = some r) :
    Calls Try.prog 91 #[.slice A0 l0.length c0, .int .i64 a1] w fun e w' => ∃ v0_ : Value, e = .returned (v0_) ∧ Kd.R (Kd.int .u8) 5 w' w.heap.size (fun _ => True) v0_ r ∧ Below w.heap.size w w' := by
  have HR0 := Aside0.mk hr0
  have HC0 := Aside0.mk hc0
  clear hr0 hc0
  have HB := Aside0.mk (Below.refl w.heap.size w)
  have H : ((some (([] : List Int) : List Int)).bind fun y340 => (if y340.length + l0.length < 140737488355328 then ((some (y340 ++ l0 : List Int)).bind fun y343 => (if 0 ≤ (wrap64 (Int.tdiv a1 8)) then (if (wrap64 (Int.tdiv a1 8)) < (y343.length : Int) then (if 0 ≤ (wrap64 (7 - (Int.tmod a1 8))) then (some (y343.set ((wrap64 (Int.tdiv a1 8)) : Int).toNat (Go.bits .xor .u8 (rd y343 (wrap64 (Int.tdiv a1 8))) (shl .u8 1 (wrap64 (7 - (Int.tmod a1 8))))))) else (none)) else (none)) else (none))) else (none))) = some r := h
  clear h
  obtain ⟨y340, hy340⟩ : ∃ y_ : List Int, y_ = (([] : List Int)) := ⟨_, rfl⟩
  replace H : (if y340.length + l0.length < 140737488355328 then ((some (y340 ++ l0 : List Int)).bind fun y343 => (if 0 ≤ (wrap64 (Int.tdiv a1 8)) then (if (wrap64 (Int.tdiv a1 8)) < (y343.length : Int) then (if 0 ≤ (wrap64 (7 - (Int.tmod a1 8))) then (some (y343.set ((wrap64 (Int.tdiv a1 8)) : Int).toNat (Go.bits .xor .u8 (rd y343 (wrap64 (Int.tdiv a1 8))) (shl .u8 1 (wrap64 (7 - (Int.tmod a1 8))))))) else (none)) else (none)) else (none))) else (none)) = some r := by first | (rw [hy340]; with_reducible exact H) | (have H2_ := (Option.bind_some _ _).symm.trans H; rw [hy340]; with_reducible exact H2_) | (have H2_ := (Option.bind_some _ _).symm.trans H; with_reducible exact H2_) | with_reducible exact H | (rw [hy340]; exact H) | exact H
  have Ny340 := Aside0.mk hy340
  clear hy340
  by_cases c3 : y340.length + l0.length < 140737488355328
  · rw [if_pos c3] at H
    have LMc3 := Aside0.mk c3
    clear c3
    obtain ⟨y343, hy343⟩ : ∃ y_ : List Int, y_ = (y340 ++ l0) := ⟨_, rfl⟩
    replace H : (if 0 ≤ (wrap64 (Int.tdiv a1 8)) then (if (wrap64 (Int.tdiv a1 8)) < (y343.length : Int) then (if 0 ≤ (wrap64 (7 - (Int.tmod a1 8))) then (some (y343.set ((wrap64 (Int.tdiv a1 8)) : Int).toNat (Go.bits .xor .u8 (rd y343 (wrap64 (Int.tdiv a1 8))) (shl .u8 1 (wrap64 (7 - (Int.tmod a1 8))))))) else (none)) else (none)) else (none)) = some r := by first | (rw [hy343]; with_reducible exact H) | (have H2_ := (Option.bind_some _ _).symm.trans H; rw [hy343]; with_reducible exact H2_) | (have H2_ := (Option.bind_some _ _).symm.trans H; with_reducible exact H2_) | with_reducible exact H | (rw [hy343]; exact H) | exact H
    have Ny343 := Aside0.mk hy343
    clear hy343
    obtain ⟨ji4, hji4⟩ : ∃ j_ : Int, (wrap64 (Int.tdiv a1 8)) = j_ := ⟨_, rfl⟩
    replace H : (if 0 ≤ (ji4) then (if (ji4) < (y343.length : Int) then (if 0 ≤ (wrap64 (7 - (Int.tmod a1 8))) then (some (y343.set ((ji4) : Int).toNat (Go.bits .xor .u8 (rd y343 (ji4)) (shl .u8 1 (wrap64 (7 - (Int.tmod a1 8))))))) else (none)) else (none)) else (none)) = some r := by first | (rw [hji4] at H; exact H) | (simp only [hji4] at H ⊢; exact H)
    have hji4w : (IntKind.i64.wrap (Int.tdiv a1 8)) = ji4 := (i64_w _).trans hji4
    by_cases c5 : 0 ≤ (ji4)
    · rw [if_pos c5] at H
      have c5b0 : decide (0 ≤ (ji4)) = true := decide_eq_true c5
      clear c5
      by_cases c6 : (ji4) < (y343.length : Int)
      · rw [if_pos c6] at H
        have c6b0 : decide ((ji4) < (y343.length : Int)) = true := decide_eq_true c6
        clear c6
        obtain ⟨ji7, hji7⟩ : ∃ j_ : Int, (wrap64 (7 - (Int.tmod a1 8))) = j_ := ⟨_, rfl⟩
        replace H : (if 0 ≤ (ji7) then (some (y343.set ((ji4) : Int).toNat (Go.bits .xor .u8 (rd y343 (ji4)) (shl .u8 1 (ji7))))) else (none)) = some r := by first | (rw [hji7] at H; exact H) | (simp only [hji7] at H ⊢; exact H)
        have hji7w : (IntKind.i64.wrap (7 - (Int.tmod a1 8))) = ji7 := (i64_w _).trans hji7
        by_cases c8 : 0 ≤ (ji7)
        · rw [if_pos c8] at H
          have c8b0 := eq_true c8
          have c8b1 : decide (0 ≤ (ji7)) = true := decide_eq_true c8
          clear c8
          obtain ⟨ji9, hji9⟩ : ∃ j_ : Int, (shl .u8 1 (ji7)) = j_ := ⟨_, rfl⟩
          replace H : (some (y343.set ((ji4) : Int).toNat (Go.bits .xor .u8 (rd y343 (ji4)) (ji9)))) = some r := by first | (rw [hji9] at H; exact H) | (simp only [hji9] at H ⊢; exact H)
          have hji9_ : (IntKind.u8.wrap (1 * 2 ^ min (ji7).toNat 8)) = ji9 := hji9
          have hji9z : (ji7) ≤ 8 → (IntKind.u8.wrap (1 * 2 ^ (ji7).toNat)) = ji9 := shl_small hji9
          have hji9u : (IntKind.u8.wrap (2 ^ min (ji7).toNat 8)) = ji9 := by have h_ := hji9_; rw [Int.one_mul] at h_; exact h_
          have hji9v : (ji7) ≤ 8 → (IntKind.u8.wrap (2 ^ (ji7).toNat)) = ji9 := fun hle_ => by have h_ := hji9z hle_; rw [Int.one_mul] at h_; exact h_
          obtain ⟨y347, hy347⟩ : ∃ y_ : List Int, y_ = (y343.set ((ji4) : Int).toNat (Go.bits .xor .u8 (rd y343 (ji4)) (ji9))) := ⟨_, rfl⟩
          replace H : (some y347) = some r := by first | (rw [hy347]; with_reducible exact H) | (have H2_ := (Option.bind_some _ _).symm.trans H; rw [hy347]; with_reducible exact H2_) | (have H2_ := (Option.bind_some _ _).symm.trans H; with_reducible exact H2_) | with_reducible exact H | (rw [hy347]; exact H) | exact H
          have Ny347 := Aside0.mk hy347
          clear hy347
          obtain rfl := Option.some.inj H
          go_enter Try.func91, Try.ntmps91
          try go_wp2_with (first | ((with_reducible refine gate_dst (N := 6) rfl ?_); refine Kd.R_lit (Kd.int .u8) _ 5 ?hg (N := 6) ?hd (xs := ([] : List Int)) (inner := []) (ok := fun _ => True) (okp := fun _ => True) ?hr ?hp (fun _ hk => hk) trivial (Below.refl _ _) (Nat.le_refl _) (by simp) ?_; (case hd => rfl); (case hg => rfl); (case hr => first | (go_simp; done) | (go_simp; rfl)); (case hp => exact (Reps.none _ _)); intro v341 w11 ho12 hb hg_ hnew_; clear hg_ hnew_; (first | rw [← Ny340.out] at ho12 | (simp only [Int.reduceToNat] at ho12; rw [← Ny340.out] at ho12)); have n0_ := Aside0.mk (Kd.R_lower ho12 (below_size (by repeat (first | (with_reducible first | exact HB.out | apply below_alloc | apply pw_below_drewN | apply below_drew1) | exact HB.out)))); have n1_ := Aside0.mk (below_step (by repeat (first | (with_reducible first | exact HB.out | apply below_alloc | apply pw_below_drewN | apply below_drew1) | exact HB.out)) hb); clear HB; have HO342 := n0_; have HB := n1_; clear n0_ n1_; clear hb ho12) | ((with_reducible refine gate_builtin (b := .append) (xs := #[.tmp 6, .tmp 7]) rfl ?_); at_builtin; refine Kd.R_append_rows (Kd.int .u8) (w0 := w) w.heap.size rfl (.tmp 6) (.tmp 7) 22 5 (.int .u8 0) 1 rfl Try.underlying22 info5 rfl (by decide) (by omega) v341 y340 l0 _ _ _ (fun _ => True) (fun _ => False) rfl rfl ?aO ?aR (fun _ _ h => h) (fun _ h => h.elim) ?aF ?aB ?aS ?aL ?_; (case aR => repeat (first | exact (Kd.C_below HR0.out HB.out) | (with_reducible refine Kd.C_alloc ?_ _) | (with_reducible refine Kd.C_drewN ?_ _) | (with_reducible refine Kd.C_drew ?_))); (case aB => exact (by repeat (first | (with_reducible first | exact HB.out | apply below_alloc | apply pw_below_drewN | apply below_drew1) | exact HB.out))); (case aF => exact (fun _ _ => trivial)); (case aO => exact (by (with_reducible repeat (first | apply Kd.R_alloc | apply Kd.R_drewN | apply Kd.R_drew)); exact HO342.out)); (case aS => exact (below_size (by repeat (first | (with_reducible first | exact HB.out | apply below_alloc | apply pw_below_drewN | apply below_drew1) | exact HB.out)))); (case aL => have := LMc3.out; omega); intro v344 w13 ho hb hg hat; rw [← Ny343.out] at ho; have n0_ := Aside0.mk (hb); have n1_ := Aside0.mk (ho); clear HB; clear HO342; have HB := n0_; have HO345 := n1_; clear n0_ n1_; clear ho hb hg hat))
          have n0_ := Aside0.mk (Kd.R_drew HO345.out)
          have n1_ := Aside0.mk (below_drew1 HB.out)
          clear HO345
          clear HB
          have HO345 := n0_
          have HB := n1_
          clear n0_ n1_
          obtain ⟨Ao15, co15, eo15⟩ := Kd.R_slice HO345.out
          (first | subst eo15 | (injection eo15 with f1_ f2_ f3_; have f4_ := f1_.symm; have f5_ := f3_.symm; clear f1_ f2_ f3_; subst f4_; subst f5_))
          have p346 : 0 ≤ ((ji4) : Int) := of_decide_eq_true (by first | (with_reducible assumption) | assumption)
          have q346 : (ji4) < (y343.length : Int) := of_decide_eq_true (by first | (with_reducible assumption) | assumption)
          obtain ⟨ad346, e346, hx346_0⟩ := Kd.at_int (Kd.R_reads' HO345.out).2.2 (ji4) p346 q346
          cases e346
          replace p346 := eq_true p346
          replace q346 := eq_true q346
          have p10 : 0 ≤ ((ji4) : Int) := of_decide_eq_true (by first | (with_reducible assumption) | assumption)
          have q10 : ((ji4) : Int) < ((y343.length : Int) : Int) := of_decide_eq_true (by first | (with_reducible assumption) | assumption)
          obtain ⟨go10, co10, eo10, gb10, gl10, cl10, HG10⟩ := Kd.R_form HO345.out (by omega)
          (first | cases eo10 | (injection eo10 with ea_ en_ ec_; (first | subst ea_ | (injection ea_ with ea_; subst ea_)); subst ec_; clear en_))
          have GB10 := Aside0.mk gb10
          have GG10 := Aside0.mk HG10
          clear gb10 gl10 HG10
          (first | simp only [add_plain] at hx346_0 | skip)
          obtain ⟨hx10_0, hf10_0⟩ := Kd.R_celln 0 HO345.out ((ji4) : Int) p10 q10
          replace p10 := eq_true p10
          replace q10 := eq_true q10
          have HP16 := Kd.R_putn HO345.out ((ji4) : Int) (Go.bits .xor .u8 (rd y343 (ji4)) (ji9))
          rw [← Ny347.out] at HP16
          have HQ16 := Aside0.mk HP16
          clear HP16
          refine start_ (n := 15) (S := fun w' => w'.cell? ⟨go10, ((ji4)).toNat, none⟩ = some (.int .u8 (rd y343 (ji4)))) (ds := [14]) #[false, false, false, false, false, false, false, false, false, false, false, false, false, false, false] (by kernel_rfl) rfl rfl (hx346_0) (fun hHeld => ?_); refine with_tabW spec_l1Flip.tab2 spec_l1Flip.bits2 (fun HT_ HW_ => ?_)
          generalize w13.drew = w14 at HO345 HB GG10 HQ16 hf10_0 hx10_0 hx346_0 hHeld ⊢
          refine pure_ (i := 0) (N := some 9) (v := ?_) (a' := ?_) #[true, false, false, false, false, false, false, false, false, false, false, false, false, false, false] rfl rfl (any_of HT_.out (by kernel_rfl)) (fun _ _ _ h => h) (Or.inl ⟨by rfl, ?_⟩) ?_ ?_
          rotate_left
          · intro w'
            go_simp
            with_reducible rfl
          rotate_left
          · simp only [Act.put, List.setIfInBounds_toArray, List.set_cons_zero, List.set_cons_succ, i64_w, i32_w]
            rfl
          refine pure_ (i := 1) (N := some 10) (v := ?_) (a' := ?_) #[true, true, false, false, false, false, false, false, false, false, false, false, false, false, false] rfl rfl (any_of HT_.out (by kernel_rfl)) (fun _ _ _ h => h) (Or.inl ⟨by rfl, ?_⟩) ?_ ?_
          rotate_left
          · intro w'
            go_simp
            with_reducible rfl
          rotate_left
          · simp only [Act.put, List.setIfInBounds_toArray, List.set_cons_zero, List.set_cons_succ, i64_w, i32_w]
            rfl
          refine pure_ (i := 2) (N := some 11) (v := ?_) (a' := ?_) #[true, true, true, false, false, false, false, false, false, false, false, false, false, false, false] rfl rfl (any_of HT_.out (by kernel_rfl)) (fun _ _ _ h => h) (Or.inl ⟨by rfl, ?_⟩) ?_ ?_
          rotate_left
          · intro w'
            go_simp
            with_reducible rfl
          rotate_left
          · simp only [Act.put, List.setIfInBounds_toArray, List.set_cons_zero, List.set_cons_succ, i64_w, i32_w]
            rfl
          refine pure_ (i := 3) (N := some 12) (v := ?_) (a' := ?_) #[true, true, true, true, false, false, false, false, false, false, false, false, false, false, false] rfl rfl (any_of HT_.out (by kernel_rfl)) (fun _ _ _ h => h) (Or.inl ⟨by rfl, ?_⟩) ?_ ?_
          rotate_left
          · intro w'
            go_simp
            with_reducible rfl
          rotate_left
          · simp only [Act.put, List.setIfInBounds_toArray, List.set_cons_zero, List.set_cons_succ, i64_w, i32_w]
            rfl
          refine pure_ (i := 4) (N := some 13) (v := ?_) (a' := ?_) #[true, true, true, true, true, false, false, false, false, false, false, false, false, false, false] rfl rfl (any_of HT_.out (by kernel_rfl)) (fun _ _ _ h => h) (Or.inl ⟨by rfl, ?_⟩) ?_ ?_
          rotate_left
          · intro w'
            go_simp
            with_reducible rfl
          rotate_left
          · simp only [Act.put, List.setIfInBounds_toArray, List.set_cons_zero, List.set_cons_succ, i64_w, i32_w]
            rfl
          refine pure_ (i := 5) (N := some 14) (v := ?_) (a' := ?_) #[true, true, true, true, true, true, false, false, false, false, false, false, false, false, false] rfl rfl (any_of HT_.out (by kernel_rfl)) (fun _ _ _ h => h) (Or.inl ⟨by rfl, ?_⟩) ?_ ?_
          rotate_left
          · intro w'
            go_simp
            with_reducible rfl
          rotate_left
          · simp only [Act.put, List.setIfInBounds_toArray, List.set_cons_zero, List.set_cons_succ, i64_w, i32_w]
            rfl
          refine pure_ (i := 6) (N := some 15) (v := ?_) (a' := ?_) #[true, true, true, true, true, true, true, false, false, false, false, false, false, false, false] rfl rfl (any_of HT_.out (by kernel_rfl)) (fun _ _ _ h => h) (Or.inl ⟨by rfl, ?_⟩) ?_ ?_
          rotate_left
          · intro w'
            go_simp
            with_reducible rfl
          rotate_left
          · simp only [Act.put, List.setIfInBounds_toArray, List.set_cons_zero, List.set_cons_succ, i64_w, i32_w]
            rfl
          refine pure_ (i := 8) (N := some 17) (v := ?_) (a' := ?_) #[true, true, true, true, true, true, true, false, true, false, false, false, false, false, false] rfl rfl (any_of HT_.out (by kernel_rfl)) (fun _ _ _ h => h) (Or.inl ⟨by rfl, ?_⟩) ?_ ?_
          rotate_left
          · intro w'
            go_simp
            with_reducible rfl
          rotate_left
          · simp only [Act.put, List.setIfInBounds_toArray, List.set_cons_zero, List.set_cons_succ, i64_w, i32_w]
            rfl
          refine pure_ (i := 9) (N := some 18) (v := ?_) (a' := ?_) #[true, true, true, true, true, true, true, false, true, true, false, false, false, false, false] rfl rfl (any_of HT_.out (by kernel_rfl)) (fun _ _ _ h => h) (Or.inl ⟨by rfl, ?_⟩) ?_ ?_
          rotate_left
          · intro w'
            go_simp
            with_reducible rfl
          rotate_left
          · simp only [Act.put, List.setIfInBounds_toArray, List.set_cons_zero, List.set_cons_succ, i64_w, i32_w]
            rfl
          refine pure_ (i := 10) (N := some 19) (v := ?_) (a' := ?_) #[true, true, true, true, true, true, true, false, true, true, true, false, false, false, false] rfl rfl (any_of HT_.out (by kernel_rfl)) (fun _ _ _ h => h) (Or.inl ⟨by rfl, ?_⟩) ?_ ?_
          rotate_left
          · intro w'
            go_simp
            with_reducible rfl
          rotate_left
          · simp only [Act.put, List.setIfInBounds_toArray, List.set_cons_zero, List.set_cons_succ, i64_w, i32_w]
            rfl
          refine pure_ (i := 11) (N := some 20) (v := ?_) (a' := ?_) #[true, true, true, true, true, true, true, false, true, true, true, true, false, false, false] rfl rfl (any_of HT_.out (by kernel_rfl)) (fun _ _ _ h => h) (Or.inl ⟨by rfl, ?_⟩) ?_ ?_
          rotate_left
          · intro w'
            go_simp
            with_reducible rfl
          rotate_left
          · simp only [Act.put, List.setIfInBounds_toArray, List.set_cons_zero, List.set_cons_succ, i64_w, i32_w]
            rfl
          refine take_ (i := 7) (N := some 16) (v := ?_) (a' := ?_) #[true, true, true, true, true, true, true, true, true, true, true, true, false, false, false] rfl rfl (take_ofW HT_.out HW_.out (by kernel_rfl)) (fun _ _ _ h => h) (Or.inl ⟨by rfl, ?_⟩) hHeld ?_ ?_
          rotate_left
          · intro w' s0
            go_simp
            with_reducible rfl
          rotate_left
          · simp only [Act.put, List.setIfInBounds_toArray, List.set_cons_zero, List.set_cons_succ, i64_w, i32_w]
            rfl
          refine pure_ (i := 12) (N := some 21) (v := ?_) (a' := ?_) #[true, true, true, true, true, true, true, true, true, true, true, true, true, false, false] rfl rfl (any_of HT_.out (by kernel_rfl)) (fun _ _ _ h => h) (Or.inl ⟨by rfl, ?_⟩) ?_ ?_
          rotate_left
          · intro w'
            go_simp
            with_reducible rfl
          rotate_left
          · simp only [Act.put, List.setIfInBounds_toArray, List.set_cons_zero, List.set_cons_succ, i64_w, i32_w]
            rfl
          refine pure_ (i := 13) (N := some 22) (v := ?_) (a' := ?_) #[true, true, true, true, true, true, true, true, true, true, true, true, true, true, false] rfl rfl (any_of HT_.out (by kernel_rfl)) (fun _ _ _ h => h) (Or.inl ⟨by rfl, ?_⟩) ?_ ?_
          rotate_left
          · intro w'
            go_simp
            with_reducible rfl
          rotate_left
          · simp only [Act.put, List.setIfInBounds_toArray, List.set_cons_zero, List.set_cons_succ, i64_w, i32_w]
            rfl
          refine last_ (i := 14) (N := none) #[true, true, true, true, true, true, true, true, true, true, true, true, true, true, true] rfl rfl (one_of HT_.out (by kernel_rfl)) (by decide) (fun K hK => ?_)
          refine skip_ (w1 := ?_) (by rfl) rfl ?_ ?_
          rotate_left
          · go_simp
            rfl
          refine hK.out _ _ ?_
          clear hK K
          refine done_ (done_of HT_.out (by kernel_rfl)) ?_
          try go_wp2
          go_ret
          exact ⟨_, by first | rfl | (simp [errW_none, errW_some] <;> rfl) | (simp only [← hji4, ← hji7, ← hji9]; first | rfl | (simp [errW_none, errW_some] <;> rfl)) | (simp [*, errW_none, errW_some] <;> rfl), by (with_reducible repeat (first | apply Kd.R_alloc | apply Kd.R_drewN | apply Kd.R_drew)); exact HQ16.out, by repeat (first | (with_reducible first | exact HB.out | apply below_alloc | apply pw_below_drewN | apply below_drew1 | refine below_set ?_ GB10.out) | exact HB.out)⟩
        · rw [if_neg c8] at H
          exact absurd H (by simp)
      · rw [if_neg c6] at H
        exact absurd H (by simp)
    · rw [if_neg c5] at H
      exact absurd H (by simp)
  · rw [if_neg c3] at H
    exact absurd H (by simp)

end Go.Proofs.Ytookabfmbimnoaa.Lk

namespace Go.Proofs.Ytookabfmbimnoaa.Lk
open Go.RowKit Go.Proofs.YtookabfmbimnoaaW.PrintWords Go.Proofs.YtookabfmbimnoaaW.PrintLast Go.Proofs.YtookabfmbimnoaaW.PrintMore
attribute [local go_sem] max2_int min2_int max_two min_two max_three min_three max_four min_four   -- for this text's walks alone
set_option linter.unusedVariables false
set_option linter.unusedSimpArgs false

def spec_PassWire.l0 : Nat → List Int → List (List Int) → List (List Int) → List Int → Int → Option ((List (List Int)))
  | 0, _, _, _, _, _ => none
  | k + 1, x0, x1, x5, x6, x7 => if x7 < (x6.length : Int) then ((some (([] : List Int) : List Int)).bind fun y355 => (if 0 ≤ x7 then (if 0 ≤ (rd x6 x7) then (if (rd x6 x7) < (x1.length : Int) then (if y355.length + (rd_L2 x1 (rd x6 x7)).length < 140737488355328 then ((some (y355 ++ (rd_L2 x1 (rd x6 x7)) : List Int)).bind fun y360 => ((spec_l4Fate.f x0 (rd x6 x7)).bind fun t364 => (if t364 = 4 then (if (y360.length : Int) > 0 then ((spec_l1Flip.f y360 0).bind fun t365 => (if x5.length < 5864062014805 then (spec_PassWire.l0 k x0 x1 (x5 ++ [t365]) x6 (wrap64 (x7 + 1))) else (none))) else (if x5.length < 5864062014805 then (spec_PassWire.l0 k x0 x1 (x5 ++ [y360]) x6 (wrap64 (x7 + 1))) else (none))) else (if x5.length < 5864062014805 then (spec_PassWire.l0 k x0 x1 (x5 ++ [y360]) x6 (wrap64 (x7 + 1))) else (none))))) else (none)) else (none)) else (none)) else (none))) else (some x5)
def spec_PassWire.f (k : Nat) (l0 : List Int) (l1 : List (List Int)) : Option ((List (List Int))) := (some (([] : List (List Int)) : List (List Int))).bind fun y348 => ((spec_l4List.f k l1).bind fun t351 => (if t351 = true then ((spec_ArrivalsOf.f k l0 (l1.length : Int)).bind fun t352 => (spec_PassWire.l0 k l0 l1 y348 t352 0)) else (some y348)))
set_option maxHeartbeats 8000000 in
set_option maxRecDepth 100000 in
theorem spec_PassWire.calls (k : Nat) (A0 : Option Addr) (c0 : Nat) (l0 : List Int) (A1 : Option Addr) (c1 : Nat) (l1 : List (List Int)) (r : List (List Int)) (w : World) (hr0 : Kd.C (Kd.int .i64) w A0 l0.length l0) (hc0 : l0.length ≤ c0) (hr1 : Kd.C (Kd.slice 5 (Kd.int .u8)) w A1 l1.length l1) (hc1 : l1.length ≤ c1) (h : spec_PassWire.f k l0 l1 = some r) :
    Calls Try.prog 74 #[.slice A0 l0.length c0, .slice A1 l1.length c1] w fun e w' => ∃ v0_ : Value, e = .returned (v0_) ∧ Kd.S (Kd.slice 5 (Kd.int .u8)) 22 w' w.heap.size (fun _ => True) v0_ r ∧ Below w.heap.size w w' := by
  have HR0 := Aside0.mk hr0
  have HC0 := Aside0.mk hc0
  clear hr0 hc0
  have HR1 := Aside0.mk hr1
  have HC1 := Aside0.mk hc1
  clear hr1 hc1
  have HB := Aside0.mk (Below.refl w.heap.size w)
  have H : ((some (([] : List (List Int)) : List (List Int))).bind fun y348 => ((spec_l4List.f k l1).bind fun t351 => (if t351 = true then ((spec_ArrivalsOf.f k l0 (l1.length : Int)).bind fun t352 => (spec_PassWire.l0 k l0 l1 y348 t352 0)) else (some y348)))) = some r := h
  clear h
  obtain ⟨y348, hy348⟩ : ∃ y_ : List (List Int), y_ = (([] : List (List Int))) := ⟨_, rfl⟩
  replace H : ((spec_l4List.f k l1).bind fun t351 => (if t351 = true then ((spec_ArrivalsOf.f k l0 (l1.length : Int)).bind fun t352 => (spec_PassWire.l0 k l0 l1 y348 t352 0)) else (some y348))) = some r := by first | (rw [hy348]; with_reducible exact H) | (have H2_ := (Option.bind_some _ _).symm.trans H; rw [hy348]; with_reducible exact H2_) | (have H2_ := (Option.bind_some _ _).symm.trans H; with_reducible exact H2_) | with_reducible exact H | (rw [hy348]; exact H) | exact H
  have Ny348 := Aside0.mk hy348
  clear hy348
  replace H := Option.bind_eq_some_iff.mp H
  obtain ⟨t351, A30, H⟩ := H
  replace H : (if t351 = true then ((spec_ArrivalsOf.f k l0 (l1.length : Int)).bind fun t352 => (spec_PassWire.l0 k l0 l1 y348 t352 0)) else (some y348)) = some r := H
  have A3 := Aside0.mk A30
  clear A30
  by_cases c4 : t351 = true
  · subst c4
    have H1 : ((spec_ArrivalsOf.f k l0 (l1.length : Int)).bind fun t352 => (spec_PassWire.l0 k l0 l1 y348 t352 0)) = some r := by rw [if_pos rfl] at H; exact H
    clear H
    have H := H1
    clear H1
    replace H := Option.bind_eq_some_iff.mp H
    obtain ⟨t352, A50, H⟩ := H
    replace H : (spec_PassWire.l0 k l0 l1 y348 t352 0) = some r := H
    have A5 := Aside0.mk A50
    clear A50
    have H' := Aside0.mk H
    clear H
    go_enter Try.func74, Try.ntmps74
    go_wp2_with (first | ((with_reducible refine gate_dst (N := 9) rfl ?_); (try (refine gate_guard (by rfl) ?_; dsimp only)); refine Kd.S_lit (Kd.slice 5 (Kd.int .u8)) _ 22 ?hg (N := 9) ?hd (xs := ([] : List (List Int))) (inner := []) (ok := fun _ => True) (okp := fun _ => True) ?hr ?hp (fun _ hk => hk) trivial (Below.refl _ _) (Nat.le_refl _) (by simp) ?_; (case hd => rfl); (case hg => rfl); (case hr => first | (go_simp; done) | (go_simp; rfl)); (case hp => exact (Reps.none _ _)); intro v349 w6 ho7 hb hg_ hnew_; clear hg_ hnew_; (first | rw [← Ny348.out] at ho7 | (simp only [Int.reduceToNat] at ho7; rw [← Ny348.out] at ho7)); have n0_ := Aside0.mk (Kd.S_lower ho7 (below_size (by repeat (first | (with_reducible first | exact HB.out | apply below_alloc | apply pw_below_drewN | apply below_drew1) | exact HB.out)))); have n1_ := Aside0.mk (below_step (by repeat (first | (with_reducible first | exact HB.out | apply below_alloc | apply pw_below_drewN | apply below_drew1) | exact HB.out)) hb); clear HB; have HO350 := n0_; have HB := n1_; clear n0_ n1_; clear hb ho7) | ((with_reducible refine gate_callee (f := 88) rfl ?_); refine goesL_ (some 11) rfl rfl Try.func88 (by kernel_rfl) rfl #[.slice A1 l1.length c1] rfl (by (try simp only [List.map_toArray, List.map_cons, List.map_nil]); first | done | rfl | (simp only [List.length_drop, List.length_take]; rfl)) ?_; (with_reducible refine (spec_l4List.calls k _ _ l1 true _ ?side1 ?side2 A3.out).mono ?_); (case side1 => repeat (first | exact (Kd.C_below HR1.out HB.out) | (with_reducible refine Kd.C_alloc ?_ _) | (with_reducible refine Kd.C_drewN ?_ _) | (with_reducible refine Kd.C_drew ?_))); (case side2 => exact HC1.out); rintro e w' ⟨rfl, ⟨nd, rfl⟩⟩; refine ⟨_, rfl, ?_⟩) | ((with_reducible refine gate_callee (f := 89) rfl ?_); refine goesL_ (some 17) rfl rfl Try.func89 (by kernel_rfl) rfl #[.slice A0 l0.length c0, .int .i64 (l1.length : Int)] rfl (by (try simp only [List.map_toArray, List.map_cons, List.map_nil]); first | done | rfl | (simp only [List.length_drop, List.length_take]; rfl)) ?_; (with_reducible refine (spec_ArrivalsOf.calls k _ _ l0 (l1.length : Int) t352 _ ?side1 ?side2 A5.out).mono ?_); (case side1 => repeat (first | exact (Kd.C_below HR0.out (by repeat (first | (with_reducible first | exact HB.out | apply below_alloc | apply pw_below_drewN | apply below_drew1) | exact HB.out))) | (with_reducible refine Kd.C_alloc ?_ _) | (with_reducible refine Kd.C_drewN ?_ _) | (with_reducible refine Kd.C_drew ?_))); (case side2 => exact HC0.out); rintro e w8 ⟨v353, rfl, ho0, hb⟩; refine ⟨_, rfl, ?_⟩; have n0_ := Aside0.mk (Kd.S_below (by (with_reducible repeat (first | apply Kd.S_alloc | apply Kd.S_drewN | apply Kd.S_drew)); exact HO350.out) hb); have n1_ := Aside0.mk (Kd.R_lower ho0 (below_size (by repeat (first | (with_reducible first | exact HB.out | apply below_alloc | apply pw_below_drewN | apply below_drew1) | exact HB.out)))); have n2_ := Aside0.mk (below_step (by repeat (first | (with_reducible first | exact HB.out | apply below_alloc | apply pw_below_drewN | apply below_drew1) | exact HB.out)) hb); clear HO350; clear HB; have HO350 := n0_; have HO354 := n1_; have HB := n2_; clear n0_ n1_ n2_; (try clear hb); (try clear hb2); (try clear hk); (try clear hi); (try clear ho0)))
    go_loopg [5, 7] k (fun kq v5 v7 w' => ∃ (x5_1 : List (List Int)) (x7_1 : Int), v7 = .int .i64 x7_1 ∧ Aside0 (spec_PassWire.l0 kq l0 l1 x5_1 t352 x7_1 = some r) ∧ Aside0 (kq ≤ k) ∧ Aside0 (Kd.S (Kd.slice 5 (Kd.int .u8)) 22 w' w.heap.size (fun _ => True) v5 x5_1) ∧ Aside0 (Kd.R (Kd.int .i64) 3 w' w.heap.size (fun _ => True) v353 t352) ∧ Aside0 (Below w.heap.size w w'))
    case atStart => exact ⟨(y348), (0), (by first | rfl | (simp; done) | (simp [*]; done)), H', ⟨Nat.le_refl _⟩, ⟨by (with_reducible repeat (first | apply Kd.S_alloc | apply Kd.S_drewN | apply Kd.S_drew)); exact HO350.out⟩, ⟨by (with_reducible repeat (first | apply Kd.R_alloc | apply Kd.R_drewN | apply Kd.R_drew)); exact HO354.out⟩, ⟨by repeat (first | (with_reducible first | exact HB.out | apply below_alloc | apply pw_below_drewN | apply below_drew1) | exact HB.out)⟩⟩
    case round =>
      clear H'
      try clear c1
      try clear p2
      try clear c4
      try clear c7
      try clear c8
      obtain ⟨x5_1, x7_1, rfl, HA, HK1, HO_5, HO_6, HB⟩ := hrel
      cases gk with
      | zero => exact absurd HA.out (by simp [spec_PassWire.l0])
      | succ k1 =>
        have H := HA.out
        clear HA
        simp only [spec_PassWire.l0] at H
        by_cases c9 : x7_1 < (t352.length : Int)
        · rw [if_pos c9] at H
          have c9b0 : decide (x7_1 < (t352.length : Int)) = true := decide_eq_true c9
          clear c9
          obtain ⟨y355, hy355⟩ : ∃ y_ : List Int, y_ = (([] : List Int)) := ⟨_, rfl⟩
          replace H : (if 0 ≤ x7_1 then (if 0 ≤ (rd t352 x7_1) then (if (rd t352 x7_1) < (l1.length : Int) then (if y355.length + (rd_L2 l1 (rd t352 x7_1)).length < 140737488355328 then ((some (y355 ++ (rd_L2 l1 (rd t352 x7_1)) : List Int)).bind fun y360 => ((spec_l4Fate.f l0 (rd t352 x7_1)).bind fun t364 => (if t364 = 4 then (if (y360.length : Int) > 0 then ((spec_l1Flip.f y360 0).bind fun t365 => (if x5_1.length < 5864062014805 then (spec_PassWire.l0 k1 l0 l1 (x5_1 ++ [t365]) t352 (wrap64 (x7_1 + 1))) else (none))) else (if x5_1.length < 5864062014805 then (spec_PassWire.l0 k1 l0 l1 (x5_1 ++ [y360]) t352 (wrap64 (x7_1 + 1))) else (none))) else (if x5_1.length < 5864062014805 then (spec_PassWire.l0 k1 l0 l1 (x5_1 ++ [y360]) t352 (wrap64 (x7_1 + 1))) else (none))))) else (none)) else (none)) else (none)) else (none)) = some r := by first | (rw [hy355]; with_reducible exact H) | (have H2_ := (Option.bind_some _ _).symm.trans H; rw [hy355]; with_reducible exact H2_) | (have H2_ := (Option.bind_some _ _).symm.trans H; with_reducible exact H2_) | with_reducible exact H | (rw [hy355]; exact H) | exact H
          have Ny355 := Aside0.mk hy355
          clear hy355
          by_cases c10 : 0 ≤ x7_1
          · rw [if_pos c10] at H
            have c10b0 : decide (0 ≤ x7_1) = true := decide_eq_true c10
            clear c10
            by_cases c11 : 0 ≤ (rd t352 x7_1)
            · rw [if_pos c11] at H
              have c11b0 : decide (0 ≤ (rd t352 x7_1)) = true := decide_eq_true c11
              clear c11
              by_cases c12 : (rd t352 x7_1) < (l1.length : Int)
              · rw [if_pos c12] at H
                have c12b0 : decide ((rd t352 x7_1) < (l1.length : Int)) = true := decide_eq_true c12
                clear c12
                by_cases c13 : y355.length + (rd_L2 l1 (rd t352 x7_1)).length < 140737488355328
                · rw [if_pos c13] at H
                  have LMc13 := Aside0.mk c13
                  clear c13
                  obtain ⟨y360, hy360⟩ : ∃ y_ : List Int, y_ = (y355 ++ (rd_L2 l1 (rd t352 x7_1))) := ⟨_, rfl⟩
                  replace H : ((spec_l4Fate.f l0 (rd t352 x7_1)).bind fun t364 => (if t364 = 4 then (if (y360.length : Int) > 0 then ((spec_l1Flip.f y360 0).bind fun t365 => (if x5_1.length < 5864062014805 then (spec_PassWire.l0 k1 l0 l1 (x5_1 ++ [t365]) t352 (wrap64 (x7_1 + 1))) else (none))) else (if x5_1.length < 5864062014805 then (spec_PassWire.l0 k1 l0 l1 (x5_1 ++ [y360]) t352 (wrap64 (x7_1 + 1))) else (none))) else (if x5_1.length < 5864062014805 then (spec_PassWire.l0 k1 l0 l1 (x5_1 ++ [y360]) t352 (wrap64 (x7_1 + 1))) else (none)))) = some r := by first | (rw [hy360]; with_reducible exact H) | (have H2_ := (Option.bind_some _ _).symm.trans H; rw [hy360]; with_reducible exact H2_) | (have H2_ := (Option.bind_some _ _).symm.trans H; with_reducible exact H2_) | with_reducible exact H | (rw [hy360]; exact H) | exact H
                  have Ny360 := Aside0.mk hy360
                  clear hy360
                  replace H := Option.bind_eq_some_iff.mp H
                  obtain ⟨t364, A140, H⟩ := H
                  replace H : (if t364 = 4 then (if (y360.length : Int) > 0 then ((spec_l1Flip.f y360 0).bind fun t365 => (if x5_1.length < 5864062014805 then (spec_PassWire.l0 k1 l0 l1 (x5_1 ++ [t365]) t352 (wrap64 (x7_1 + 1))) else (none))) else (if x5_1.length < 5864062014805 then (spec_PassWire.l0 k1 l0 l1 (x5_1 ++ [y360]) t352 (wrap64 (x7_1 + 1))) else (none))) else (if x5_1.length < 5864062014805 then (spec_PassWire.l0 k1 l0 l1 (x5_1 ++ [y360]) t352 (wrap64 (x7_1 + 1))) else (none))) = some r := H
                  have A14 := Aside0.mk A140
                  clear A140
                  by_cases c15 : t364 = 4
                  · rw [if_pos c15] at H
                    have c15b0 : (t364 == 4) = true := beq_iff_eq.mpr c15
                    have c15b1 : (t364 != 4) = false := bne_eq_false_iff_eq.mpr c15
                    clear c15
                    by_cases c16 : (y360.length : Int) > 0
                    · rw [if_pos c16] at H
                      have c16b0 : decide (0 < (y360.length : Int)) = true := decide_eq_true c16
                      have c16b1 : decide (0 < y360.length) = true := decide_eq_true (by omega)
                      clear c16
                      replace H := Option.bind_eq_some_iff.mp H
                      obtain ⟨t365, A170, H⟩ := H
                      replace H : (if x5_1.length < 5864062014805 then (spec_PassWire.l0 k1 l0 l1 (x5_1 ++ [t365]) t352 (wrap64 (x7_1 + 1))) else (none)) = some r := H
                      have A17 := Aside0.mk A170
                      clear A170
                      by_cases c18 : x5_1.length < 5864062014805
                      · rw [if_pos c18] at H
                        have LMc18 := Aside0.mk c18
                        clear c18
                        obtain ⟨y368, hy368⟩ : ∃ y_ : List (List Int), y_ = (x5_1 ++ [t365]) := ⟨_, rfl⟩
                        replace H : (spec_PassWire.l0 k1 l0 l1 y368 t352 (wrap64 (x7_1 + 1))) = some r := by first | (rw [hy368]; with_reducible exact H) | (have H2_ := (Option.bind_some _ _).symm.trans H; rw [hy368]; with_reducible exact H2_) | (have H2_ := (Option.bind_some _ _).symm.trans H; with_reducible exact H2_) | with_reducible exact H | (rw [hy368]; exact H) | exact H
                        have Ny368 := Aside0.mk hy368
                        clear hy368
                        have H' := Aside0.mk H
                        clear H
                        obtain ⟨Ao19, co19, eo19⟩ := Kd.R_slice HO_6.out
                        subst eo19
                        go_wp2_with (first | ((with_reducible refine gate_dst (N := 24) rfl ?_); (try (refine gate_guard (by rfl) ?_; dsimp only)); refine Kd.R_lit (Kd.int .u8) _ 5 ?hg (N := 24) ?hd (xs := ([] : List Int)) (inner := []) (ok := fun _ => True) (okp := fun _ => True) ?hr ?hp (fun _ hk => hk) trivial (Below.refl _ _) (Nat.le_refl _) (by simp) ?_; (case hd => rfl); (case hg => rfl); (case hr => first | (go_simp; done) | (go_simp; rfl)); (case hp => exact (Reps.none _ _)); intro v356 w20 ho21 hb hg_ hnew_; clear hg_ hnew_; (first | rw [← Ny355.out] at ho21 | (simp only [Int.reduceToNat] at ho21; rw [← Ny355.out] at ho21)); have n0_ := Aside0.mk (Kd.S_elder' (by (with_reducible repeat (first | apply Kd.S_alloc | apply Kd.S_drewN | apply Kd.S_drew)); exact HO_5.out) (Kd.R_base ho21) hb); have n1_ := Aside0.mk (Kd.R_below (by (with_reducible repeat (first | apply Kd.R_alloc | apply Kd.R_drewN | apply Kd.R_drew)); exact HO_6.out) hb); have n2_ := Aside0.mk (Kd.R_lower ho21 (below_size (by repeat (first | (with_reducible first | exact HB.out | apply below_alloc | apply pw_below_drewN | apply below_drew1) | exact HB.out)))); have n3_ := Aside0.mk (below_step (by repeat (first | (with_reducible first | exact HB.out | apply below_alloc | apply pw_below_drewN | apply below_drew1) | exact HB.out)) hb); clear HO_5; clear HO_6; clear HB; have HO_5 := n0_; have HO_6 := n1_; have HO357 := n2_; have HB := n3_; clear n0_ n1_ n2_ n3_; clear hb ho21; have p358 : 0 ≤ (x7_1 : Int) := of_decide_eq_true (by first | (with_reducible assumption) | assumption); have q358 : x7_1 < (t352.length : Int) := of_decide_eq_true (by first | (with_reducible assumption) | assumption); obtain ⟨ad358, e358, hx358_0⟩ := Kd.at_int (Kd.R_reads' HO_6.out).2.2 x7_1 p358 q358; cases e358; replace p358 := eq_true p358; replace q358 := eq_true q358; have p359 : 0 ≤ ((rd t352 x7_1) : Int) := of_decide_eq_true (by first | (with_reducible assumption) | assumption); have q359 : (rd t352 x7_1) < (l1.length : Int) := of_decide_eq_true (by first | (with_reducible assumption) | assumption); obtain ⟨ad359, A359_0, c359_0, e359, hx359_0, hl359_0, hi359_0⟩ := at_L2 HR1.out (rd t352 x7_1) p359 q359; cases e359; replace hx359_0 := (HB.out.cell (World.block_lt_of_cell? w _ hx359_0)).trans hx359_0; have HR359_0 := Aside0.mk hi359_0; have HC359_0 := Aside0.mk hl359_0; clear hi359_0 hl359_0; replace p359 := eq_true p359; replace q359 := eq_true q359) | ((with_reducible refine gate_builtin (b := .append) (xs := #[.tmp 24, .tmp 31]) rfl ?_); (try (refine gate_guard (by rfl) ?_; dsimp only)); at_builtin; refine Kd.R_append_rows (Kd.int .u8) (w0 := w) w.heap.size rfl (.tmp 24) (.tmp 31) 22 5 (.int .u8 0) 1 rfl Try.underlying22 info5 rfl (by decide) (by omega) v356 y355 (rd_L2 l1 (rd t352 x7_1)) _ _ _ (fun _ => True) (fun _ => False) rfl rfl ?aO ?aR (fun _ _ h => h) (fun _ h => h.elim) ?aF ?aB ?aS ?aL ?_; (case aR => repeat (first | exact (Kd.C_below HR359_0.out HB.out) | (with_reducible refine Kd.C_alloc ?_ _) | (with_reducible refine Kd.C_drewN ?_ _) | (with_reducible refine Kd.C_drew ?_))); (case aB => exact (by repeat (first | (with_reducible first | exact HB.out | apply below_alloc | apply pw_below_drewN | apply below_drew1) | exact HB.out))); (case aF => exact (fun _ _ => trivial)); (case aO => exact (by (with_reducible repeat (first | apply Kd.R_alloc | apply Kd.R_drewN | apply Kd.R_drew)); exact HO357.out)); (case aS => exact (below_size (by repeat (first | (with_reducible first | exact HB.out | apply below_alloc | apply pw_below_drewN | apply below_drew1) | exact HB.out)))); (case aL => have := LMc13.out; omega); intro v361 w22 ho hb hg hat; rw [← Ny360.out] at ho; have n0_ := Aside0.mk (Kd.S_after (ok := (fun _ => True)) (by (with_reducible repeat (first | apply Kd.S_alloc | apply Kd.S_drewN | apply Kd.S_drew)); exact HO_5.out) hg hat); have n1_ := Aside0.mk (Kd.R_over' (by (with_reducible repeat (first | apply Kd.R_alloc | apply Kd.R_drewN | apply Kd.R_drew)); exact HO_6.out) (Kd.R_typed (by (with_reducible repeat (first | apply Kd.R_alloc | apply Kd.R_drewN | apply Kd.R_drew)); exact HO357.out)) (by decide) hg); have n2_ := Aside0.mk (hb); have n3_ := Aside0.mk (ho); clear HO_5; clear HO_6; clear HB; clear HO357; have HO_5 := n0_; have HO_6 := n1_; have HB := n2_; have HO362 := n3_; clear n0_ n1_ n2_ n3_; clear ho hb hg hat; have p363 : 0 ≤ (x7_1 : Int) := of_decide_eq_true (by first | (with_reducible assumption) | assumption); have q363 : x7_1 < (t352.length : Int) := of_decide_eq_true (by first | (with_reducible assumption) | assumption); obtain ⟨ad363, e363, hx363_0⟩ := Kd.at_int (Kd.R_reads' HO_6.out).2.2 x7_1 p363 q363; obtain rfl : ad358 = ad363 := (by injection e363); replace p363 := eq_true p363; replace q363 := eq_true q363) | ((with_reducible refine gate_callee (f := 90) rfl ?_); refine goesL_ (some 38) rfl rfl Try.func90 (by kernel_rfl) rfl #[.slice A0 l0.length c0, .int .i64 (rd t352 x7_1)] rfl (by (try simp only [List.map_toArray, List.map_cons, List.map_nil]); first | done | rfl | (simp only [List.length_drop, List.length_take]; rfl)) ?_; (with_reducible refine (spec_l4Fate.calls _ _ l0 (rd t352 x7_1) t364 _ ?side1 ?side2 A14.out).mono ?_); (case side1 => repeat (first | exact (Kd.C_below HR0.out HB.out) | (with_reducible refine Kd.C_alloc ?_ _) | (with_reducible refine Kd.C_drewN ?_ _) | (with_reducible refine Kd.C_drew ?_))); (case side2 => exact HC0.out); rintro e w' ⟨rfl, ⟨nd, rfl⟩⟩; refine ⟨_, rfl, ?_⟩; obtain ⟨Ao23, co23, eo23⟩ := Kd.R_slice HO362.out; subst eo23) | ((with_reducible refine gate_callee (f := 91) rfl ?_); refine goesL_ (some 46) rfl rfl Try.func91 (by kernel_rfl) rfl #[.slice Ao23 y360.length co23, .int .i64 0] rfl (by (try simp only [List.map_toArray, List.map_cons, List.map_nil]); first | done | rfl | (simp only [List.length_drop, List.length_take]; rfl)) ?_; (with_reducible refine (spec_l1Flip.calls _ _ y360 0 t365 _ ?side1 ?side2 A17.out).mono ?_); (case side1 => repeat (first | exact (Kd.R_reads' HO362.out).2.2 | (with_reducible refine Kd.C_alloc ?_ _) | (with_reducible refine Kd.C_drewN ?_ _) | (with_reducible refine Kd.C_drew ?_))); (case side2 => exact (Kd.R_reads' HO362.out).2.1); rintro e w24 ⟨v366, rfl, ho0, hb⟩; refine ⟨_, rfl, ?_⟩; have n0_ := Aside0.mk (Kd.S_elder' (by (with_reducible repeat (first | apply Kd.S_alloc | apply Kd.S_drewN | apply Kd.S_drew)); exact HO_5.out) (Kd.R_base ho0) hb); have n1_ := Aside0.mk (Kd.R_below (by (with_reducible repeat (first | apply Kd.R_alloc | apply Kd.R_drewN | apply Kd.R_drew)); exact HO_6.out) hb); have n2_ := Aside0.mk (Kd.R_elder' (by (with_reducible repeat (first | apply Kd.R_alloc | apply Kd.R_drewN | apply Kd.R_drew)); exact HO362.out) (Kd.R_base ho0) hb); have n3_ := Aside0.mk (Kd.R_lower (Kd.R_new' ho0 (Kd.R_lt (by (with_reducible repeat (first | apply Kd.R_alloc | apply Kd.R_drewN | apply Kd.R_drew)); exact HO362.out))) (below_size (by repeat (first | (with_reducible first | exact HB.out | apply below_alloc | apply pw_below_drewN | apply below_drew1) | exact HB.out)))); have n4_ := Aside0.mk (below_step (by repeat (first | (with_reducible first | exact HB.out | apply below_alloc | apply pw_below_drewN | apply below_drew1) | exact HB.out)) hb); clear HO_5; clear HO_6; clear HO362; clear HB; have HO_5 := n0_; have HO_6 := n1_; have HO362 := n2_; have HO367 := n3_; have HB := n4_; clear n0_ n1_ n2_ n3_ n4_; (try clear hb); (try clear hb2); (try clear hk); (try clear hi); (try clear ho0); obtain ⟨Ao26, co26, eo26⟩ := Kd.R_slice HO367.out; subst eo26) | ((with_reducible refine gate_builtin (b := .append) (xs := #[.tmp 47, .tmp 49]) rfl ?_); (try (refine gate_guard (by rfl) ?_; dsimp only)); at_builtin; refine Kd.S_append (Kd.slice 5 (Kd.int .u8)) (w0 := w) w.heap.size rfl (.tmp 47) (.tmp 49) 23 22 (.slice none 0 0) 24 rfl Try.underlying23 info22 rfl (by decide) (by omega) u5 x5_1 t365 [.slice Ao26 t365.length co26] (fun k_ => some k_ ≠ (.slice Ao23 y360.length co23 : Value).ownBlock) (fun k_ => some k_ = (.slice Ao26 t365.length co26 : Value).ownBlock) rfl rfl ?aP (fun k_ hk_ => ((Kd.R_mono (ok' := fun k_ => ((fun k_ => some k_ ≠ (.slice Ao23 y360.length co23 : Value).ownBlock)) k_ ∧ some k_ ≠ (u5 : Value).ownBlock) (Kd.R_apart' (HO367.out) (Kd.S_typed HO_5.out) (by decide)) (fun k_ hk => ⟨hk.1.2, hk.2⟩))).1 k_ hk_.symm) ?aF ?aO ?aB ?aS ?aL ?_; (case aP => exact Kd.M_row (Kd.R_mono (Kd.R_tight rfl (Kd.R_mono (ok' := fun k_ => ((fun k_ => some k_ ≠ (.slice Ao23 y360.length co23 : Value).ownBlock)) k_ ∧ some k_ ≠ (u5 : Value).ownBlock) (Kd.R_apart' (HO367.out) (Kd.S_typed HO_5.out) (by decide)) (fun k_ hk => ⟨hk.1.2, hk.2⟩))) (fun _ h_ => h_))); (case aB => exact (by repeat (first | (with_reducible first | exact HB.out | apply below_alloc | apply pw_below_drewN | apply below_drew1) | exact HB.out))); (case aF => exact (fun k_ hk => Kd.fresh' (Kd.R_lt (by (with_reducible repeat (first | apply Kd.R_alloc | apply Kd.R_drewN | apply Kd.R_drew)); exact HO362.out)) k_ hk)); (case aO => exact (by (with_reducible repeat (first | apply Kd.S_alloc | apply Kd.S_drewN | apply Kd.S_drew)); exact Kd.S_mono HO_5.out (fun k_ hk => ⟨hk.1.2, fun e_ => hk.2 e_⟩))); (case aS => exact (below_size (by repeat (first | (with_reducible first | exact HB.out | apply below_alloc | apply pw_below_drewN | apply below_drew1) | exact HB.out)))); (case aL => have := LMc18.out; omega); intro v369 w25 ho hb hg hat; rw [← Ny368.out] at ho; have n0_ := Aside0.mk (Kd.R_over' (by (with_reducible repeat (first | apply Kd.R_alloc | apply Kd.R_drewN | apply Kd.R_drew)); exact HO_6.out) (Kd.S_typed (by (with_reducible repeat (first | apply Kd.S_alloc | apply Kd.S_drewN | apply Kd.S_drew)); exact HO_5.out)) (by decide) hg); have n1_ := Aside0.mk (Kd.R_over' (by (with_reducible repeat (first | apply Kd.R_alloc | apply Kd.R_drewN | apply Kd.R_drew)); exact HO362.out) (Kd.S_typed (by (with_reducible repeat (first | apply Kd.S_alloc | apply Kd.S_drewN | apply Kd.S_drew)); exact HO_5.out)) (by decide) hg); have n2_ := Aside0.mk (hb); have n3_ := Aside0.mk (ho); clear HO_6; clear HO362; clear HB; clear HO_5; clear HO367; have HO_6 := n0_; have HO362 := n1_; have HB := n2_; have HO370 := n3_; clear n0_ n1_ n2_ n3_; clear ho hb hg hat))
                        go_roundg k1
                        case measure => have := HK1.out; omega
                        case rel => exact ⟨(y368), (wrap64 (x7_1 + 1)), (by first | rfl | (simp; done) | (simp [*]; done)), H', ⟨by have := HK1.out; omega⟩, ⟨by (with_reducible repeat (first | apply Kd.S_alloc | apply Kd.S_drewN | apply Kd.S_drew)); exact Kd.S_mono HO370.out (fun _ hk => trivial)⟩, ⟨by (with_reducible repeat (first | apply Kd.R_alloc | apply Kd.R_drewN | apply Kd.R_drew)); exact HO_6.out⟩, ⟨by repeat (first | (with_reducible first | exact HB.out | apply below_alloc | apply pw_below_drewN | apply below_drew1) | exact HB.out)⟩⟩
                      · rw [if_neg c18] at H
                        exact absurd H (by simp)
                    · rw [if_neg c16] at H
                      have c16b0 : decide (0 < (y360.length : Int)) = false := decide_eq_false c16
                      have c16b1 : decide (0 < y360.length) = false := decide_eq_false (by omega)
                      clear c16
                      by_cases c27 : x5_1.length < 5864062014805
                      · rw [if_pos c27] at H
                        have LMc27 := Aside0.mk c27
                        clear c27
                        obtain ⟨y371, hy371⟩ : ∃ y_ : List (List Int), y_ = (x5_1 ++ [y360]) := ⟨_, rfl⟩
                        replace H : (spec_PassWire.l0 k1 l0 l1 y371 t352 (wrap64 (x7_1 + 1))) = some r := by first | (rw [hy371]; with_reducible exact H) | (have H2_ := (Option.bind_some _ _).symm.trans H; rw [hy371]; with_reducible exact H2_) | (have H2_ := (Option.bind_some _ _).symm.trans H; with_reducible exact H2_) | with_reducible exact H | (rw [hy371]; exact H) | exact H
                        have Ny371 := Aside0.mk hy371
                        clear hy371
                        have H' := Aside0.mk H
                        clear H
                        obtain ⟨Ao28, co28, eo28⟩ := Kd.R_slice HO_6.out
                        subst eo28
                        go_wp2_with (first | ((with_reducible refine gate_dst (N := 24) rfl ?_); (try (refine gate_guard (by rfl) ?_; dsimp only)); refine Kd.R_lit (Kd.int .u8) _ 5 ?hg (N := 24) ?hd (xs := ([] : List Int)) (inner := []) (ok := fun _ => True) (okp := fun _ => True) ?hr ?hp (fun _ hk => hk) trivial (Below.refl _ _) (Nat.le_refl _) (by simp) ?_; (case hd => rfl); (case hg => rfl); (case hr => first | (go_simp; done) | (go_simp; rfl)); (case hp => exact (Reps.none _ _)); intro v356 w29 ho30 hb hg_ hnew_; clear hg_ hnew_; (first | rw [← Ny355.out] at ho30 | (simp only [Int.reduceToNat] at ho30; rw [← Ny355.out] at ho30)); have n0_ := Aside0.mk (Kd.S_elder' (by (with_reducible repeat (first | apply Kd.S_alloc | apply Kd.S_drewN | apply Kd.S_drew)); exact HO_5.out) (Kd.R_base ho30) hb); have n1_ := Aside0.mk (Kd.R_below (by (with_reducible repeat (first | apply Kd.R_alloc | apply Kd.R_drewN | apply Kd.R_drew)); exact HO_6.out) hb); have n2_ := Aside0.mk (Kd.R_lower ho30 (below_size (by repeat (first | (with_reducible first | exact HB.out | apply below_alloc | apply pw_below_drewN | apply below_drew1) | exact HB.out)))); have n3_ := Aside0.mk (below_step (by repeat (first | (with_reducible first | exact HB.out | apply below_alloc | apply pw_below_drewN | apply below_drew1) | exact HB.out)) hb); clear HO_5; clear HO_6; clear HB; have HO_5 := n0_; have HO_6 := n1_; have HO357 := n2_; have HB := n3_; clear n0_ n1_ n2_ n3_; clear hb ho30; have p358 : 0 ≤ (x7_1 : Int) := of_decide_eq_true (by first | (with_reducible assumption) | assumption); have q358 : x7_1 < (t352.length : Int) := of_decide_eq_true (by first | (with_reducible assumption) | assumption); obtain ⟨ad358, e358, hx358_0⟩ := Kd.at_int (Kd.R_reads' HO_6.out).2.2 x7_1 p358 q358; cases e358; replace p358 := eq_true p358; replace q358 := eq_true q358; have p359 : 0 ≤ ((rd t352 x7_1) : Int) := of_decide_eq_true (by first | (with_reducible assumption) | assumption); have q359 : (rd t352 x7_1) < (l1.length : Int) := of_decide_eq_true (by first | (with_reducible assumption) | assumption); obtain ⟨ad359, A359_0, c359_0, e359, hx359_0, hl359_0, hi359_0⟩ := at_L2 HR1.out (rd t352 x7_1) p359 q359; cases e359; replace hx359_0 := (HB.out.cell (World.block_lt_of_cell? w _ hx359_0)).trans hx359_0; have HR359_0 := Aside0.mk hi359_0; have HC359_0 := Aside0.mk hl359_0; clear hi359_0 hl359_0; replace p359 := eq_true p359; replace q359 := eq_true q359) | ((with_reducible refine gate_builtin (b := .append) (xs := #[.tmp 24, .tmp 31]) rfl ?_); (try (refine gate_guard (by rfl) ?_; dsimp only)); at_builtin; refine Kd.R_append_rows (Kd.int .u8) (w0 := w) w.heap.size rfl (.tmp 24) (.tmp 31) 22 5 (.int .u8 0) 1 rfl Try.underlying22 info5 rfl (by decide) (by omega) v356 y355 (rd_L2 l1 (rd t352 x7_1)) _ _ _ (fun _ => True) (fun _ => False) rfl rfl ?aO ?aR (fun _ _ h => h) (fun _ h => h.elim) ?aF ?aB ?aS ?aL ?_; (case aR => repeat (first | exact (Kd.C_below HR359_0.out HB.out) | (with_reducible refine Kd.C_alloc ?_ _) | (with_reducible refine Kd.C_drewN ?_ _) | (with_reducible refine Kd.C_drew ?_))); (case aB => exact (by repeat (first | (with_reducible first | exact HB.out | apply below_alloc | apply pw_below_drewN | apply below_drew1) | exact HB.out))); (case aF => exact (fun _ _ => trivial)); (case aO => exact (by (with_reducible repeat (first | apply Kd.R_alloc | apply Kd.R_drewN | apply Kd.R_drew)); exact HO357.out)); (case aS => exact (below_size (by repeat (first | (with_reducible first | exact HB.out | apply below_alloc | apply pw_below_drewN | apply below_drew1) | exact HB.out)))); (case aL => have := LMc13.out; omega); intro v361 w31 ho hb hg hat; rw [← Ny360.out] at ho; have n0_ := Aside0.mk (Kd.S_after (ok := (fun _ => True)) (by (with_reducible repeat (first | apply Kd.S_alloc | apply Kd.S_drewN | apply Kd.S_drew)); exact HO_5.out) hg hat); have n1_ := Aside0.mk (Kd.R_over' (by (with_reducible repeat (first | apply Kd.R_alloc | apply Kd.R_drewN | apply Kd.R_drew)); exact HO_6.out) (Kd.R_typed (by (with_reducible repeat (first | apply Kd.R_alloc | apply Kd.R_drewN | apply Kd.R_drew)); exact HO357.out)) (by decide) hg); have n2_ := Aside0.mk (hb); have n3_ := Aside0.mk (ho); clear HO_5; clear HO_6; clear HB; clear HO357; have HO_5 := n0_; have HO_6 := n1_; have HB := n2_; have HO362 := n3_; clear n0_ n1_ n2_ n3_; clear ho hb hg hat; have p363 : 0 ≤ (x7_1 : Int) := of_decide_eq_true (by first | (with_reducible assumption) | assumption); have q363 : x7_1 < (t352.length : Int) := of_decide_eq_true (by first | (with_reducible assumption) | assumption); obtain ⟨ad363, e363, hx363_0⟩ := Kd.at_int (Kd.R_reads' HO_6.out).2.2 x7_1 p363 q363; obtain rfl : ad358 = ad363 := (by injection e363); replace p363 := eq_true p363; replace q363 := eq_true q363) | ((with_reducible refine gate_callee (f := 90) rfl ?_); refine goesL_ (some 38) rfl rfl Try.func90 (by kernel_rfl) rfl #[.slice A0 l0.length c0, .int .i64 (rd t352 x7_1)] rfl (by (try simp only [List.map_toArray, List.map_cons, List.map_nil]); first | done | rfl | (simp only [List.length_drop, List.length_take]; rfl)) ?_; (with_reducible refine (spec_l4Fate.calls _ _ l0 (rd t352 x7_1) t364 _ ?side1 ?side2 A14.out).mono ?_); (case side1 => repeat (first | exact (Kd.C_below HR0.out HB.out) | (with_reducible refine Kd.C_alloc ?_ _) | (with_reducible refine Kd.C_drewN ?_ _) | (with_reducible refine Kd.C_drew ?_))); (case side2 => exact HC0.out); rintro e w' ⟨rfl, ⟨nd, rfl⟩⟩; refine ⟨_, rfl, ?_⟩; obtain ⟨Ao32, co32, eo32⟩ := Kd.R_slice HO362.out; subst eo32) | ((with_reducible refine gate_builtin (b := .append) (xs := #[.tmp 47, .tmp 49]) rfl ?_); (try (refine gate_guard (by rfl) ?_; dsimp only)); at_builtin; refine Kd.S_append (Kd.slice 5 (Kd.int .u8)) (w0 := w) w.heap.size rfl (.tmp 47) (.tmp 49) 23 22 (.slice none 0 0) 24 rfl Try.underlying23 info22 rfl (by decide) (by omega) u5 x5_1 y360 [.slice Ao32 y360.length co32] (fun _ => True) (fun k_ => some k_ = (.slice Ao32 y360.length co32 : Value).ownBlock) rfl rfl ?aP (fun k_ hk_ => ((Kd.R_mono (ok' := fun k_ => ((fun _ => True)) k_ ∧ some k_ ≠ (u5 : Value).ownBlock) (Kd.R_apart' (HO362.out) (Kd.S_typed HO_5.out) (by decide)) (fun k_ hk => ⟨trivial, hk.2⟩))).1 k_ hk_.symm) ?aF ?aO ?aB ?aS ?aL ?_; (case aP => exact Kd.M_row (Kd.R_mono (Kd.R_tight rfl (Kd.R_mono (ok' := fun k_ => ((fun _ => True)) k_ ∧ some k_ ≠ (u5 : Value).ownBlock) (Kd.R_apart' (HO362.out) (Kd.S_typed HO_5.out) (by decide)) (fun k_ hk => ⟨trivial, hk.2⟩))) (fun _ h_ => h_))); (case aB => exact (by repeat (first | (with_reducible first | exact HB.out | apply below_alloc | apply pw_below_drewN | apply below_drew1) | exact HB.out))); (case aF => exact (fun _ _ => trivial)); (case aO => exact (by (with_reducible repeat (first | apply Kd.S_alloc | apply Kd.S_drewN | apply Kd.S_drew)); exact Kd.S_mono HO_5.out (fun k_ hk => ⟨trivial, fun e_ => hk.2 e_⟩))); (case aS => exact (below_size (by repeat (first | (with_reducible first | exact HB.out | apply below_alloc | apply pw_below_drewN | apply below_drew1) | exact HB.out)))); (case aL => have := LMc27.out; omega); intro v372 w33 ho hb hg hat; rw [← Ny371.out] at ho; have n0_ := Aside0.mk (Kd.R_over' (by (with_reducible repeat (first | apply Kd.R_alloc | apply Kd.R_drewN | apply Kd.R_drew)); exact HO_6.out) (Kd.S_typed (by (with_reducible repeat (first | apply Kd.S_alloc | apply Kd.S_drewN | apply Kd.S_drew)); exact HO_5.out)) (by decide) hg); have n1_ := Aside0.mk (hb); have n2_ := Aside0.mk (ho); clear HO_6; clear HB; clear HO_5; clear HO362; have HO_6 := n0_; have HB := n1_; have HO373 := n2_; clear n0_ n1_ n2_; clear ho hb hg hat))
                        go_roundg k1
                        case measure => have := HK1.out; omega
                        case rel => exact ⟨(y371), (wrap64 (x7_1 + 1)), (by first | rfl | (simp; done) | (simp [*]; done)), H', ⟨by have := HK1.out; omega⟩, ⟨by (with_reducible repeat (first | apply Kd.S_alloc | apply Kd.S_drewN | apply Kd.S_drew)); exact HO373.out⟩, ⟨by (with_reducible repeat (first | apply Kd.R_alloc | apply Kd.R_drewN | apply Kd.R_drew)); exact HO_6.out⟩, ⟨by repeat (first | (with_reducible first | exact HB.out | apply below_alloc | apply pw_below_drewN | apply below_drew1) | exact HB.out)⟩⟩
                      · rw [if_neg c27] at H
                        exact absurd H (by simp)
                  · rw [if_neg c15] at H
                    have c15b0 : (t364 == 4) = false := beq_eq_false_iff_ne.mpr c15
                    have c15b1 : (t364 != 4) = true := bne_iff_ne.mpr c15
                    by_cases c34 : x5_1.length < 5864062014805
                    · rw [if_pos c34] at H
                      have LMc34 := Aside0.mk c34
                      clear c34
                      obtain ⟨y374, hy374⟩ : ∃ y_ : List (List Int), y_ = (x5_1 ++ [y360]) := ⟨_, rfl⟩
                      replace H : (spec_PassWire.l0 k1 l0 l1 y374 t352 (wrap64 (x7_1 + 1))) = some r := by first | (rw [hy374]; with_reducible exact H) | (have H2_ := (Option.bind_some _ _).symm.trans H; rw [hy374]; with_reducible exact H2_) | (have H2_ := (Option.bind_some _ _).symm.trans H; with_reducible exact H2_) | with_reducible exact H | (rw [hy374]; exact H) | exact H
                      have Ny374 := Aside0.mk hy374
                      clear hy374
                      have H' := Aside0.mk H
                      clear H
                      obtain ⟨Ao35, co35, eo35⟩ := Kd.R_slice HO_6.out
                      subst eo35
                      go_wp2_with (first | ((with_reducible refine gate_dst (N := 24) rfl ?_); (try (refine gate_guard (by rfl) ?_; dsimp only)); refine Kd.R_lit (Kd.int .u8) _ 5 ?hg (N := 24) ?hd (xs := ([] : List Int)) (inner := []) (ok := fun _ => True) (okp := fun _ => True) ?hr ?hp (fun _ hk => hk) trivial (Below.refl _ _) (Nat.le_refl _) (by simp) ?_; (case hd => rfl); (case hg => rfl); (case hr => first | (go_simp; done) | (go_simp; rfl)); (case hp => exact (Reps.none _ _)); intro v356 w36 ho37 hb hg_ hnew_; clear hg_ hnew_; (first | rw [← Ny355.out] at ho37 | (simp only [Int.reduceToNat] at ho37; rw [← Ny355.out] at ho37)); have n0_ := Aside0.mk (Kd.S_elder' (by (with_reducible repeat (first | apply Kd.S_alloc | apply Kd.S_drewN | apply Kd.S_drew)); exact HO_5.out) (Kd.R_base ho37) hb); have n1_ := Aside0.mk (Kd.R_below (by (with_reducible repeat (first | apply Kd.R_alloc | apply Kd.R_drewN | apply Kd.R_drew)); exact HO_6.out) hb); have n2_ := Aside0.mk (Kd.R_lower ho37 (below_size (by repeat (first | (with_reducible first | exact HB.out | apply below_alloc | apply pw_below_drewN | apply below_drew1) | exact HB.out)))); have n3_ := Aside0.mk (below_step (by repeat (first | (with_reducible first | exact HB.out | apply below_alloc | apply pw_below_drewN | apply below_drew1) | exact HB.out)) hb); clear HO_5; clear HO_6; clear HB; have HO_5 := n0_; have HO_6 := n1_; have HO357 := n2_; have HB := n3_; clear n0_ n1_ n2_ n3_; clear hb ho37; have p358 : 0 ≤ (x7_1 : Int) := of_decide_eq_true (by first | (with_reducible assumption) | assumption); have q358 : x7_1 < (t352.length : Int) := of_decide_eq_true (by first | (with_reducible assumption) | assumption); obtain ⟨ad358, e358, hx358_0⟩ := Kd.at_int (Kd.R_reads' HO_6.out).2.2 x7_1 p358 q358; cases e358; replace p358 := eq_true p358; replace q358 := eq_true q358; have p359 : 0 ≤ ((rd t352 x7_1) : Int) := of_decide_eq_true (by first | (with_reducible assumption) | assumption); have q359 : (rd t352 x7_1) < (l1.length : Int) := of_decide_eq_true (by first | (with_reducible assumption) | assumption); obtain ⟨ad359, A359_0, c359_0, e359, hx359_0, hl359_0, hi359_0⟩ := at_L2 HR1.out (rd t352 x7_1) p359 q359; cases e359; replace hx359_0 := (HB.out.cell (World.block_lt_of_cell? w _ hx359_0)).trans hx359_0; have HR359_0 := Aside0.mk hi359_0; have HC359_0 := Aside0.mk hl359_0; clear hi359_0 hl359_0; replace p359 := eq_true p359; replace q359 := eq_true q359) | ((with_reducible refine gate_builtin (b := .append) (xs := #[.tmp 24, .tmp 31]) rfl ?_); (try (refine gate_guard (by rfl) ?_; dsimp only)); at_builtin; refine Kd.R_append_rows (Kd.int .u8) (w0 := w) w.heap.size rfl (.tmp 24) (.tmp 31) 22 5 (.int .u8 0) 1 rfl Try.underlying22 info5 rfl (by decide) (by omega) v356 y355 (rd_L2 l1 (rd t352 x7_1)) _ _ _ (fun _ => True) (fun _ => False) rfl rfl ?aO ?aR (fun _ _ h => h) (fun _ h => h.elim) ?aF ?aB ?aS ?aL ?_; (case aR => repeat (first | exact (Kd.C_below HR359_0.out HB.out) | (with_reducible refine Kd.C_alloc ?_ _) | (with_reducible refine Kd.C_drewN ?_ _) | (with_reducible refine Kd.C_drew ?_))); (case aB => exact (by repeat (first | (with_reducible first | exact HB.out | apply below_alloc | apply pw_below_drewN | apply below_drew1) | exact HB.out))); (case aF => exact (fun _ _ => trivial)); (case aO => exact (by (with_reducible repeat (first | apply Kd.R_alloc | apply Kd.R_drewN | apply Kd.R_drew)); exact HO357.out)); (case aS => exact (below_size (by repeat (first | (with_reducible first | exact HB.out | apply below_alloc | apply pw_below_drewN | apply below_drew1) | exact HB.out)))); (case aL => have := LMc13.out; omega); intro v361 w38 ho hb hg hat; rw [← Ny360.out] at ho; have n0_ := Aside0.mk (Kd.S_after (ok := (fun _ => True)) (by (with_reducible repeat (first | apply Kd.S_alloc | apply Kd.S_drewN | apply Kd.S_drew)); exact HO_5.out) hg hat); have n1_ := Aside0.mk (Kd.R_over' (by (with_reducible repeat (first | apply Kd.R_alloc | apply Kd.R_drewN | apply Kd.R_drew)); exact HO_6.out) (Kd.R_typed (by (with_reducible repeat (first | apply Kd.R_alloc | apply Kd.R_drewN | apply Kd.R_drew)); exact HO357.out)) (by decide) hg); have n2_ := Aside0.mk (hb); have n3_ := Aside0.mk (ho); clear HO_5; clear HO_6; clear HB; clear HO357; have HO_5 := n0_; have HO_6 := n1_; have HB := n2_; have HO362 := n3_; clear n0_ n1_ n2_ n3_; clear ho hb hg hat; have p363 : 0 ≤ (x7_1 : Int) := of_decide_eq_true (by first | (with_reducible assumption) | assumption); have q363 : x7_1 < (t352.length : Int) := of_decide_eq_true (by first | (with_reducible assumption) | assumption); obtain ⟨ad363, e363, hx363_0⟩ := Kd.at_int (Kd.R_reads' HO_6.out).2.2 x7_1 p363 q363; obtain rfl : ad358 = ad363 := (by injection e363); replace p363 := eq_true p363; replace q363 := eq_true q363) | ((with_reducible refine gate_callee (f := 90) rfl ?_); refine goesL_ (some 38) rfl rfl Try.func90 (by kernel_rfl) rfl #[.slice A0 l0.length c0, .int .i64 (rd t352 x7_1)] rfl (by (try simp only [List.map_toArray, List.map_cons, List.map_nil]); first | done | rfl | (simp only [List.length_drop, List.length_take]; rfl)) ?_; (with_reducible refine (spec_l4Fate.calls _ _ l0 (rd t352 x7_1) t364 _ ?side1 ?side2 A14.out).mono ?_); (case side1 => repeat (first | exact (Kd.C_below HR0.out HB.out) | (with_reducible refine Kd.C_alloc ?_ _) | (with_reducible refine Kd.C_drewN ?_ _) | (with_reducible refine Kd.C_drew ?_))); (case side2 => exact HC0.out); rintro e w' ⟨rfl, ⟨nd, rfl⟩⟩; refine ⟨_, rfl, ?_⟩; obtain ⟨Ao40, co40, eo40⟩ := Kd.R_slice HO362.out; subst eo40) | ((with_reducible refine gate_builtin (b := .append) (xs := #[.tmp 47, .tmp 49]) rfl ?_); (try (refine gate_guard (by rfl) ?_; dsimp only)); at_builtin; refine Kd.S_append (Kd.slice 5 (Kd.int .u8)) (w0 := w) w.heap.size rfl (.tmp 47) (.tmp 49) 23 22 (.slice none 0 0) 24 rfl Try.underlying23 info22 rfl (by decide) (by omega) u5 x5_1 y360 [.slice Ao40 y360.length co40] (fun _ => True) (fun k_ => some k_ = (.slice Ao40 y360.length co40 : Value).ownBlock) rfl rfl ?aP (fun k_ hk_ => ((Kd.R_mono (ok' := fun k_ => ((fun _ => True)) k_ ∧ some k_ ≠ (u5 : Value).ownBlock) (Kd.R_apart' (HO362.out) (Kd.S_typed HO_5.out) (by decide)) (fun k_ hk => ⟨trivial, hk.2⟩))).1 k_ hk_.symm) ?aF ?aO ?aB ?aS ?aL ?_; (case aP => exact Kd.M_row (Kd.R_mono (Kd.R_tight rfl (Kd.R_mono (ok' := fun k_ => ((fun _ => True)) k_ ∧ some k_ ≠ (u5 : Value).ownBlock) (Kd.R_apart' (HO362.out) (Kd.S_typed HO_5.out) (by decide)) (fun k_ hk => ⟨trivial, hk.2⟩))) (fun _ h_ => h_))); (case aB => exact (by repeat (first | (with_reducible first | exact HB.out | apply below_alloc | apply pw_below_drewN | apply below_drew1) | exact HB.out))); (case aF => exact (fun _ _ => trivial)); (case aO => exact (by (with_reducible repeat (first | apply Kd.S_alloc | apply Kd.S_drewN | apply Kd.S_drew)); exact Kd.S_mono HO_5.out (fun k_ hk => ⟨trivial, fun e_ => hk.2 e_⟩))); (case aS => exact (below_size (by repeat (first | (with_reducible first | exact HB.out | apply below_alloc | apply pw_below_drewN | apply below_drew1) | exact HB.out)))); (case aL => have := LMc34.out; omega); intro v375 w39 ho hb hg hat; rw [← Ny374.out] at ho; have n0_ := Aside0.mk (Kd.R_over' (by (with_reducible repeat (first | apply Kd.R_alloc | apply Kd.R_drewN | apply Kd.R_drew)); exact HO_6.out) (Kd.S_typed (by (with_reducible repeat (first | apply Kd.S_alloc | apply Kd.S_drewN | apply Kd.S_drew)); exact HO_5.out)) (by decide) hg); have n1_ := Aside0.mk (hb); have n2_ := Aside0.mk (ho); clear HO_6; clear HB; clear HO_5; clear HO362; have HO_6 := n0_; have HB := n1_; have HO376 := n2_; clear n0_ n1_ n2_; clear ho hb hg hat))
                      go_roundg k1
                      case measure => have := HK1.out; omega
                      case rel => exact ⟨(y374), (wrap64 (x7_1 + 1)), (by first | rfl | (simp; done) | (simp [*]; done)), H', ⟨by have := HK1.out; omega⟩, ⟨by (with_reducible repeat (first | apply Kd.S_alloc | apply Kd.S_drewN | apply Kd.S_drew)); exact HO376.out⟩, ⟨by (with_reducible repeat (first | apply Kd.R_alloc | apply Kd.R_drewN | apply Kd.R_drew)); exact HO_6.out⟩, ⟨by repeat (first | (with_reducible first | exact HB.out | apply below_alloc | apply pw_below_drewN | apply below_drew1) | exact HB.out)⟩⟩
                    · rw [if_neg c34] at H
                      exact absurd H (by simp)
                · rw [if_neg c13] at H
                  exact absurd H (by simp)
              · rw [if_neg c12] at H
                exact absurd H (by simp)
            · rw [if_neg c11] at H
              exact absurd H (by simp)
          · rw [if_neg c10] at H
            exact absurd H (by simp)
        · rw [if_neg c9] at H
          have c9b0 : decide (x7_1 < (t352.length : Int)) = false := decide_eq_false c9
          clear c9
          obtain rfl := Option.some.inj H
          obtain ⟨Ao41, co41, eo41⟩ := Kd.R_slice HO_6.out
          subst eo41
          go_wp2
          go_ret
          exact ⟨_, by first | rfl | (simp [errW_none, errW_some] <;> rfl) | (simp [*, errW_none, errW_some] <;> rfl), by (with_reducible repeat (first | apply Kd.S_alloc | apply Kd.S_drewN | apply Kd.S_drew)); exact HO_5.out, by repeat (first | (with_reducible first | exact HB.out | apply below_alloc | apply pw_below_drewN | apply below_drew1) | exact HB.out)⟩
  · replace c4 := Bool.eq_false_iff.mpr c4
    subst c4
    have H1 : (some y348) = some r := by rw [if_neg (show ¬ (false = true) by decide)] at H; exact H
    clear H
    have H := H1
    clear H1
    obtain rfl := Option.some.inj H
    go_enter Try.func74, Try.ntmps74
    go_wp2_with (first | ((with_reducible refine gate_dst (N := 9) rfl ?_); (try (refine gate_guard (by rfl) ?_; dsimp only)); refine Kd.S_lit (Kd.slice 5 (Kd.int .u8)) _ 22 ?hg (N := 9) ?hd (xs := ([] : List (List Int))) (inner := []) (ok := fun _ => True) (okp := fun _ => True) ?hr ?hp (fun _ hk => hk) trivial (Below.refl _ _) (Nat.le_refl _) (by simp) ?_; (case hd => rfl); (case hg => rfl); (case hr => first | (go_simp; done) | (go_simp; rfl)); (case hp => exact (Reps.none _ _)); intro v349 w42 ho43 hb hg_ hnew_; clear hg_ hnew_; (first | rw [← Ny348.out] at ho43 | (simp only [Int.reduceToNat] at ho43; rw [← Ny348.out] at ho43)); have n0_ := Aside0.mk (Kd.S_lower ho43 (below_size (by repeat (first | (with_reducible first | exact HB.out | apply below_alloc | apply pw_below_drewN | apply below_drew1) | exact HB.out)))); have n1_ := Aside0.mk (below_step (by repeat (first | (with_reducible first | exact HB.out | apply below_alloc | apply pw_below_drewN | apply below_drew1) | exact HB.out)) hb); clear HB; have HO350 := n0_; have HB := n1_; clear n0_ n1_; clear hb ho43) | ((with_reducible refine gate_callee (f := 88) rfl ?_); refine goesL_ (some 11) rfl rfl Try.func88 (by kernel_rfl) rfl #[.slice A1 l1.length c1] rfl (by (try simp only [List.map_toArray, List.map_cons, List.map_nil]); first | done | rfl | (simp only [List.length_drop, List.length_take]; rfl)) ?_; (with_reducible refine (spec_l4List.calls k _ _ l1 false _ ?side1 ?side2 A3.out).mono ?_); (case side1 => repeat (first | exact (Kd.C_below HR1.out HB.out) | (with_reducible refine Kd.C_alloc ?_ _) | (with_reducible refine Kd.C_drewN ?_ _) | (with_reducible refine Kd.C_drew ?_))); (case side2 => exact HC1.out); rintro e w' ⟨rfl, ⟨nd, rfl⟩⟩; refine ⟨_, rfl, ?_⟩))
    go_ret
    exact ⟨_, by first | rfl | (simp [errW_none, errW_some] <;> rfl) | (simp [*, errW_none, errW_some] <;> rfl), by (with_reducible repeat (first | apply Kd.S_alloc | apply Kd.S_drewN | apply Kd.S_drew)); exact HO350.out, by repeat (first | (with_reducible first | exact HB.out | apply below_alloc | apply pw_below_drewN | apply below_drew1) | exact HB.out)⟩

def spec_l4Behind.f (l0 : List Int) (a1 : Int) : Option (List Int) := (some (([] : List Int) : List Int)).bind fun y377 => (if 0 ≤ (mn a1 (l0.length : Int)) then (if (mn a1 (l0.length : Int)) ≤ (l0.length : Int) then (if y377.length + (l0.drop ((mn a1 (l0.length : Int)) : Int).toNat).length < 17592186044416 then (some (y377 ++ (l0.drop ((mn a1 (l0.length : Int)) : Int).toNat))) else (none)) else (none)) else (none))
set_option maxHeartbeats 8000000 in
set_option maxRecDepth 100000 in
theorem spec_l4Behind.calls (A0 : Option Addr) (c0 : Nat) (l0 : List Int) (a1 : Int) (r : List Int) (w : World) (hr0 : Kd.C (Kd.int .i64) w A0 l0.length l0) (hc0 : l0.length ≤ c0) (h : spec_l4Behind.f l0 a1 = some r) :
    Calls Try.prog 75 #[.slice A0 l0.length c0, .int .i64 a1] w fun e w' => ∃ v0_ : Value, e = .returned (v0_) ∧ Kd.R (Kd.int .i64) 3 w' w.heap.size (fun _ => True) v0_ r ∧ Below w.heap.size w w' := by
  have HR0 := Aside0.mk hr0
  have HC0 := Aside0.mk hc0
  clear hr0 hc0
  have HB := Aside0.mk (Below.refl w.heap.size w)
  have H : ((some (([] : List Int) : List Int)).bind fun y377 => (if 0 ≤ (mn a1 (l0.length : Int)) then (if (mn a1 (l0.length : Int)) ≤ (l0.length : Int) then (if y377.length + (l0.drop ((mn a1 (l0.length : Int)) : Int).toNat).length < 17592186044416 then (some (y377 ++ (l0.drop ((mn a1 (l0.length : Int)) : Int).toNat))) else (none)) else (none)) else (none))) = some r := h
  clear h
  obtain ⟨y377, hy377⟩ : ∃ y_ : List Int, y_ = (([] : List Int)) := ⟨_, rfl⟩
  replace H : (if 0 ≤ (mn a1 (l0.length : Int)) then (if (mn a1 (l0.length : Int)) ≤ (l0.length : Int) then (if y377.length + (l0.drop ((mn a1 (l0.length : Int)) : Int).toNat).length < 17592186044416 then (some (y377 ++ (l0.drop ((mn a1 (l0.length : Int)) : Int).toNat))) else (none)) else (none)) else (none)) = some r := by first | (rw [hy377]; with_reducible exact H) | (have H2_ := (Option.bind_some _ _).symm.trans H; rw [hy377]; with_reducible exact H2_) | (have H2_ := (Option.bind_some _ _).symm.trans H; with_reducible exact H2_) | with_reducible exact H | (rw [hy377]; exact H) | exact H
  have Ny377 := Aside0.mk hy377
  clear hy377
  obtain ⟨ji3, hji3⟩ : ∃ j_ : Int, (mn a1 (l0.length : Int)) = j_ := ⟨_, rfl⟩
  replace H : (if 0 ≤ (ji3) then (if (ji3) ≤ (l0.length : Int) then (if y377.length + (l0.drop ((ji3) : Int).toNat).length < 17592186044416 then (some (y377 ++ (l0.drop ((ji3) : Int).toNat))) else (none)) else (none)) else (none)) = some r := by first | (rw [hji3] at H; exact H) | (simp only [hji3] at H ⊢; exact H)
  have hji3_ : (if (l0.length : Int) < a1 then (l0.length : Int) else a1) = ji3 := hji3
  by_cases c4 : 0 ≤ (ji3)
  · rw [if_pos c4] at H
    have c4b0 := eq_true c4
    have c4b1 : decide (0 ≤ (ji3)) = true := decide_eq_true c4
    clear c4
    by_cases c5 : (ji3) ≤ (l0.length : Int)
    · rw [if_pos c5] at H
      have c5b0 := eq_true c5
      have c5b1 : decide ((ji3) ≤ (l0.length : Int)) = true := decide_eq_true c5
      clear c5
      by_cases c6 : y377.length + (l0.drop ((ji3) : Int).toNat).length < 17592186044416
      · rw [if_pos c6] at H
        have LMc6 := Aside0.mk c6
        clear c6
        obtain ⟨y381, hy381⟩ : ∃ y_ : List Int, y_ = (y377 ++ (l0.drop ((ji3) : Int).toNat)) := ⟨_, rfl⟩
        replace H : (some y381) = some r := by first | (rw [hy381]; with_reducible exact H) | (have H2_ := (Option.bind_some _ _).symm.trans H; rw [hy381]; with_reducible exact H2_) | (have H2_ := (Option.bind_some _ _).symm.trans H; with_reducible exact H2_) | with_reducible exact H | (rw [hy381]; exact H) | exact H
        have Ny381 := Aside0.mk hy381
        clear hy381
        obtain rfl := Option.some.inj H
        go_enter Try.func75, Try.ntmps75
        go_wp2_with (first | ((with_reducible refine gate_dst (N := 5) rfl ?_); refine Kd.R_lit (Kd.int .i64) _ 3 ?hg (N := 5) ?hd (xs := ([] : List Int)) (inner := []) (ok := fun _ => True) (okp := fun _ => True) ?hr ?hp (fun _ hk => hk) trivial (Below.refl _ _) (Nat.le_refl _) (by simp) ?_; (case hd => rfl); (case hg => rfl); (case hr => first | (go_simp; done) | (go_simp; rfl)); (case hp => exact (Reps.none _ _)); intro v378 w7 ho8 hb hg_ hnew_; clear hg_ hnew_; (first | rw [← Ny377.out] at ho8 | (simp only [Int.reduceToNat] at ho8; rw [← Ny377.out] at ho8)); have n0_ := Aside0.mk (Kd.R_lower ho8 (below_size (by repeat (first | (with_reducible first | exact HB.out | apply below_alloc | apply pw_below_drewN | apply below_drew1) | exact HB.out)))); have n1_ := Aside0.mk (below_step (by repeat (first | (with_reducible first | exact HB.out | apply below_alloc | apply pw_below_drewN | apply below_drew1) | exact HB.out)) hb); clear HB; have HO379 := n0_; have HB := n1_; clear n0_ n1_; clear hb ho8; obtain ⟨i09, hi09, _, hsz9, _⟩ := info_parts info3; obtain ⟨A9, hcut9, hA9, hC9⟩ := print_drop_of (P := Try.prog) (Value.int .i64) 0 24 3 .i64 Try.underlying24 hi09 hsz9 A0 c0 l0 (ji3) (of_decide_eq_true (by first | (with_reducible assumption) | assumption)) (of_decide_eq_true (by first | (with_reducible assumption) | assumption)) HC0.out; have HR380 := Aside0.mk (Kd.C_of_reads (h1 := fun _ => rfl) (hA9 _ (Kd.reads_of_C HR0.out))); have HC380 := Aside0.mk hC9; clear hA9 hC9 hi09 hsz9) | ((with_reducible refine gate_builtin (b := .append) (xs := #[.tmp 5, .tmp 11]) rfl ?_); at_builtin; refine Kd.R_append_rows (Kd.int .i64) (w0 := w) w.heap.size rfl (.tmp 5) (.tmp 11) 24 3 (.int .i64 0) 8 rfl Try.underlying24 info3 rfl (by decide) (by omega) v378 y377 (l0.drop ((ji3) : Int).toNat) _ _ _ (fun _ => True) (fun _ => False) rfl rfl ?aO ?aR (fun _ _ h => h) (fun _ h => h.elim) ?aF ?aB ?aS ?aL ?_; (case aR => first | (rw [← show (l0.drop ((ji3) : Int).toNat).length = (l0.length - (ji3).toNat) from List.length_drop]; repeat (first | exact (Kd.C_below HR380.out HB.out) | (with_reducible refine Kd.C_alloc ?_ _) | (with_reducible refine Kd.C_drewN ?_ _) | (with_reducible refine Kd.C_drew ?_))) | (repeat (first | exact (Kd.C_below HR380.out HB.out) | (with_reducible refine Kd.C_alloc ?_ _) | (with_reducible refine Kd.C_drewN ?_ _) | (with_reducible refine Kd.C_drew ?_)))); (case aB => exact (by repeat (first | (with_reducible first | exact HB.out | apply below_alloc | apply pw_below_drewN | apply below_drew1) | exact HB.out))); (case aF => exact (fun _ _ => trivial)); (case aO => exact (by (with_reducible repeat (first | apply Kd.R_alloc | apply Kd.R_drewN | apply Kd.R_drew)); exact HO379.out)); (case aS => exact (below_size (by repeat (first | (with_reducible first | exact HB.out | apply below_alloc | apply pw_below_drewN | apply below_drew1) | exact HB.out)))); (case aL => have := LMc6.out; have hlx_ := (show (l0.drop ((ji3) : Int).toNat).length = (l0.length - (ji3).toNat) from List.length_drop); omega); intro v382 w10 ho hb hg hat; rw [← Ny381.out] at ho; have n0_ := Aside0.mk (hb); have n1_ := Aside0.mk (ho); clear HB; clear HO379; have HB := n0_; have HO383 := n1_; clear n0_ n1_; clear ho hb hg hat))
        go_ret
        exact ⟨_, by first | rfl | (simp [errW_none, errW_some] <;> rfl) | (simp only [← hji3]; first | rfl | (simp [errW_none, errW_some] <;> rfl)) | (simp [*, errW_none, errW_some] <;> rfl), by (with_reducible repeat (first | apply Kd.R_alloc | apply Kd.R_drewN | apply Kd.R_drew)); exact HO383.out, by repeat (first | (with_reducible first | exact HB.out | apply below_alloc | apply pw_below_drewN | apply below_drew1) | exact HB.out)⟩
      · rw [if_neg c6] at H
        exact absurd H (by simp)
    · rw [if_neg c5] at H
      exact absurd H (by simp)
  · rw [if_neg c4] at H
    exact absurd H (by simp)

def laws_szByteS.f (l0 : List Int) (a1 : Int) : Option (Int) := if (wrap64 (a1 - (l0.length : Int))) < 0 then (some (-1)) else (some (wrap64 (a1 - (l0.length : Int))))
set_option maxHeartbeats 8000000 in
set_option maxRecDepth 100000 in
theorem laws_szByteS.calls (A0 : Option Addr) (c0 : Nat) (l0 : List Int) (a1 : Int) (r : Int) (w : World) (hr0 : Kd.C (Kd.int .u8) w A0 l0.length l0) (hc0 : l0.length ≤ c0) (h : laws_szByteS.f l0 a1 = some r) :
    Calls Try.prog 38 #[.slice A0 l0.length c0, .int .i64 a1] w fun e w' => e = .returned (.int .i64 r) ∧ Drawn0 w w' := by
  have HR0 := Aside0.mk hr0
  have HC0 := Aside0.mk hc0
  clear hr0 hc0
  have H : (if (wrap64 (a1 - (l0.length : Int))) < 0 then (some (-1)) else (some (wrap64 (a1 - (l0.length : Int))))) = some r := h
  clear h
  by_cases c3 : (wrap64 (a1 - (l0.length : Int))) < 0
  · rw [if_pos c3] at H
    have c3b0 : decide ((wrap64 (a1 - (l0.length : Int))) < 0) = true := decide_eq_true c3
    clear c3
    obtain rfl := Option.some.inj H
    go_enter Try.func38, Try.ntmps38
    go_wp2
    go_ret
    exact ⟨by first | rfl | (simp; done) | (simp [*]; done), by repeat (first | exact Drawn0.refl _ | apply Drawn0.step)⟩
  · rw [if_neg c3] at H
    have c3b0 : decide ((wrap64 (a1 - (l0.length : Int))) < 0) = false := decide_eq_false c3
    clear c3
    obtain rfl := Option.some.inj H
    go_enter Try.func38, Try.ntmps38
    go_wp2
    go_ret
    exact ⟨by first | rfl | (simp; done) | (simp [*]; done), by repeat (first | exact Drawn0.refl _ | apply Drawn0.step)⟩

def laws_szByteSS.l0 : Nat → List (List Int) → Int → Int → Option (Int)
  | 0, _, _, _ => none
  | k + 1, x0, x1, x5 => if x5 < (x0.length : Int) then (if 0 ≤ x5 then ((laws_szByteS.f (rd_L2 x0 x5) x1).bind fun t453 => (if t453 < 0 then (some (-1)) else (laws_szByteSS.l0 k x0 t453 (wrap64 (x5 + 1))))) else (none)) else (some x1)
def laws_szByteSS.f (k : Nat) (l0 : List (List Int)) (a1 : Int) : Option (Int) := if (wrap64 (a1 - (l0.length : Int))) < 0 then (some (-1)) else (laws_szByteSS.l0 k l0 (wrap64 (a1 - (l0.length : Int))) 0)
set_option maxHeartbeats 8000000 in
set_option maxRecDepth 100000 in
theorem laws_szByteSS.calls (k : Nat) (A0 : Option Addr) (c0 : Nat) (l0 : List (List Int)) (a1 : Int) (r : Int) (w : World) (hr0 : Kd.C (Kd.slice 5 (Kd.int .u8)) w A0 l0.length l0) (hc0 : l0.length ≤ c0) (h : laws_szByteSS.f k l0 a1 = some r) :
    Calls Try.prog 12 #[.slice A0 l0.length c0, .int .i64 a1] w fun e w' => e = .returned (.int .i64 r) ∧ Drawn0 w w' := by
  have HR0 := Aside0.mk hr0
  have HC0 := Aside0.mk hc0
  clear hr0 hc0
  have H : (if (wrap64 (a1 - (l0.length : Int))) < 0 then (some (-1)) else (laws_szByteSS.l0 k l0 (wrap64 (a1 - (l0.length : Int))) 0)) = some r := h
  clear h
  by_cases c3 : (wrap64 (a1 - (l0.length : Int))) < 0
  · rw [if_pos c3] at H
    have c3b0 : decide ((wrap64 (a1 - (l0.length : Int))) < 0) = true := decide_eq_true c3
    clear c3
    obtain rfl := Option.some.inj H
    go_enter Try.func12, Try.ntmps12
    go_wp2
    go_ret
    exact ⟨by first | rfl | (simp; done) | (simp [*]; done), by repeat (first | exact Drawn0.refl _ | apply Drawn0.step)⟩
  · rw [if_neg c3] at H
    have c3b0 : decide ((wrap64 (a1 - (l0.length : Int))) < 0) = false := decide_eq_false c3
    clear c3
    have H' := Aside0.mk H
    clear H
    go_enter Try.func12, Try.ntmps12
    go_wp2
    go_loopg [1, 5] k (fun kq v1 v5 w' => ∃ (x1_1 : Int) (x5_1 : Int), v1 = .int .i64 x1_1 ∧ v5 = .int .i64 x5_1 ∧ Aside0 (laws_szByteSS.l0 kq l0 x1_1 x5_1 = some r) ∧ Aside0 (kq ≤ k) ∧ Drawn0 w w')
    case atStart => exact ⟨(wrap64 (a1 - (l0.length : Int))), (0), (by first | rfl | (simp; done) | (simp [*]; done)), (by first | rfl | (simp; done) | (simp [*]; done)), H', ⟨Nat.le_refl _⟩, by repeat (first | exact Drawn0.refl _ | apply Drawn0.step)⟩
    case round =>
      clear H'
      try clear c1
      try clear p2
      try clear c3
      try clear c3b0
      obtain ⟨x1_1, x5_1, rfl, rfl, HA, HK1, ⟨m1, rfl⟩⟩ := hrel
      cases gk with
      | zero => exact absurd HA.out (by simp [laws_szByteSS.l0])
      | succ k1 =>
        have H := HA.out
        clear HA
        simp only [laws_szByteSS.l0] at H
        by_cases c4 : x5_1 < (l0.length : Int)
        · rw [if_pos c4] at H
          have c4b0 : decide (x5_1 < (l0.length : Int)) = true := decide_eq_true c4
          clear c4
          by_cases c5 : 0 ≤ x5_1
          · rw [if_pos c5] at H
            have c5b0 : decide (0 ≤ x5_1) = true := decide_eq_true c5
            clear c5
            replace H := Option.bind_eq_some_iff.mp H
            obtain ⟨t453, A60, H⟩ := H
            replace H : (if t453 < 0 then (some (-1)) else (laws_szByteSS.l0 k1 l0 t453 (wrap64 (x5_1 + 1)))) = some r := H
            have A6 := Aside0.mk A60
            clear A60
            by_cases c7 : t453 < 0
            · rw [if_pos c7] at H
              have c7b0 : decide (t453 < 0) = true := decide_eq_true c7
              clear c7
              obtain rfl := Option.some.inj H
              have p452 : 0 ≤ (x5_1 : Int) := of_decide_eq_true (by first | (with_reducible assumption) | assumption)
              have q452 : x5_1 < (l0.length : Int) := of_decide_eq_true (by first | (with_reducible assumption) | assumption)
              obtain ⟨ad452, A452_0, c452_0, e452, hx452_0, hl452_0, hi452_0⟩ := at_L2 HR0.out x5_1 p452 q452
              cases e452
              have HR452_0 := Aside0.mk hi452_0
              have HC452_0 := Aside0.mk hl452_0
              clear hi452_0 hl452_0
              replace p452 := eq_true p452
              replace q452 := eq_true q452
              go_wp2_with (first | ((with_reducible refine gate_callee (f := 38) rfl ?_); refine goesL_ (some 23) rfl rfl Try.func38 (by kernel_rfl) rfl #[.slice A452_0 (rd_L2 l0 x5_1).length c452_0, .int .i64 x1_1] rfl (by (try simp only [List.map_toArray, List.map_cons, List.map_nil]); first | done | rfl | (simp only [List.length_drop, List.length_take]; rfl)) ?_; (with_reducible refine (laws_szByteS.calls _ _ (rd_L2 l0 x5_1) x1_1 t453 _ ?side1 ?side2 A6.out).mono ?_); (case side1 => repeat (first | exact HR452_0.out | (with_reducible refine Kd.C_alloc ?_ _) | (with_reducible refine Kd.C_drewN ?_ _) | (with_reducible refine Kd.C_drew ?_))); (case side2 => exact HC452_0.out); rintro e w' ⟨rfl, ⟨nd, rfl⟩⟩; refine ⟨_, rfl, ?_⟩))
              go_ret
              exact ⟨by first | rfl | (simp; done) | (simp [*]; done), by repeat (first | exact Drawn0.refl _ | apply Drawn0.step)⟩
            · rw [if_neg c7] at H
              have c7b0 : decide (t453 < 0) = false := decide_eq_false c7
              clear c7
              have H' := Aside0.mk H
              clear H
              have p452 : 0 ≤ (x5_1 : Int) := of_decide_eq_true (by first | (with_reducible assumption) | assumption)
              have q452 : x5_1 < (l0.length : Int) := of_decide_eq_true (by first | (with_reducible assumption) | assumption)
              obtain ⟨ad452, A452_0, c452_0, e452, hx452_0, hl452_0, hi452_0⟩ := at_L2 HR0.out x5_1 p452 q452
              cases e452
              have HR452_0 := Aside0.mk hi452_0
              have HC452_0 := Aside0.mk hl452_0
              clear hi452_0 hl452_0
              replace p452 := eq_true p452
              replace q452 := eq_true q452
              go_wp2_with (first | ((with_reducible refine gate_callee (f := 38) rfl ?_); refine goesL_ (some 23) rfl rfl Try.func38 (by kernel_rfl) rfl #[.slice A452_0 (rd_L2 l0 x5_1).length c452_0, .int .i64 x1_1] rfl (by (try simp only [List.map_toArray, List.map_cons, List.map_nil]); first | done | rfl | (simp only [List.length_drop, List.length_take]; rfl)) ?_; (with_reducible refine (laws_szByteS.calls _ _ (rd_L2 l0 x5_1) x1_1 t453 _ ?side1 ?side2 A6.out).mono ?_); (case side1 => repeat (first | exact HR452_0.out | (with_reducible refine Kd.C_alloc ?_ _) | (with_reducible refine Kd.C_drewN ?_ _) | (with_reducible refine Kd.C_drew ?_))); (case side2 => exact HC452_0.out); rintro e w' ⟨rfl, ⟨nd, rfl⟩⟩; refine ⟨_, rfl, ?_⟩))
              go_roundg k1
              case measure => have := HK1.out; omega
              case rel => exact ⟨(t453), (wrap64 (x5_1 + 1)), (by first | rfl | (simp; done) | (simp [*]; done)), (by first | rfl | (simp; done) | (simp [*]; done)), H', ⟨by have := HK1.out; omega⟩, by repeat (first | exact Drawn0.refl _ | apply Drawn0.step)⟩
          · rw [if_neg c5] at H
            exact absurd H (by simp)
        · rw [if_neg c4] at H
          have c4b0 : decide (x5_1 < (l0.length : Int)) = false := decide_eq_false c4
          clear c4
          obtain rfl := Option.some.inj H
          go_wp2
          go_ret
          exact ⟨by first | rfl | (simp; done) | (simp [*]; done), by repeat (first | exact Drawn0.refl _ | apply Drawn0.step)⟩

def laws_toByteS.l0 : Nat → List Int → List Int → Int → Option (List Int)
  | 0, _, _, _ => none
  | k + 1, x0, x3, x4 => if x4 < (x0.length : Int) then (if 0 ≤ x4 then (if x4 < (x3.length : Int) then (laws_toByteS.l0 k x0 (x3.set (x4 : Int).toNat (rd x0 x4)) (wrap64 (x4 + 1))) else (none)) else (none)) else (some x3)
def laws_toByteS.f (k : Nat) (l0 : List Int) : Option (List Int) := if 0 ≤ (l0.length : Int) then (if ((l0.length : Int) : Int).toNat ≤ 281474976710656 then (laws_toByteS.l0 k l0 (List.replicate ((l0.length : Int) : Int).toNat 0) 0) else (none)) else (none)
set_option maxHeartbeats 8000000 in
set_option maxRecDepth 100000 in
theorem laws_toByteS.calls (k : Nat) (A0 : Option Addr) (c0 : Nat) (l0 : List Int) (r : List Int) (w : World) (hr0 : Kd.C (Kd.int .u8) w A0 l0.length l0) (hc0 : l0.length ≤ c0) (h : laws_toByteS.f k l0 = some r) :
    Calls Try.prog 39 #[.slice A0 l0.length c0] w fun e w' => ∃ v0_ : Value, e = .returned (v0_) ∧ Kd.R (Kd.int .u8) 5 w' w.heap.size (fun _ => True) v0_ r ∧ Below w.heap.size w w' := by
  have HR0 := Aside0.mk hr0
  have HC0 := Aside0.mk hc0
  clear hr0 hc0
  have HB := Aside0.mk (Below.refl w.heap.size w)
  have H : (if 0 ≤ (l0.length : Int) then (if ((l0.length : Int) : Int).toNat ≤ 281474976710656 then (laws_toByteS.l0 k l0 (List.replicate ((l0.length : Int) : Int).toNat 0) 0) else (none)) else (none)) = some r := h
  clear h
  by_cases c2 : 0 ≤ (l0.length : Int)
  · rw [if_pos c2] at H
    have c2b0 := eq_true c2
    have c2b1 : decide (0 ≤ (l0.length : Int)) = true := decide_eq_true c2
    clear c2
    by_cases c3 : ((l0.length : Int) : Int).toNat ≤ 281474976710656
    · rw [if_pos c3] at H
      have c3b0 := eq_true c3
      have c3b1 : decide (((l0.length : Int) : Int).toNat ≤ 281474976710656) = true := decide_eq_true c3
      clear c3
      obtain ⟨y462, hy462⟩ : ∃ y_ : List Int, y_ = (List.replicate ((l0.length : Int) : Int).toNat 0) := ⟨_, rfl⟩
      replace H : (laws_toByteS.l0 k l0 y462 0) = some r := by first | (rw [hy462]; with_reducible exact H) | (have H2_ := (Option.bind_some _ _).symm.trans H; rw [hy462]; with_reducible exact H2_) | (have H2_ := (Option.bind_some _ _).symm.trans H; with_reducible exact H2_) | with_reducible exact H | (rw [hy462]; exact H) | exact H
      have Ny462 := Aside0.mk hy462
      clear hy462
      have H' := Aside0.mk H
      clear H
      go_enter Try.func39, Try.ntmps39
      go_wp2_with (first | ((with_reducible refine gate_dst (N := 7) rfl ?_); refine Kd.R_make (Kd.int .u8) _ 5 rfl (N := 7) rfl 22 _ _ rfl (l0.length : Int) rfl rfl Try.underlying22 (.int .u8 0) 1 info5 rfl (by decide) (by omega) 0 (ok := fun _ => True) (okp := fun _ => True) rfl (fun _ hk => hk) trivial (of_decide_eq_true (by first | (with_reducible assumption) | assumption)) (Nat.le_trans (Nat.mul_le_mul_right _ (of_decide_eq_true (by first | (with_reducible assumption) | assumption) : (l0.length : Int).toNat ≤ 281474976710656)) (by omega)) (Below.refl _ _) (Nat.le_refl _) ?_; intro v463 w4 ho5 hb hg_ hnew_; clear hg_ hnew_; (first | rw [← Ny462.out] at ho5 | (simp only [Int.reduceToNat] at ho5; rw [← Ny462.out] at ho5)); have n0_ := Aside0.mk (Kd.R_lower ho5 (below_size (by repeat (first | (with_reducible first | exact HB.out | apply below_alloc | apply pw_below_drewN | apply below_drew1) | exact HB.out)))); have n1_ := Aside0.mk (below_step (by repeat (first | (with_reducible first | exact HB.out | apply below_alloc | apply pw_below_drewN | apply below_drew1) | exact HB.out)) hb); clear HB; have HO464 := n0_; have HB := n1_; clear n0_ n1_; clear hb ho5))
      go_loopg [4] k (fun kq v4 w' => ∃ (x3_1 : List Int) (x4_1 : Int), v4 = .int .i64 x4_1 ∧ Aside0 (laws_toByteS.l0 kq l0 x3_1 x4_1 = some r) ∧ Aside0 (kq ≤ k) ∧ Aside0 (Kd.R (Kd.int .u8) 5 w' w.heap.size (fun _ => True) v463 x3_1) ∧ Aside0 (Below w.heap.size w w'))
      case atStart => exact ⟨(y462), (0), (by first | rfl | (simp; done) | (simp [*]; done)), H', ⟨Nat.le_refl _⟩, ⟨by (with_reducible repeat (first | apply Kd.R_alloc | apply Kd.R_drewN | apply Kd.R_drew)); exact HO464.out⟩, ⟨by repeat (first | (with_reducible first | exact HB.out | apply below_alloc | apply pw_below_drewN | apply below_drew1) | exact HB.out)⟩⟩
      case round =>
        clear H'
        try clear c2
        try clear c2b0
        try clear c2b1
        try clear p2
        try clear c3
        try clear c3b0
        try clear c3b1
        obtain ⟨x3_1, x4_1, rfl, HA, HK1, HO_3, HB⟩ := hrel
        cases gk with
        | zero => exact absurd HA.out (by simp [laws_toByteS.l0])
        | succ k1 =>
          have H := HA.out
          clear HA
          simp only [laws_toByteS.l0] at H
          by_cases c6 : x4_1 < (l0.length : Int)
          · rw [if_pos c6] at H
            have c6b0 : decide (x4_1 < (l0.length : Int)) = true := decide_eq_true c6
            clear c6
            by_cases c7 : 0 ≤ x4_1
            · rw [if_pos c7] at H
              have c7b0 : decide (0 ≤ x4_1) = true := decide_eq_true c7
              clear c7
              by_cases c8 : x4_1 < (x3_1.length : Int)
              · rw [if_pos c8] at H
                have c8b0 : decide (x4_1 < (x3_1.length : Int)) = true := decide_eq_true c8
                clear c8
                obtain ⟨y466, hy466⟩ : ∃ y_ : List Int, y_ = (x3_1.set (x4_1 : Int).toNat (rd l0 x4_1)) := ⟨_, rfl⟩
                replace H : (laws_toByteS.l0 k1 l0 y466 (wrap64 (x4_1 + 1))) = some r := by first | (rw [hy466]; with_reducible exact H) | (have H2_ := (Option.bind_some _ _).symm.trans H; rw [hy466]; with_reducible exact H2_) | (have H2_ := (Option.bind_some _ _).symm.trans H; with_reducible exact H2_) | with_reducible exact H | (rw [hy466]; exact H) | exact H
                have Ny466 := Aside0.mk hy466
                clear hy466
                have H' := Aside0.mk H
                clear H
                have p465 : 0 ≤ (x4_1 : Int) := of_decide_eq_true (by first | (with_reducible assumption) | assumption)
                have q465 : x4_1 < (l0.length : Int) := of_decide_eq_true (by first | (with_reducible assumption) | assumption)
                obtain ⟨ad465, e465, hx465_0⟩ := Kd.at_int HR0.out x4_1 p465 q465
                cases e465
                replace hx465_0 := (HB.out.cell (World.block_lt_of_cell? w _ hx465_0)).trans hx465_0
                replace p465 := eq_true p465
                replace q465 := eq_true q465
                have p9 : 0 ≤ (x4_1 : Int) := of_decide_eq_true (by first | (with_reducible assumption) | assumption)
                have q9 : (x4_1 : Int) < ((x3_1.length : Int) : Int) := of_decide_eq_true (by first | (with_reducible assumption) | assumption)
                obtain ⟨go9, co9, eo9, gb9, gl9, cl9, HG9⟩ := Kd.R_form HO_3.out (by omega)
                (first | cases eo9 | (injection eo9 with ea_ en_ ec_; (first | subst ea_ | (injection ea_ with ea_; subst ea_)); subst ec_; clear en_))
                have GB9 := Aside0.mk gb9
                have GG9 := Aside0.mk HG9
                clear gb9 gl9 HG9
                obtain ⟨hx9_0, hf9_0⟩ := Kd.R_celln 0 HO_3.out (x4_1 : Int) p9 q9
                replace p9 := eq_true p9
                replace q9 := eq_true q9
                have HP10 := Kd.R_putg HO_3.out (x4_1 : Int) (rd l0 x4_1)
                go_wp2_with (first | ((with_reducible refine gate_store (t := 5) (p := 20) rfl ?_); refine store_event (t := 5) (p := 20) (v := ?vo_w11) (w1 := (wr.setCell ⟨go9, (x4_1 : Int).toNat, none⟩ (.int .u8 (rd l0 x4_1)))) ?hg ?ho ?hn ?hr ?_; (case ho => rfl); (case hg => rfl); (case hn => rfl); (case hr => first | (go_simp; done) | (go_simp; rfl)); intro w11 hw; have hg : wr.grownBy w11 (some go9) := (by rw [hw]; exact HP10.2); have hp_ : Kd.R (Kd.int .u8) 5 w11 w.heap.size (fun _ => True) (.slice (some ⟨go9, 0, none⟩) x3_1.length co9) y466 := (by rw [hw, Ny466.out]; exact HP10.1); clear HP10; have n0_ := Aside0.mk (hp_); have n1_ := Aside0.mk ((by rw [hw]; exact below_set (HB.out) GB9.out : Below w.heap.size w w11)); clear HO_3; clear HB; have HO_3 := n0_; have HB := n1_; clear n0_ n1_; clear hg hw hp_))
                go_roundg k1
                case measure => have := HK1.out; omega
                case rel => exact ⟨(y466), (wrap64 (x4_1 + 1)), (by first | rfl | (simp; done) | (simp [*]; done)), H', ⟨by have := HK1.out; omega⟩, ⟨by (with_reducible repeat (first | apply Kd.R_alloc | apply Kd.R_drewN | apply Kd.R_drew)); exact HO_3.out⟩, ⟨by repeat (first | (with_reducible first | exact HB.out | apply below_alloc | apply pw_below_drewN | apply below_drew1) | exact HB.out)⟩⟩
              · rw [if_neg c8] at H
                exact absurd H (by simp)
            · rw [if_neg c7] at H
              exact absurd H (by simp)
          · rw [if_neg c6] at H
            have c6b0 : decide (x4_1 < (l0.length : Int)) = false := decide_eq_false c6
            clear c6
            obtain rfl := Option.some.inj H
            go_wp2
            go_ret
            exact ⟨_, by first | rfl | (simp [errW_none, errW_some] <;> rfl) | (simp [*, errW_none, errW_some] <;> rfl), by (with_reducible repeat (first | apply Kd.R_alloc | apply Kd.R_drewN | apply Kd.R_drew)); exact HO_3.out, by repeat (first | (with_reducible first | exact HB.out | apply below_alloc | apply pw_below_drewN | apply below_drew1) | exact HB.out)⟩
    · rw [if_neg c3] at H
      exact absurd H (by simp)
  · rw [if_neg c2] at H
    exact absurd H (by simp)

end Go.Proofs.Ytookabfmbimnoaa.Lk

namespace Go.Proofs.Ytookabfmbimnoaa.Lk
open Go.RowKit Go.Proofs.YtookabfmbimnoaaW.PrintWords Go.Proofs.YtookabfmbimnoaaW.PrintLast Go.Proofs.YtookabfmbimnoaaW.PrintMore
set_option linter.unusedVariables false
set_option linter.unusedSimpArgs false

theorem bucket_perm : ∀ (T : Nat) (xs : List (Int × Int)), (∀ x ∈ xs, 0 ≤ x.1 ∧ x.1 < T) → ((List.range T).flatMap fun (t : Nat) => xs.filter fun x => decide (x.1 = (t : Int))).Perm xs
  | 0, xs, h => by
    have : xs = [] := by
      cases xs with
      | nil => rfl
      | cons x xs => exact absurd (h x (by simp)) (by omega)
    subst this
    simp
  | T + 1, xs, h => by
    have ih := bucket_perm T (xs.filter fun x => decide (x.1 < (T : Int))) (fun x hx => by
      have h1 := List.mem_filter.1 hx
      have h2 := h x h1.1
      have h3 : x.1 < (T : Int) := by simpa using h1.2
      omega)
    have e1 : ((List.range T).flatMap fun (t : Nat) => (xs.filter fun x => decide (x.1 < (T : Int))).filter fun x => decide (x.1 = (t : Int))) = ((List.range T).flatMap fun (t : Nat) => xs.filter fun x => decide (x.1 = (t : Int))) := by
      rw [List.flatMap_def, List.flatMap_def]
      congr 1
      refine List.map_congr_left (fun t ht => ?_)
      have ht' := List.mem_range.1 ht
      rw [List.filter_filter]
      refine List.filter_congr (fun x hx => ?_)
      by_cases hxt : x.1 = (t : Int)
      · have : x.1 < (T : Int) := by omega
        simp [hxt, this]
        omega
      · simp [hxt]
    rw [e1] at ih
    have e2 : (xs.filter fun x => decide (x.1 = ((T : Nat) : Int))) = xs.filter fun x => !decide (x.1 < (T : Int)) := by
      refine List.filter_congr (fun x hx => ?_)
      have := h x hx
      by_cases hxt : x.1 = (T : Int)
      · simp [hxt]
      · have : x.1 < (T : Int) := by omega
        simp [hxt, this]
    rw [List.range_succ, List.flatMap_append, List.flatMap_cons, List.flatMap_nil, List.append_nil, e2]
    exact (List.Perm.append_right _ ih).trans (List.filter_append_perm _ _)
def leA (x y : Int × Int) : Prop := x.1 < y.1 ∨ (x.1 = y.1 ∧ x.2 ≤ y.2)
theorem bucket_sorted (T : Nat) (xs : List (Int × Int)) (h : xs.Pairwise fun x y => x.2 ≤ y.2) : ((List.range T).flatMap fun (t : Nat) => xs.filter fun x => decide (x.1 = (t : Int))).Pairwise leA := by
  rw [List.pairwise_flatMap]
  refine ⟨fun t _ => ?_, ?_⟩
  · have h1 := h.filter (fun x => decide (x.1 = (t : Int)))
    refine List.Pairwise.imp_of_mem ?_ h1
    intro x y hx hy hxy
    have h2 : x.1 = (t : Int) := by simpa using (List.mem_filter.1 hx).2
    have h3 : y.1 = (t : Int) := by simpa using (List.mem_filter.1 hy).2
    exact .inr ⟨by rw [h2, h3], hxy⟩
  · refine List.Pairwise.imp ?_ (List.pairwise_lt_range)
    intro a b hab x hx y hy
    have h2 : x.1 = (a : Int) := by simpa using (List.mem_filter.1 hx).2
    have h3 : y.1 = (b : Int) := by simpa using (List.mem_filter.1 hy).2
    exact .inl (by omega)
theorem sortA_bucket (T : Nat) (xs : List (Int × Int)) (h0 : ∀ x ∈ xs, 0 ≤ x.1 ∧ x.1 < T) (h : xs.Pairwise fun x y => x.2 ≤ y.2) : ((List.range T).flatMap fun (t : Nat) => xs.filter fun x => decide (x.1 = (t : Int))) = sortA xs := by
  have hp := bucket_perm T xs h0
  have hs := bucket_sorted T xs h
  generalize ((List.range T).flatMap fun (t : Nat) => xs.filter fun x => decide (x.1 = (t : Int))) = ys at hp hs
  have hl := hp.length_eq
  have h2 := Go.Sort.sorted_unique_holds swo_cmpA (fun x y hx hy => by
    rw [lt_cmpA] at hx hy
    simp only [decide_eq_false_iff_not] at hx hy
    exact Prod.ext (by omega) (by omega)) xs.toArray ys.toArray ⟨by simpa using hl, fun i hi => by
      rcases hi with hi | hi
      · omega
      · have hi' : xs.length ≤ i := by simpa using hi
        simp [Array.getElem!_eq_getD, Array.getD, hl, Nat.not_lt.2 hi'], by have ht : ys.take xs.length = ys := (by rw [← hl]; exact List.take_length); simpa [ht] using hp⟩ (fun i j _ hij hj => by
      have hj' : j < ys.length := by rw [hl]; simpa using hj
      have h3 := List.pairwise_iff_getElem.1 hs i j (by omega) hj' hij
      rw [lt_cmpA]
      have ei : ys.toArray[i]! = ys[i] := by simp [Array.getElem!_eq_getD, Array.getD, show i < ys.length by omega]
      have ej : ys.toArray[j]! = ys[j] := by simp [Array.getElem!_eq_getD, Array.getD, hj']
      rw [ei, ej]
      rcases h3 with h3 | h3 <;> exact decide_eq_false (by omega))
  rw [sortA_merge]
  simpa using h2
theorem arrOf_time (f : Int) (i : Nat) : ∀ x ∈ arrOf f i, 0 ≤ x.1 ∧ x.1 ≤ 2 * (i : Int) + 3 ∧ x.2 = i := by
  unfold arrOf
  repeat' split
  all_goals simp
  all_goals omega
theorem arrList_time (l : List Int) (n : Nat) : ∀ x ∈ arrList l n, 0 ≤ x.1 ∧ x.1 < ((2 * n + 3 : Nat) : Int) := by
  intro x hx
  simp only [arrList, List.mem_flatMap, List.mem_range] at hx
  obtain ⟨i, hi, hx⟩ := hx
  have := arrOf_time _ i x hx
  omega
theorem arrList_index (l : List Int) (n : Nat) : (arrList l n).Pairwise fun x y => x.2 ≤ y.2 := by
  unfold arrList
  rw [List.pairwise_flatMap]
  refine ⟨fun i _ => ?_, ?_⟩
  · refine List.pairwise_of_forall_mem_list (fun x hx y hy => ?_)
    have := arrOf_time _ i x hx
    have := arrOf_time _ i y hy
    omega
  · refine List.Pairwise.imp ?_ List.pairwise_lt_range
    intro a b hab x hx y hy
    have := arrOf_time _ a x hx
    have := arrOf_time _ b y hy
    omega
def atN (f : Int) (i : Nat) : Int := if f = 1 then -1 else if f = 3 then 2 * (i : Int) + 3 else 2 * (i : Int)
def cellOf (l : List Int) (t i : Nat) : List Int := if atN (fateN l i) i = (t : Int) then (if fateN l i = 2 then [(i : Int), (i : Int)] else [(i : Int)]) else []
theorem cellOf_arr (l : List Int) (t i : Nat) : cellOf l t i = ((arrOf (fateN l i) i).filter fun x => decide (x.1 = (t : Int))).map (·.2) := by
  unfold cellOf atN arrOf
  generalize fateN l i = f
  by_cases h1 : f = 1
  · subst h1
    rw [if_pos rfl, if_pos rfl, if_neg (by omega)]
    rfl
  by_cases h2 : f = 2
  · subst h2
    by_cases h : 2 * (i : Int) = t <;> simp [h]
  by_cases h3 : f = 3
  · subst h3
    by_cases h : 2 * (i : Int) + 3 = t <;> simp [h]
  · by_cases h : 2 * (i : Int) = t <;> simp [h1, h2, h3, h]
theorem scan_arrivals (l : List Int) (n : Nat) : ((List.range (2 * n + 3)).flatMap fun (t : Nat) => (List.range n).flatMap fun i => cellOf l t i) = arrivals l n := by
  unfold arrivals
  rw [← sortA_bucket (2 * n + 3) (arrList l n) (arrList_time l n) (arrList_index l n), List.map_flatMap]
  rw [List.flatMap_def, List.flatMap_def]
  congr 1
  refine List.map_congr_left (fun t _ => ?_)
  unfold arrList
  rw [List.filter_flatMap, List.map_flatMap, List.flatMap_def, List.flatMap_def]
  congr 1
  exact List.map_congr_left (fun i _ => cellOf_arr l t i)
theorem specFate_fateN (l : List Int) (i : Nat) : spec_l4Fate.f l (i : Int) = some (fateN l i) := by
  unfold spec_l4Fate.f fateN
  by_cases h : i < l.length
  · rw [if_pos (by omega), if_pos (by omega), if_pos h]
  · rw [if_neg (by omega), if_neg h]
theorem specAt (l : List Int) (i : Nat) (hi : i ≤ 1000) : spec_l4At.f l (i : Int) = some (atN (fateN l i) i) := by
  unfold spec_l4At.f atN
  rw [specFate_fateN, Option.bind_some, w64 (2 * (i : Int)) (by omega), w64 _ (by omega)]
  split
  · rfl
  · split <;> rfl
theorem cellOf_length (l : List Int) (t i : Nat) : (cellOf l t i).length ≤ 2 := by
  unfold cellOf
  repeat' split
  all_goals simp
theorem specL1 (l : List Int) (n t : Nat) (hn : n ≤ 60) (ht : t ≤ 1000) : ∀ (m i k : Nat) (acc : List Int), i + m = n → acc.length + 2 * m ≤ 100000 →
    spec_ArrivalsOf.l1 (k + m + 1) l (n : Int) acc (t : Int) (i : Int) = spec_ArrivalsOf.l0 k l (n : Int) (acc ++ (List.range' i m).flatMap fun j => cellOf l t j) ((t + 1 : Nat) : Int)
  | 0, i, k, acc, hi, ha => by
    rw [Nat.add_zero, spec_ArrivalsOf.l1, if_neg (by omega), w64 _ (by omega)]
    simp
  | m + 1, i, k, acc, hi, ha => by
    have ih := specL1 l n t hn ht m (i + 1) k (acc ++ cellOf l t i) (by omega) (by have := cellOf_length l t i; simp; omega)
    have e : wrap64 ((i : Int) + 1) = ((i + 1 : Nat) : Int) := by rw [w64 _ (by omega)]; simp
    have hr : (List.range' i (m + 1)).flatMap (fun j => cellOf l t j) = cellOf l t i ++ (List.range' (i + 1) m).flatMap fun j => cellOf l t j := by rw [List.range'_succ, List.flatMap_cons]
    rw [hr, ← List.append_assoc, ← ih, show k + (m + 1) + 1 = (k + m + 1) + 1 by omega, spec_ArrivalsOf.l1, if_pos (by omega), specAt l i (by omega), Option.bind_some, e]
    unfold cellOf
    by_cases h : atN (fateN l i) i = (t : Int)
    · rw [if_pos h, if_pos h, if_pos (by omega), Option.bind_some, specFate_fateN, Option.bind_some]
      by_cases h2 : fateN l i = 2
      · rw [if_pos h2, if_pos h2, if_pos (by simp; omega), List.append_assoc]
        rfl
      · rw [if_neg h2, if_neg h2]
    · rw [if_neg h, if_neg h, List.append_nil]
theorem specL0 (l : List Int) (n : Nat) (hn : n ≤ 60) : ∀ (q t k : Nat) (acc : List Int), t + q = 2 * n + 3 → acc.length + 2 * n * q ≤ 100000 → q * (n + 2) + 1 ≤ k →
    spec_ArrivalsOf.l0 k l (n : Int) acc (t : Int) = some (acc ++ (List.range' t q).flatMap fun (t : Nat) => (List.range n).flatMap fun j => cellOf l t j)
  | q, t, 0, acc, ht, ha, hk => by omega
  | 0, t, k + 1, acc, ht, ha, hk => by
    rw [spec_ArrivalsOf.l0, if_neg (by rw [w64 (2 * (n : Int)) (by omega), w64 _ (by omega)]; omega)]
    simp
  | q + 1, t, k + 1, acc, ht, ha, hk => by
    have hk2 : (q + 1) * (n + 2) = q * (n + 2) + (n + 2) := Nat.succ_mul _ _
    have ha2 : 2 * n * (q + 1) = 2 * n * q + 2 * n := Nat.mul_succ _ _
    have hfl : ((List.range n).flatMap fun j => cellOf l t j).length ≤ 2 * n := by
      have : ∀ (xs : List Nat), (xs.flatMap fun j => cellOf l t j).length ≤ 2 * xs.length := by
        intro xs
        induction xs with
        | nil => simp
        | cons x xs ih =>
          have := cellOf_length l t x
          rw [List.flatMap_cons, List.length_append, List.length_cons]
          omega
      have h := this (List.range n)
      rwa [List.length_range] at h
    have ih := specL0 l n hn q (t + 1) (k - n - 1) (acc ++ (List.range n).flatMap fun j => cellOf l t j) (by omega) (by rw [List.length_append]; omega) (by omega)
    rw [spec_ArrivalsOf.l0, if_pos (by rw [w64 (2 * (n : Int)) (by omega), w64 _ (by omega)]; omega)]
    have h1 := specL1 l n t hn (by omega) n 0 (k - n - 1) acc (by omega) (by omega)
    rw [show k - n - 1 + n + 1 = k by omega] at h1
    rw [show ((0 : Nat) : Int) = 0 from rfl, ← List.range_eq_range'] at h1
    rw [h1, ih, List.append_assoc, List.range'_succ, List.flatMap_cons]
theorem specFates0 (l : List Int) (hl : l.length ≤ 200) (hv : l.all fateOk = true) : ∀ (m i k : Nat), i + m = l.length → m + 1 ≤ k → spec_FatesValid.l0 k l (i : Int) = some true
  | m, i, 0, hi, hk => by omega
  | 0, i, k + 1, hi, hk => by rw [spec_FatesValid.l0, if_neg (by omega), decide_eq_true (by omega)]
  | m + 1, i, k + 1, hi, hk => by
    have e : wrap64 ((i : Int) + 1) = ((i + 1 : Nat) : Int) := by rw [w64 _ (by omega)]; simp
    have hil : i < l.length := by omega
    have hr : rd l (i : Int) = l[i] := by
      show l.getD _ 0 = _
      rw [List.getD_eq_getElem?_getD, Int.toNat_natCast, List.getElem?_eq_getElem hil]
      rfl
    have hf := List.all_eq_true.1 hv _ (List.getElem_mem hil)
    unfold fateOk at hf
    simp only [Bool.and_eq_true, decide_eq_true_eq] at hf
    have e2 : spec_l1In.f l[i] 0 4 = some true := by unfold spec_l1In.f; rw [if_pos (by omega), decide_eq_true hf.2]
    rw [spec_FatesValid.l0, if_pos (by omega), if_pos (by omega), hr, e2, Option.bind_some, if_pos rfl, e]
    exact specFates0 l hl hv m (i + 1) k (by omega) (by omega)
theorem specFates (l : List Int) (h : fatesOk l = true) (k : Nat) (hk : 201 ≤ k) : spec_FatesValid.f k l = some true := by
  unfold fatesOk at h
  simp only [Bool.and_eq_true, decide_eq_true_eq] at h
  exact specFates0 l h.1 h.2 l.length 0 k (by omega) (by omega)
theorem specArrivals (l : List Int) (n : Nat) (hn : n ≤ 9) (h : fatesOk l = true) : spec_ArrivalsOf.f 700 l (n : Int) = some (arrivals l n) := by
  have e : spec_l1In.f (n : Int) 0 60 = some true := by unfold spec_l1In.f; rw [if_pos (by omega), decide_eq_true (by omega)]
  have hk : (2 * n + 3) * (n + 2) ≤ 21 * 11 := Nat.mul_le_mul (by omega) (by omega)
  have hk2 : 2 * n * (2 * n + 3) ≤ 18 * 21 := Nat.mul_le_mul (by omega) (by omega)
  have h0 := specL0 l n (by omega) (2 * n + 3) 0 699 [] (by omega) (by simp; omega) (by omega)
  rw [← List.range_eq_range', scan_arrivals, List.nil_append] at h0
  unfold spec_ArrivalsOf.f
  rw [Option.bind_some, specFates l h 700 (by omega), Option.bind_some, if_pos rfl, e, Option.bind_some, spec_ArrivalsOf.j0, if_neg (by simp)]
  exact h0
theorem specFlip (b : List Int) (hb : b ≠ []) (hl : b.length ≤ 1000) : spec_l1Flip.f b 0 = some (flip0 b) := by
  have hpos : 0 < b.length := List.length_pos_iff.2 hb
  have e1 : wrap64 (Int.tdiv 0 8) = 0 := by rw [show Int.tdiv 0 8 = 0 by decide]; exact w64 0 (by omega)
  have e2 : wrap64 (7 - Int.tmod 0 8) = 7 := by rw [show Int.tmod 0 8 = 0 by decide]; exact w64 _ (by omega)
  unfold spec_l1Flip.f
  rw [Option.bind_some, if_pos (by simp; omega), Option.bind_some, List.nil_append, e1, e2, if_pos (by omega), if_pos (by omega), if_pos (by omega), show shl .u8 1 7 = 128 from by decide]
  rw [show (0 : Int).toNat = 0 from rfl, flip0_set]
theorem specList0 (l : List (List Int)) (hl : l.length ≤ 60) (hd : ∀ b ∈ l, b.length ≤ 600) : ∀ (m i k : Nat), i + m = l.length → m + 1 ≤ k → spec_l4List.l0 k l (i : Int) = some true
  | m, i, 0, hi, hk => by omega
  | 0, i, k + 1, hi, hk => by rw [spec_l4List.l0, if_neg (by omega), decide_eq_true (by omega)]
  | m + 1, i, k + 1, hi, hk => by
    have e : wrap64 ((i : Int) + 1) = ((i + 1 : Nat) : Int) := by rw [w64 _ (by omega)]; simp
    have hil : i < l.length := by omega
    have h2 := hd _ (List.getElem_mem hil)
    rw [spec_l4List.l0, if_pos (by omega), if_pos (by omega), rd_L2_get hil]
    unfold spec_l1Data.f
    rw [Option.bind_some, decide_eq_true (by omega), if_pos rfl, e]
    exact specList0 l hl hd m (i + 1) k (by omega) (by omega)
theorem specPW0 (fs : List Int) (pks : List (List Int)) (idx : List Int) (hi : ∀ i ∈ idx, 0 ≤ i ∧ i < pks.length) (hd : ∀ b ∈ pks, b.length ≤ 600) (hI : idx.length ≤ 100000) : ∀ (m j k : Nat) (acc : List (List Int)), j + m = idx.length → acc.length + m ≤ 100000 → m + 1 ≤ k → spec_PassWire.l0 k fs pks acc idx (j : Int) = some (acc ++ (idx.drop j).map (passOf fs pks))
  | m, j, 0, acc, hj, ha, hk => by omega
  | 0, j, k + 1, acc, hj, ha, hk => by
    rw [spec_PassWire.l0, if_neg (by omega), List.drop_eq_nil_of_le (by omega)]
    simp
  | m + 1, j, k + 1, acc, hj, ha, hk => by
    have e : wrap64 ((j : Int) + 1) = ((j + 1 : Nat) : Int) := by rw [w64 _ (by omega)]; simp
    have hjl : j < idx.length := by omega
    have hr : rd idx (j : Int) = idx[j] := by
      show idx.getD _ 0 = _
      rw [List.getD_eq_getElem?_getD, Int.toNat_natCast, List.getElem?_eq_getElem hjl]
      rfl
    have hx := hi _ (List.getElem_mem hjl)
    have hlen := rd_L2_le hd idx[j]
    have hf : spec_l4Fate.f fs idx[j] = some (fateN fs idx[j].toNat) := by
      have := specFate_fateN fs idx[j].toNat
      rwa [Int.toNat_of_nonneg hx.1] at this
    have hdrop : idx.drop j = idx[j] :: idx.drop (j + 1) := List.drop_eq_getElem_cons hjl
    have ih := specPW0 fs pks idx hi hd hI m (j + 1) k (acc ++ [passOf fs pks idx[j]]) (by omega) (by simp; omega) (by omega)
    rw [spec_PassWire.l0, if_pos (by omega), Option.bind_some, if_pos (by omega), hr, if_pos hx.1, if_pos hx.2, if_pos (by simp; omega), Option.bind_some, hf, Option.bind_some, List.nil_append, e, hdrop, List.map_cons]
    rw [show acc ++ passOf fs pks idx[j] :: (idx.drop (j + 1)).map (passOf fs pks) = (acc ++ [passOf fs pks idx[j]]) ++ (idx.drop (j + 1)).map (passOf fs pks) by simp]
    rw [← ih]
    unfold passOf
    by_cases h4 : fateN fs idx[j].toNat = 4
    · rw [if_pos h4, if_pos h4]
      by_cases hb : rd_L2 pks idx[j] = []
      · rw [hb, if_neg (by simp), if_pos (by omega)]
        rfl
      · have hpos : 0 < (rd_L2 pks idx[j]).length := List.length_pos_iff.2 hb
        rw [if_pos (by omega), specFlip _ hb (by omega), Option.bind_some, if_pos (by omega)]
    · rw [if_neg h4, if_neg h4, if_pos (by omega)]
theorem specPass (fs : List Int) (pks : List (List Int)) (hn : pks.length ≤ 9) (hf : fatesOk fs = true) (hd : ∀ b ∈ pks, b.length ≤ 600) : spec_PassWire.f 700 fs pks = some (passWire fs pks) := by
  have h1 : spec_l4List.f 700 pks = some true := specList0 pks (by omega) hd pks.length 0 700 (by omega) (by omega)
  have hal := arrivals_length fs pks.length
  have h2 := specPW0 fs pks (arrivals fs pks.length) (arrivals_mem fs pks.length) hd (by omega) (arrivals fs pks.length).length 0 700 [] (by omega) (by simp; omega) (by omega)
  unfold spec_PassWire.f passWire
  rw [Option.bind_some, h1, Option.bind_some, if_pos rfl, specArrivals fs pks.length hn hf, Option.bind_some]
  exact h2
theorem specBehind (l : List Int) (n : Nat) (hl : l.length ≤ 100000) : spec_l4Behind.f l (n : Int) = some (l.drop n) := by
  unfold spec_l4Behind.f
  rw [Option.bind_some]
  by_cases h : (l.length : Int) < (n : Int)
  · have hm : mn (n : Int) (l.length : Int) = (l.length : Int) := if_pos h
    rw [hm, if_pos (by omega), if_pos (by omega), if_pos (by simp), List.nil_append, Int.toNat_natCast, List.drop_eq_nil_of_le (Nat.le_refl _), List.drop_eq_nil_of_le (by omega)]
  · have hm : mn (n : Int) (l.length : Int) = (n : Int) := if_neg h
    rw [hm, if_pos (by omega), if_pos (by omega), if_pos (by simp; omega), List.nil_append, Int.toNat_natCast]
end Go.Proofs.Ytookabfmbimnoaa.Lk

namespace Go.Proofs.Ytookabfmbimnoaa.Lk
open Go.RowKit Go.Proofs.YtookabfmbimnoaaW.PrintWords Go.Proofs.YtookabfmbimnoaaW.PrintLast Go.Proofs.YtookabfmbimnoaaW.PrintMore
set_option linter.unusedVariables false
set_option linter.unusedSimpArgs false

structure BoxL (w : World) (g0 G : Nat) (vg : Value) (r s1 s2 : Nat) (f1 f2 : Value) : Prop where
  b0 : w.heap[g0]? = some (.cells #[.slice none 0 0, .int .i64 0, .int .i64 0, .bool false] 28 (0, 0))
  b1 : w.heap[G]? = some (.cells #[vg, .int .i64 r, .int .i64 0, .bool false] 28 (0, 0))
  b2 : w.heap[G + 1]? = some (.cells #[f1, .int .i64 s1] 52 (0, 0))
  b3 : w.heap[G + 1 + 1]? = some (.cells #[f2, .int .i64 s2] 52 (0, 0))
theorem heap_lt {w : World} {g : Nat} {o : Obj} (h : w.heap[g]? = some o) : g < w.heap.size := (Array.getElem?_eq_some_iff.1 h).1
theorem heap_set {w : World} {g j t : Nat} {cs : Array Value} {v : Value} (h : w.heap[g]? = some (.cells cs t (0, 0))) : (w.setCell ⟨g, j, none⟩ v).heap[g]? = some (.cells (cs.setIfInBounds j v) t (0, 0)) := by
  simp [World.setCell, Array.getElem?_modify, h]
namespace BoxL
variable {w w2 : World} {g0 G : Nat} {vg : Value} {r s1 s2 : Nat} {f1 f2 : Value}
theorem below (h : BoxL w g0 G vg r s1 s2 f1 f2) (hb : Below w.heap.size w w2) : BoxL w2 g0 G vg r s1 s2 f1 f2 :=
  ⟨(hb.block _ (heap_lt h.b0)).trans h.b0, (hb.block _ (heap_lt h.b1)).trans h.b1, (hb.block _ (heap_lt h.b2)).trans h.b2, (hb.block _ (heap_lt h.b3)).trans h.b3⟩
theorem grown (h : BoxL w g0 G vg r s1 s2 f1 f2) {row : Option Nat} (hg : w.grownBy w2 row) (hr : ∀ k, row = some k → ∃ cells, w.heap[k]? = some (.cells cells 22 (0, 0))) : BoxL w2 g0 G vg r s1 s2 f1 f2 := by
  have key : ∀ (g : Nat) (cs : Array Value) (t : Nat), w.heap[g]? = some (.cells cs t (0, 0)) → t ≠ 22 → w2.heap[g]? = some (.cells cs t (0, 0)) := by
    intro g cs t hg0 ht
    refine (hg.block g (heap_lt hg0) (fun e => ?_)).trans hg0
    obtain ⟨c2, h2⟩ := hr g e.symm
    rw [hg0] at h2
    injection h2 with h2
    injection h2 with _ h2
    exact ht h2
  exact ⟨key _ _ _ h.b0 (by decide), key _ _ _ h.b1 (by decide), key _ _ _ h.b2 (by decide), key _ _ _ h.b3 (by decide)⟩
theorem other {g : Nat} {o : Obj} (h : w.heap[g]? = some o) (g' : Nat) (hne : g' ≠ g) (j : Nat) (v : Value) : (w.setCell ⟨g', j, none⟩ v).heap[g]? = some o := (Below.heap_setCell w ⟨g', j, none⟩ v g (fun e => hne e.symm)).trans h
theorem setR (h : BoxL w g0 G vg r s1 s2 f1 f2) (h0 : g0 < G) (r' : Nat) : BoxL (w.setCell ⟨G, 1, none⟩ (.int .i64 (r' : Int))) g0 G vg r' s1 s2 f1 f2 :=
  ⟨other h.b0 G (by omega) _ _, by rw [heap_set h.b1]; rfl, other h.b2 G (by omega) _ _, other h.b3 G (by omega) _ _⟩
theorem setG (h : BoxL w g0 G vg r s1 s2 f1 f2) (h0 : g0 < G) (v' : Value) : BoxL (w.setCell ⟨G, 0, none⟩ v') g0 G v' r s1 s2 f1 f2 :=
  ⟨other h.b0 G (by omega) _ _, by rw [heap_set h.b1]; rfl, other h.b2 G (by omega) _ _, other h.b3 G (by omega) _ _⟩
theorem setS1 (h : BoxL w g0 G vg r s1 s2 f1 f2) (h0 : g0 < G) (s' : Nat) : BoxL (w.setCell ⟨G + 1, 1, none⟩ (.int .i64 (s' : Int))) g0 G vg r s' s2 f1 f2 :=
  ⟨other h.b0 (G + 1) (by omega) _ _, other h.b1 (G + 1) (by omega) _ _, by rw [heap_set h.b2]; rfl, other h.b3 (G + 1) (by omega) _ _⟩
theorem setS2 (h : BoxL w g0 G vg r s1 s2 f1 f2) (h0 : g0 < G) (s' : Nat) : BoxL (w.setCell ⟨G + 1 + 1, 1, none⟩ (.int .i64 (s' : Int))) g0 G vg r s1 s' f1 f2 :=
  ⟨other h.b0 (G + 1 + 1) (by omega) _ _, other h.b1 (G + 1 + 1) (by omega) _ _, other h.b2 (G + 1 + 1) (by omega) _ _, by rw [heap_set h.b3]; rfl⟩
theorem cells (h : BoxL w g0 G vg r s1 s2 f1 f2) : w.cell? ⟨G, 0, none⟩ = some vg ∧ w.cell? ⟨G, 1, none⟩ = some (.int .i64 r) ∧ w.frozen? ⟨G, 0, none⟩ = false ∧ w.frozen? ⟨G, 1, none⟩ = false := by
  refine ⟨?_, ?_, ?_, ?_⟩ <;> simp [World.cell?, World.frozen?, h.b1]
/-- Every cell of the run's box and of the result's. -/
theorem cellsG (h : BoxL w g0 G vg r s1 s2 f1 f2) : (w.cell? ⟨G, 0, none⟩ = some vg ∧ w.cell? ⟨G, 1, none⟩ = some (.int .i64 r) ∧ w.cell? ⟨G, 2, none⟩ = some (.int .i64 0) ∧ w.cell? ⟨G, 3, none⟩ = some (.bool false)) ∧ w.frozen? ⟨G, 0, none⟩ = false ∧ w.frozen? ⟨G, 1, none⟩ = false ∧ w.frozen? ⟨G, 2, none⟩ = false ∧ w.frozen? ⟨G, 3, none⟩ = false := by
  refine ⟨⟨?_, ?_, ?_, ?_⟩, ?_, ?_, ?_, ?_⟩ <;> simp [World.cell?, World.frozen?, h.b1]
theorem cells0 (h : BoxL w g0 G vg r s1 s2 f1 f2) : (w.cell? ⟨g0, 0, none⟩ = some (.slice none 0 0) ∧ w.cell? ⟨g0, 1, none⟩ = some (.int .i64 0) ∧ w.cell? ⟨g0, 2, none⟩ = some (.int .i64 0) ∧ w.cell? ⟨g0, 3, none⟩ = some (.bool false)) ∧ w.frozen? ⟨g0, 0, none⟩ = false ∧ w.frozen? ⟨g0, 1, none⟩ = false ∧ w.frozen? ⟨g0, 2, none⟩ = false ∧ w.frozen? ⟨g0, 3, none⟩ = false := by
  refine ⟨⟨?_, ?_, ?_, ?_⟩, ?_, ?_, ?_, ?_⟩ <;> simp [World.cell?, World.frozen?, h.b0]
theorem cellsS (h : BoxL w g0 G vg r s1 s2 f1 f2) : w.cell? ⟨G + 1, 1, none⟩ = some (.int .i64 s1) ∧ w.cell? ⟨G + 1 + 1, 1, none⟩ = some (.int .i64 s2) := by
  refine ⟨?_, ?_⟩ <;> simp [World.cell?, h.b2, h.b3]
end BoxL
end Go.Proofs.Ytookabfmbimnoaa.Lk

namespace Go.Proofs.Ytookabfmbimnoaa.Lk
open Go.RowKit Go.Proofs.YtookabfmbimnoaaW.PrintWords Go.Proofs.YtookabfmbimnoaaW.PrintLast Go.Proofs.YtookabfmbimnoaaW.PrintMore
set_option linter.unusedVariables false
set_option linter.unusedSimpArgs false

/-- A row of fates: it came in, or is of the call's own. -/
def FateRow (w0 w : World) (v : Value) (l : List Int) : Prop :=
  (∃ A c, v = .slice A l.length c ∧ l.length ≤ c ∧ Kd.C (Kd.int .i64) w0 A l.length l) ∨ Kd.R (Kd.int .i64) 3 w w0.heap.size (fun _ => True) v l
theorem FateRow.reads {w0 w : World} {v : Value} {l : List Int} (h : FateRow w0 w v l) (hb : Below w0.heap.size w0 w) : ∃ A c, v = .slice A l.length c ∧ l.length ≤ c ∧ Kd.C (Kd.int .i64) w A l.length l := by
  rcases h with ⟨A, c, rfl, hc, h⟩ | h
  · exact ⟨A, c, rfl, hc, Kd.C_below h hb⟩
  · exact Kd.R_reads h
theorem FateRow.below {w0 w w2 : World} {v : Value} {l : List Int} (h : FateRow w0 w v l) (hb : Below w.heap.size w w2) : FateRow w0 w2 v l := h.imp_right (fun h => Kd.R_below h hb)
theorem FateRow.set {w0 w : World} {v : Value} {l : List Int} (h : FateRow w0 w v l) {g t : Nat} {cells : Array Value} (hb : w.heap[g]? = some (.cells cells t (0, 0))) (ht : t ≠ 3) (j : Nat) (u : Value) : FateRow w0 (w.setCell ⟨g, j, none⟩ u) v l :=
  h.imp_right (fun h => Kd.R_set h hb (by intro q hq; have : q = 3 := by { simpa [Kd.int, Kd.scalar] using hq }; rw [this]; exact fun e => ht e.symm) j u)
theorem FateRow.grown {w0 w w2 : World} {v u : Value} {l : List Int} (h : FateRow w0 w v l) (hg : w.grownBy w2 u.ownBlock) (hr : ∀ k, u.ownBlock = some k → ∃ cells, w.heap[k]? = some (.cells cells 22 (0, 0))) : FateRow w0 w2 v l :=
  h.imp_right (fun h => Kd.R_over' h hr (by decide) hg)
/-- The state in the box g. -/
structure SBox (w0 w : World) (g : Nat) (l2 l3 : List Int) (st : LSt) : Prop where
  box : ∃ vg vt vb, w.heap[g]? = some (.cells #[vg, .int .i64 st.rounds, .int .i64 ((st.s1 : Int) + st.s2), .bool false, .int .i64 st.kn, vt, vb] 76 (0, 0)) ∧ Kd.S (Kd.slice 5 (Kd.int .u8)) 22 w w0.heap.size (fun _ => True) vg st.got ∧ FateRow w0 w vt (l2.drop st.s1) ∧ FateRow w0 w vb (l3.drop st.s2)
  ge : w0.heap.size ≤ g
  below : Below w0.heap.size w0 w
/-- The box's cells. -/
theorem cells76 {w : World} {g : Nat} {a0 a1 a2 a3 a4 a5 a6 : Value} (h : w.heap[g]? = some (.cells #[a0, a1, a2, a3, a4, a5, a6] 76 (0, 0))) :
    (w.cell? ⟨g, 0, none⟩ = some a0 ∧ w.cell? ⟨g, 1, none⟩ = some a1 ∧ w.cell? ⟨g, 2, none⟩ = some a2 ∧ w.cell? ⟨g, 3, none⟩ = some a3 ∧ w.cell? ⟨g, 4, none⟩ = some a4 ∧ w.cell? ⟨g, 5, none⟩ = some a5 ∧ w.cell? ⟨g, 6, none⟩ = some a6) ∧ (w.frozen? ⟨g, 0, none⟩ = false ∧ w.frozen? ⟨g, 1, none⟩ = false ∧ w.frozen? ⟨g, 2, none⟩ = false ∧ w.frozen? ⟨g, 3, none⟩ = false ∧ w.frozen? ⟨g, 4, none⟩ = false ∧ w.frozen? ⟨g, 5, none⟩ = false ∧ w.frozen? ⟨g, 6, none⟩ = false) := by
  refine ⟨⟨?_, ?_, ?_, ?_, ?_, ?_, ?_⟩, ?_, ?_, ?_, ?_, ?_, ?_, ?_⟩ <;> simp [World.cell?, World.frozen?, h]
theorem grown76 {w w2 : World} {g t : Nat} {cs : Array Value} {row : Option Nat} (h : w.heap[g]? = some (.cells cs t (0, 0))) (ht : t ≠ 22) (hg : w.grownBy w2 row) (hr : ∀ k, row = some k → ∃ cells, w.heap[k]? = some (.cells cells 22 (0, 0))) : w2.heap[g]? = some (.cells cs t (0, 0)) := by
  refine (hg.block g (heap_lt h) (fun e => ?_)).trans h
  obtain ⟨c2, h2⟩ := hr g e.symm
  rw [h] at h2
  injection h2 with h2
  injection h2 with _ h2
  exact ht h2
end Go.Proofs.Ytookabfmbimnoaa.Lk

namespace Go.Proofs.Ytookabfmbimnoaa.Lk
open Go.RowKit Go.Proofs.YtookabfmbimnoaaW.PrintWords Go.Proofs.YtookabfmbimnoaaW.PrintLast Go.Proofs.YtookabfmbimnoaaW.PrintMore
set_option linter.unusedVariables false
set_option linter.unusedSimpArgs false

/-- What must be so of the state ahead of a round. -/
structure StPre (st : LSt) (win : Nat) (l1 : List (List Int)) : Prop where
  kn : st.kn < l1.length
  len : l1.length ≤ 60
  win1 : 1 ≤ win
  win8 : win ≤ 8
  r : st.rounds ≤ 400
  s1 : st.s1 ≤ 8 * 400
  s2 : st.s2 ≤ 400
  got : st.got.length ≤ 16 * 401
set_option maxHeartbeats 8000000 in
set_option maxRecDepth 100000 in
theorem send_ok (g win : Nat) (A1 : Option Addr) (c1 : Nat) (l1 : List (List Int)) (l2 l3 : List Int) (st : LSt) (w0 w : World)
    (hr1 : Kd.C (Kd.slice 5 (Kd.int .u8)) w0 A1 l1.length l1) (hc1 : l1.length ≤ c1) (hb : SBox w0 w g l2 l3 st) (hp : StPre st win l1) (hf2 : fatesOk l2 = true) (hsh : l1.all shortB = true) (hbo : bytesOk l1 = true) :
    Calls Try.prog 57 #[.pointer (some ⟨g, 0, none⟩), .int .i64 (win : Int), .slice A1 l1.length c1] w fun e w' => e = .returned (.tuple #[]) ∧ SBox w0 w' g l2 l3 { st with got := (arrivals (l2.drop st.s1) (sentN win l1.length st.kn)).foldl (recv1 l1 st.kn (l2.drop st.s1)) st.got, s1 := st.s1 + sentN win l1.length st.kn } := by
  have HR1 := Aside0.mk hr1
  have HC1 := Aside0.mk hc1
  have HP := Aside0.mk hp
  have HF2 := Aside0.mk hf2
  have HSH := Aside0.mk hsh
  have HBO := Aside0.mk hbo
  obtain ⟨⟨vg, vt, vb, hx, hS, hT, hV⟩, hge, hbel⟩ := hb
  have HX := Aside0.mk hx
  have HS := Aside0.mk hS
  have HT := Aside0.mk hT
  have HV3 := Aside0.mk hV
  have HGE := Aside0.mk hge
  have HB0 := Aside0.mk hbel
  have hlt := hp.kn
  have HLD := Aside0.mk (show (l2.drop st.s1).length ≤ 200 by rw [List.length_drop]; unfold fatesOk at hf2; simp at hf2; omega)
  have HFD := Aside0.mk (show fatesOk (l2.drop st.s1) = true by unfold fatesOk at hf2 ⊢; simp at hf2 ⊢; exact ⟨by omega, fun x hx => hf2.2 x (List.mem_of_mem_drop hx)⟩)
  clear hr1 hc1 hp hf2 hsh hbo hx hS hT hV hge hbel
  have hDDA : ∀ n, (l2.drop st.s1).drop n = l2.drop (st.s1 + n) := fun n => List.drop_drop
  have HDDA := Aside0.mk hDDA
  clear hDDA
  obtain ⟨At, ct, et, hct, hCt⟩ := HT.out.reads HB0.out
  subst et
  have HCT := Aside0.mk hct
  have HRT := Aside0.mk hCt
  clear hct hCt HT
  generalize l2.drop st.s1 = fs at *
  have HN := Aside0.mk (show sentN win l1.length st.kn = min l1.length (st.kn + win) - st.kn from rfl)
  have HNL := Aside0.mk (show sentN win l1.length st.kn ≤ 8 by unfold sentN; have := HP.out.win8; omega)
  generalize sentN win l1.length st.kn = n at HN HNL ⊢
  obtain ⟨got2, hgot2⟩ : ∃ x, x = (arrivals fs n).foldl (recv1 l1 st.kn fs) st.got := ⟨_, rfl⟩
  rw [← hgot2]
  have HGOT2 := Aside0.mk hgot2
  clear hgot2
  have HB := Aside0.mk (Below.refl w.heap.size w)
  go_enter Try.func57, Try.ntmps57
  go_wp2_with (first
      | ((with_reducible refine gate_dst (N := 16) rfl ?_); refine Kd.R_lit (Kd.slice 5 (Kd.int .u8)) _ 22 ?hg (N := 16) ?hd (xs := ([] : List _)) (inner := []) (ok := fun _ => True) (okp := fun _ => True) ?hr ?hp (fun _ hk => hk) trivial (Below.refl _ _) (Nat.le_refl _) (by simp) ?_; (case hd => rfl); (case hg => rfl); (case hr => first | (go_simp; done) | (go_simp; rfl)); (case hp => exact (Reps.none _ _)); intro v0 w6 ho7 hb hg_ hnew_; clear hg_ hnew_; have n0_ := Aside0.mk (Kd.R_lower ho7 (below_size (by repeat (first | (with_reducible first | exact HB.out | apply below_alloc | apply pw_below_drewN | apply below_drew1) | exact HB.out)))); have n1_ := Aside0.mk (below_step (by repeat (first | (with_reducible first | exact HB.out | apply below_alloc | apply pw_below_drewN | apply below_drew1) | exact HB.out)) hb); clear HB; have HO0 := n0_; have HB := n1_; clear n0_ n1_; clear hb ho7; obtain ⟨⟨x0, x1, x2, x3, x4, x5, x6⟩, y0, y1, y2, y3, y4, y5, y6⟩ := cells76 (blk_below HX.out HB.out)))
  go_loopg [6, 7] n (fun kq v6 v7 w' => ∃ i : Nat, v7 = .int .i64 ((st.kn + i : Nat) : Int) ∧ Aside0 (i + kq = n) ∧ Aside0 (Kd.R (Kd.slice 5 (Kd.int .u8)) 22 w' w.heap.size (fun _ => True) v6 (spec_packs l1 st.kn i)) ∧ Aside0 (Below w.heap.size w w'))
  case atStart => exact ⟨0, rfl, ⟨by simp⟩, ⟨(by (with_reducible repeat (first | apply Kd.R_alloc | apply Kd.R_drewN | apply Kd.R_drew)); exact HO0.out)⟩, ⟨(by repeat (first | (with_reducible first | exact HB.out | apply below_alloc | apply pw_below_drewN | apply below_drew1) | exact HB.out))⟩⟩
  case round =>
    clear HB HO0 x0 x1 x2 x3 x4 x5 x6 y0 y1 y2 y3 y4 y5 y6
    obtain ⟨i, rfl, HI, HO, HB⟩ := hrel
    obtain ⟨⟨x0, x1, x2, x3, x4, x5, x6⟩, y0, y1, y2, y3, y4, y5, y6⟩ := cells76 (blk_below HX.out HB.out)
    have hwk : wrap64 ((st.kn : Int) + win) = (st.kn : Int) + win := w64 _ (by have := HP.out.len; have := HP.out.win8; omega)
    cases gk with
    | zero =>
      obtain rfl : i = n := by have := HI.out; omega
      by_cases hA : st.kn + i < l1.length
      · have hkw : ¬ i < win := by have := HN.out; omega
        have t1 : decide (((st.kn + i : Nat) : Int) < l1.length) = true := decide_eq_true (by omega)
        have t2 : decide ((st.kn : Int) + i < l1.length) = true := decide_eq_true (by omega)
        have t3 : decide (st.kn + i < l1.length) = true := decide_eq_true (by omega)
        have t4 : decide (i < win) = false := decide_eq_false (by omega)
        have t4b : decide ((i : Int) < win) = false := decide_eq_false (by omega)
        have t4c : decide ((st.kn : Int) + i < (st.kn : Int) + win) = false := decide_eq_false (by omega)
        have t4d : decide (((st.kn + i : Nat) : Int) < (st.kn : Int) + win) = false := decide_eq_false (by omega)
        clear hA hkw
        obtain ⟨A6, c6, e6⟩ := Kd.R_slice HO.out
        subst e6
        obtain ⟨hq1, hq2, hq3⟩ := Kd.R_reads' HO.out
        have HPL := Aside0.mk (spec_packs_length l1 st.kn i)
        have HSHORT := Aside0.mk (spec_packs_short HSH.out st.kn i)
        have HUN := Aside0.mk (fun (x : Int) (h0 : 0 ≤ x) (h1 : x < i) => spec_unOf HSH.out HBO.out st.kn i fs x h0 h1)
        generalize spec_packs l1 st.kn i = pks at hq1 hq2 hq3 HSHORT HPL HUN HO ⊢
        have HPASS := Aside0.mk (specPass fs pks (by have := HPL.out; have := HNL.out; omega) HFD.out HSHORT.out)
        have HQ2 := Aside0.mk hq2
        have HQ3 := Aside0.mk hq3
        clear hq1 hq2 hq3 HO
        go_wp2_with fail
        refine (spec_PassWire.calls 700 At ct fs A6 c6 pks _ _ (Kd.C_below HRT.out HB.out) HCT.out HQ3.out HQ2.out HPASS.out).mono ?_
        rintro e w' ⟨v10, rfl, ho, hb⟩
        have HV := Aside0.mk (Kd.R_lower (Kd.S_R (Kd.S_new' ho (Kd.S_lt (Kd.S_below HS.out HB.out)))) (Nat.le_trans HB0.out.size HB.out.size))
        replace HB := Aside0.mk (below_step HB.out hb)
        clear x0 x1 x2 x3 x4 x5 x6 y0 y1 y2 y3 y4 y5 y6 hb ho
        obtain ⟨⟨x0, x1, x2, x3, x4, x5, x6⟩, y0, y1, y2, y3, y4, y5, y6⟩ := cells76 (blk_below HX.out HB.out)
        go_wp2_with fail
        refine (spec_l4Behind.calls At ct fs (pks.length : Int) _ _ (Kd.C_below HRT.out HB.out) HCT.out (specBehind fs pks.length (by have := HLD.out; omega))).mono ?_
        rintro e w2 ⟨vt2, rfl, ho, hb⟩
        have HV2 := Aside0.mk (Kd.R_below HV.out hb)
        have HT2 := Aside0.mk (Kd.R_lower ho (Nat.le_trans HB0.out.size HB.out.size))
        replace HB := Aside0.mk (below_step HB.out hb)
        clear x0 x1 x2 x3 x4 x5 x6 y0 y1 y2 y3 y4 y5 y6 hb ho HV
        obtain ⟨⟨x0, x1, x2, x3, x4, x5, x6⟩, y0, y1, y2, y3, y4, y5, y6⟩ := cells76 (blk_below HX.out HB.out)
        rw [HPL.out, HDDA.out] at HT2
        have hlen2 := Kd.R_slice HT2.out
        generalize hfs2 : l2.drop (st.s1 + i) = fs2 at HT2 hlen2
        have HFS2 := Aside0.mk hfs2
        clear hfs2
        obtain ⟨At2, ct2, et2⟩ := hlen2
        subst et2
        have hw2 : wrap64 ((st.s1 : Int) + (st.s2 : Int) + (pks.length : Int)) = (st.s1 : Int) + st.s2 + i := by rw [HPL.out]; exact w64 _ (by have := HP.out.s1; have := HP.out.s2; have := HNL.out; omega)
        have hw3 : wrap64 ((st.s1 : Int) + (st.s2 : Int) + (i : Int)) = (st.s1 : Int) + st.s2 + i := w64 _ (by have := HP.out.s1; have := HP.out.s2; have := HNL.out; omega)
        obtain ⟨A10, c10, e10⟩ := Kd.R_slice HV2.out
        subst e10
        go_wp2_with fail
        obtain ⟨wB, hwB⟩ : ∃ W : World, W = (w2.setCell ⟨g, 5, none⟩ (.slice At2 fs2.length ct2)).setCell ⟨g, 2, none⟩ (.int .i64 ((st.s1 : Int) + st.s2 + i)) := ⟨_, rfl⟩
        rw [← hwB]
        have hX2 := blk_below HX.out HB.out
        have hX3 := heap_set (j := 5) (v := .slice At2 fs2.length ct2) hX2
        have n1_ := Aside0.mk (show wB.heap[g]? = some (.cells #[vg, .int .i64 st.rounds, .int .i64 (((st.s1 + i : Nat) : Int) + st.s2), .bool false, .int .i64 st.kn, .slice At2 fs2.length ct2, vb] 76 (0, 0)) by
          rw [hwB, heap_set hX3, show ((st.s1 + i : Nat) : Int) + st.s2 = (st.s1 : Int) + st.s2 + i by omega]
          rfl)
        have n2_ := Aside0.mk (show Kd.S (Kd.slice 5 (Kd.int .u8)) 22 wB w0.heap.size (fun _ => True) vg st.got by
          rw [hwB]
          exact Kd.S_set (Kd.S_set (Kd.S_below HS.out HB.out) hX2 (by decide) _ _) hX3 (by decide) _ _)
        have n3_ := Aside0.mk (show Kd.R (Kd.int .i64) 3 wB w0.heap.size (fun _ => True) (.slice At2 fs2.length ct2) fs2 by
          rw [hwB]
          exact Kd.R_set (Kd.R_set HT2.out hX2 (by decide) _ _) hX3 (by decide) _ _)
        have n4_ := Aside0.mk (show FateRow w0 wB vb (l3.drop st.s2) by
          rw [hwB]
          exact ((HV3.out.below HB.out).set hX2 (by decide) _ _).set hX3 (by decide) _ _)
        have n5_ := Aside0.mk (show Kd.R (Kd.slice 5 (Kd.int .u8)) 22 wB w0.heap.size (fun k => True ∧ some k ≠ vg.ownBlock) (.slice A10 (passWire fs pks).length c10) (passWire fs pks) by
          rw [hwB]
          exact Kd.R_set (Kd.R_set HV2.out hX2 (by decide) _ _) hX3 (by decide) _ _)
        have n6_ := Aside0.mk (show Below w0.heap.size w0 wB by
          rw [hwB]
          exact below_set (below_set (below_step HB0.out HB.out) HGE.out) HGE.out)
        clear hw2 hw3 hwB hX2 hX3 HS HT2 HV3 HV2 HB HX HB0 x0 x1 x2 x3 x4 x5 x6 y0 y1 y2 y3 y4 y5 y6
        have HX := n1_
        have HS := n2_
        have HT := n3_
        have HV3 := n4_
        have HV := n5_
        have HB := n6_
        clear n1_ n2_ n3_ n4_ n5_ n6_
        have HAR := Aside0.mk (show passWire fs pks = (arrivals fs i).map (passOf fs pks) by unfold passWire; rw [HPL.out])
        have HAM := Aside0.mk (arrivals_mem fs i)
        have HAL := Aside0.mk (arrivals_length fs i)
        have HLEN := Aside0.mk (show (passWire fs pks).length = (arrivals fs i).length by rw [HAR.out, List.length_map])
        generalize passWire fs pks = arr at HV HAR HLEN ⊢
        generalize arrivals fs i = ar at HAR HAM HAL HGOT2 HLEN
        go_loopg [11] ar.length (fun kq v11 w' => ∃ (j : Nat) (vg' : Value) (got' : List (List Int)), v11 = .int .i64 (j : Int) ∧ Aside0 (j + kq = ar.length) ∧ Aside0 ((ar.drop j).foldl (recv1 l1 st.kn fs) got' = got2) ∧ Aside0 (got'.length ≤ st.got.length + j) ∧ Aside0 (w'.heap[g]? = some (.cells #[vg', .int .i64 st.rounds, .int .i64 (((st.s1 + i : Nat) : Int) + st.s2), .bool false, .int .i64 st.kn, .slice At2 fs2.length ct2, vb] 76 (0, 0))) ∧ Aside0 (Kd.S (Kd.slice 5 (Kd.int .u8)) 22 w' w0.heap.size (fun _ => True) vg' got') ∧ Aside0 (Kd.R (Kd.int .i64) 3 w' w0.heap.size (fun _ => True) (.slice At2 fs2.length ct2) fs2) ∧ Aside0 (FateRow w0 w' vb (l3.drop st.s2)) ∧ Aside0 (Kd.R (Kd.slice 5 (Kd.int .u8)) 22 w' w0.heap.size (fun k => True ∧ some k ≠ vg'.ownBlock) (.slice A10 arr.length c10) arr) ∧ Aside0 (Below w0.heap.size w0 w'))
        case atStart => exact ⟨0, vg, st.got, rfl, ⟨by simp⟩, ⟨HGOT2.out.symm⟩, ⟨Nat.le_refl _⟩, HX, HS, HT, HV3, HV, HB⟩
        case round =>
          clear HX HS HT HV3 HV HB
          obtain ⟨j, vg', got', rfl, HJ, HG2, HGL, HX, HS, HT, HV3, HV, HB⟩ := hrel
          obtain ⟨⟨x0, x1, x2, x3, x4, x5, x6⟩, y0, y1, y2, y3, y4, y5, y6⟩ := cells76 HX.out
          cases gk with
          | zero =>
            obtain rfl : ar.length = j := by have := HJ.out; omega
            have c1 : decide ((ar.length : Int) < arr.length) = false := decide_eq_false (by have := HLEN.out; omega)
            have c1n : decide (ar.length < arr.length) = false := decide_eq_false (by have := HLEN.out; omega)
            rw [List.drop_length] at HG2
            obtain rfl : got' = got2 := HG2.out
            go_wp2_with fail
            go_end0
            exact ⟨rfl, ⟨vg', _, vb, HX.out, HS.out, .inr (by show Kd.R _ _ _ _ _ _ (l2.drop (st.s1 + i)); rw [HFS2.out]; exact HT.out), HV3.out⟩, HGE.out, HB.out⟩
          | succ k3 =>
            have hj : j < ar.length := by have := HJ.out; omega
            have c1 : decide ((j : Int) < arr.length) = true := decide_eq_true (by have := HLEN.out; omega)
            have c1n : decide (j < arr.length) = true := decide_eq_true (by have := HLEN.out; omega)
            have c2 : (0 ≤ (j : Int)) = True := eq_true (by omega)
            have c3 : ((j : Int) < arr.length) = True := eq_true (by have := HLEN.out; omega)
            have c3n : (j < arr.length) = True := eq_true (by have := HLEN.out; omega)
            have hja : j < arr.length := by have := HLEN.out; omega
            obtain ⟨ad, Ab, cb, hA, hx, hcap, hrr⟩ := at_L2 (Kd.R_reads' HV.out).2.2 (j : Int) (by omega) (by omega)
            subst hA
            have HD := Aside0.mk (show ar.drop j = ar[j] :: ar.drop (j + 1) from List.drop_eq_getElem_cons hj)
            have ha := HAM.out ar[j] (List.getElem_mem hj)
            have hu := HUN.out ar[j] ha.1 ha.2
            have hpj : rd_L2 arr (j : Int) = passOf fs pks ar[j] := by rw [rd_L2_get hja]; simp [HAR.out]
            rw [hpj, Int.toNat_natCast] at hx
            rw [hpj] at hcap hrr
            generalize passOf fs pks ar[j] = pj at hx hcap hrr hu
            generalize ar[j] = idx at HD ha hu
            have HU := Aside0.mk hu
            have HRB := Aside0.mk hrr
            have HCB := Aside0.mk hcap
            clear hu hrr hcap ha hpj hj hja
            have hw1 : wrap64 ((j : Int) + 1) = ((j + 1 : Nat) : Int) := by rw [w64 _ (by have := HJ.out; have := HAL.out; have := HNL.out; omega)]; simp
            obtain ⟨Ag, cg, eg⟩ := Kd.S_slice HS.out
            subst eg
            have hrem : Int.tmod (got'.length : Int) 16 = ((got'.length % 16 : Nat) : Int) := by rw [Int.tmod_eq_emod_of_nonneg (by omega)]; simp
            have hrem2 : Int.tmod (got'.length : Int) 16 = (got'.length : Int) % 16 := by rw [Int.tmod_eq_emod_of_nonneg (by omega)]
            by_cases hf : fateN fs idx.toNat = 4
            · have HREC := Aside0.mk (show recv1 l1 st.kn fs got' idx = got' by unfold recv1; rw [if_pos hf])
              unfold unOf at HU
              rw [if_pos hf] at HU
              clear hf
              go_wp2_with (go_at_call 76; (with_reducible refine (spec_UnpackLink.calls 700 _ _ pj _ _ _ _ _ ?s0 ?s1 HU.out).mono ?_); (case s0 => exact HRB.out); (case s1 => exact HCB.out); rintro e w' ⟨ve, rfl, he, hb⟩; have n0_ := Aside0.mk (Kd.S_below HS.out hb); have n1_ := Aside0.mk (Kd.R_below HV.out hb); have n2_ := Aside0.mk (HB.out.trans (hb.mono HB.out.size)); have n3_ := Aside0.mk (blk_below HX.out hb); have n6_ := Aside0.mk (Kd.R_below HT.out hb); have n7_ := Aside0.mk (HV3.out.below hb); clear HS HV HB HX HT HV3; have HS := n0_; have HV := n1_; have HB := n2_; have HX := n3_; have HT := n6_; have HV3 := n7_; clear x0 x1 x2 x3 x4 x5 x6 y0 y1 y2 y3 y4 y5 y6; obtain ⟨⟨x0, x1, x2, x3, x4, x5, x6⟩, y0, y1, y2, y3, y4, y5, y6⟩ := cells76 HX.out; clear n0_ n1_ n2_ n3_ n6_ n7_ he hb)
              go_roundg k3
              case measure => omega
              case rel => exact ⟨j + 1, _, got', by rw [hw1], ⟨by have := HJ.out; omega⟩, ⟨by have := HG2.out; rw [HD.out, List.foldl_cons, HREC.out] at this; exact this⟩, ⟨by have := HGL.out; omega⟩, HX, HS, HT, HV3, HV, HB⟩
            · unfold unOf at HU
              rw [if_neg hf] at HU
              by_cases hq : (st.kn + idx.toNat) % 16 = got'.length % 16
              · have HREC := Aside0.mk (show recv1 l1 st.kn fs got' idx = got' ++ [l1.getD (st.kn + idx.toNat) []] by unfold recv1; rw [if_neg hf, if_pos hq])
                rw [hq] at HU
                generalize l1.getD (st.kn + idx.toNat) [] = d at HREC HU
                clear hq hf
                have e6 : (((got'.length % 16 : Nat) : Int) == (got'.length : Int) % 16) = true := by simp
                go_wp2_with (first
              | (go_at_call 76; (with_reducible refine (spec_UnpackLink.calls 700 _ _ pj _ _ _ _ _ ?s0 ?s1 HU.out).mono ?_); (case s0 => exact HRB.out); (case s1 => exact HCB.out); rintro e w' ⟨ve, rfl, he, hb⟩; have n4_ := Aside0.mk (fun (k : Nat) (hk : some k = ve.ownBlock) (e : some k = (Value.slice Ag got'.length cg).ownBlock) => (by have h1 := Kd.R_base he k hk.symm; have h2 := Kd.S_lt HS.out k e.symm; omega : False)); have n5_ := Aside0.mk (Kd.R_tight rfl (Kd.R_lower he HB.out.size)); have n0_ := Aside0.mk (Kd.S_elder' HS.out (Kd.R_base he) hb); have n1_ := Aside0.mk (Kd.R_below HV.out hb); have n2_ := Aside0.mk (HB.out.trans (hb.mono HB.out.size)); have n3_ := Aside0.mk (blk_below HX.out hb); have n6_ := Aside0.mk (Kd.R_below HT.out hb); have n7_ := Aside0.mk (HV3.out.below hb); clear HS HV HB HX HT HV3; have HS := n0_; have HV := n1_; have HB := n2_; have HX := n3_; have HT := n6_; have HV3 := n7_; clear x0 x1 x2 x3 x4 x5 x6 y0 y1 y2 y3 y4 y5 y6; obtain ⟨⟨x0, x1, x2, x3, x4, x5, x6⟩, y0, y1, y2, y3, y4, y5, y6⟩ := cells76 HX.out; have HAP := n4_; have HE := n5_; clear n0_ n1_ n2_ n3_ n4_ n5_ n6_ n7_ he hb; obtain ⟨Ae, ce, ee⟩ := Kd.R_slice HE.out; subst ee)
              | ((with_reducible refine gate_builtin (b := .append) (xs := #[.tmp 116, .tmp 118]) rfl ?_); at_builtin; refine Kd.S_append (Kd.slice 5 (Kd.int .u8)) (w0 := w0) w0.heap.size rfl (.tmp 116) (.tmp 118) 23 22 (.slice none 0 0) 24 rfl Try.underlying23 info22 rfl (by decide) (by omega) (.slice Ag got'.length cg) got' d [.slice Ae d.length ce] (fun _ => True) (fun k_ => some k_ = (.slice Ae d.length ce : Value).ownBlock) rfl (by first | rfl | (show Value.slice _ 1 1 = _; simp)) ?aP (fun k_ hk_ => ⟨trivial, fun e_ => HAP.out k_ hk_ e_⟩) ?aF ?aO ?aB ?aS ?aL ?_; (case aP => exact Kd.M_row HE.out); (case aB => exact HB.out); (case aF => exact (fun _ _ => trivial)); (case aO => exact HS.out); (case aS => exact HB.out.size); (case aL => have := HGL.out; have := HP.out.got; have := HAL.out; have := HNL.out; have := HJ.out; omega); intro v1 w1 ho hb hg hat; have n0_ := Aside0.mk (Kd.R_after HV.out hg hat); have n1_ := Aside0.mk (grown76 HX.out (by decide) hg (Kd.S_typed HS.out)); have n2_ := Aside0.mk ho; have n3_ := Aside0.mk hb; have n4_ := Aside0.mk (Kd.R_over' HT.out (Kd.S_typed HS.out) (by decide) hg); have n5_ := Aside0.mk (HV3.out.grown hg (Kd.S_typed HS.out)); clear HV HX HS HB HAP HE HT HV3; have HV := n0_; have HX := n1_; have HSN := n2_; have HB := n3_; have HT := n4_; have HV3 := n5_; clear n0_ n1_ n2_ n3_ n4_ n5_ ho hb hg hat; obtain ⟨A1_, c1_, e1_⟩ := Kd.S_slice HSN.out; subst e1_; clear x0 x1 x2 x3 x4 x5 x6 y0 y1 y2 y3 y4 y5 y6; obtain ⟨⟨x0, x1, x2, x3, x4, x5, x6⟩, y0, y1, y2, y3, y4, y5, y6⟩ := cells76 HX.out))
                go_roundg k3
                case measure => omega
                case rel =>
                  have hl2 : got'.length + 1 = (got' ++ [d]).length := by simp
                  exact ⟨j + 1, .slice A1_ (got' ++ [d]).length c1_, got' ++ [d], by rw [hw1], ⟨by have := HJ.out; omega⟩, ⟨by have := HG2.out; rw [HD.out, List.foldl_cons, HREC.out] at this; exact this⟩, ⟨by have := HGL.out; simp; omega⟩, ⟨by rw [hl2, heap_set HX.out]; rfl⟩, ⟨by rw [hl2]; exact Kd.S_set HSN.out HX.out (by decide) _ _⟩, ⟨by rw [hl2]; exact Kd.R_set HT.out HX.out (by decide) _ _⟩, ⟨by rw [hl2]; exact HV3.out.set HX.out (by decide) _ _⟩, ⟨by rw [hl2]; exact Kd.R_set HV.out HX.out (by decide) _ _⟩, ⟨below_set HB.out HGE.out⟩⟩
              · have HREC := Aside0.mk (show recv1 l1 st.kn fs got' idx = got' by unfold recv1; rw [if_neg hf, if_neg hq])
                have e6 : ((((st.kn + idx.toNat) % 16 : Nat) : Int) == (got'.length : Int) % 16) = false := beq_eq_false_iff_ne.mpr (by omega)
                have e7 : (((st.kn : Int) + (idx.toNat : Int)) % 16 == (got'.length : Int) % 16) = false := beq_eq_false_iff_ne.mpr (by omega)
                generalize idx.toNat = ix at *
                clear hq hf
                go_wp2_with (go_at_call 76; (with_reducible refine (spec_UnpackLink.calls 700 _ _ pj _ _ _ _ _ ?s0 ?s1 HU.out).mono ?_); (case s0 => exact HRB.out); (case s1 => exact HCB.out); rintro e w' ⟨ve, rfl, he, hb⟩; have n0_ := Aside0.mk (Kd.S_below HS.out hb); have n1_ := Aside0.mk (Kd.R_below HV.out hb); have n2_ := Aside0.mk (HB.out.trans (hb.mono HB.out.size)); have n3_ := Aside0.mk (blk_below HX.out hb); have n6_ := Aside0.mk (Kd.R_below HT.out hb); have n7_ := Aside0.mk (HV3.out.below hb); clear HS HV HB HX HT HV3; have HS := n0_; have HV := n1_; have HB := n2_; have HX := n3_; have HT := n6_; have HV3 := n7_; clear x0 x1 x2 x3 x4 x5 x6 y0 y1 y2 y3 y4 y5 y6; obtain ⟨⟨x0, x1, x2, x3, x4, x5, x6⟩, y0, y1, y2, y3, y4, y5, y6⟩ := cells76 HX.out; clear n0_ n1_ n2_ n3_ n6_ n7_ he hb)
                go_roundg k3
                case measure => omega
                case rel => exact ⟨j + 1, _, got', by rw [hw1], ⟨by have := HJ.out; omega⟩, ⟨by have := HG2.out; rw [HD.out, List.foldl_cons, HREC.out] at this; exact this⟩, ⟨by have := HGL.out; omega⟩, HX, HS, HT, HV3, HV, HB⟩
      · have t1 : decide (((st.kn + i : Nat) : Int) < l1.length) = false := decide_eq_false (by omega)
        have t2 : decide ((st.kn : Int) + i < l1.length) = false := decide_eq_false (by omega)
        have t3 : decide (st.kn + i < l1.length) = false := decide_eq_false (by omega)
        clear hA
        obtain ⟨A6, c6, e6⟩ := Kd.R_slice HO.out
        subst e6
        obtain ⟨hq1, hq2, hq3⟩ := Kd.R_reads' HO.out
        have HPL := Aside0.mk (spec_packs_length l1 st.kn i)
        have HSHORT := Aside0.mk (spec_packs_short HSH.out st.kn i)
        have HUN := Aside0.mk (fun (x : Int) (h0 : 0 ≤ x) (h1 : x < i) => spec_unOf HSH.out HBO.out st.kn i fs x h0 h1)
        generalize spec_packs l1 st.kn i = pks at hq1 hq2 hq3 HSHORT HPL HUN HO ⊢
        have HPASS := Aside0.mk (specPass fs pks (by have := HPL.out; have := HNL.out; omega) HFD.out HSHORT.out)
        have HQ2 := Aside0.mk hq2
        have HQ3 := Aside0.mk hq3
        clear hq1 hq2 hq3 HO
        go_wp2_with fail
        refine (spec_PassWire.calls 700 At ct fs A6 c6 pks _ _ (Kd.C_below HRT.out HB.out) HCT.out HQ3.out HQ2.out HPASS.out).mono ?_
        rintro e w' ⟨v10, rfl, ho, hb⟩
        have HV := Aside0.mk (Kd.R_lower (Kd.S_R (Kd.S_new' ho (Kd.S_lt (Kd.S_below HS.out HB.out)))) (Nat.le_trans HB0.out.size HB.out.size))
        replace HB := Aside0.mk (below_step HB.out hb)
        clear x0 x1 x2 x3 x4 x5 x6 y0 y1 y2 y3 y4 y5 y6 hb ho
        obtain ⟨⟨x0, x1, x2, x3, x4, x5, x6⟩, y0, y1, y2, y3, y4, y5, y6⟩ := cells76 (blk_below HX.out HB.out)
        go_wp2_with fail
        refine (spec_l4Behind.calls At ct fs (pks.length : Int) _ _ (Kd.C_below HRT.out HB.out) HCT.out (specBehind fs pks.length (by have := HLD.out; omega))).mono ?_
        rintro e w2 ⟨vt2, rfl, ho, hb⟩
        have HV2 := Aside0.mk (Kd.R_below HV.out hb)
        have HT2 := Aside0.mk (Kd.R_lower ho (Nat.le_trans HB0.out.size HB.out.size))
        replace HB := Aside0.mk (below_step HB.out hb)
        clear x0 x1 x2 x3 x4 x5 x6 y0 y1 y2 y3 y4 y5 y6 hb ho HV
        obtain ⟨⟨x0, x1, x2, x3, x4, x5, x6⟩, y0, y1, y2, y3, y4, y5, y6⟩ := cells76 (blk_below HX.out HB.out)
        rw [HPL.out, HDDA.out] at HT2
        have hlen2 := Kd.R_slice HT2.out
        generalize hfs2 : l2.drop (st.s1 + i) = fs2 at HT2 hlen2
        have HFS2 := Aside0.mk hfs2
        clear hfs2
        obtain ⟨At2, ct2, et2⟩ := hlen2
        subst et2
        have hw2 : wrap64 ((st.s1 : Int) + (st.s2 : Int) + (pks.length : Int)) = (st.s1 : Int) + st.s2 + i := by rw [HPL.out]; exact w64 _ (by have := HP.out.s1; have := HP.out.s2; have := HNL.out; omega)
        have hw3 : wrap64 ((st.s1 : Int) + (st.s2 : Int) + (i : Int)) = (st.s1 : Int) + st.s2 + i := w64 _ (by have := HP.out.s1; have := HP.out.s2; have := HNL.out; omega)
        obtain ⟨A10, c10, e10⟩ := Kd.R_slice HV2.out
        subst e10
        go_wp2_with fail
        obtain ⟨wB, hwB⟩ : ∃ W : World, W = (w2.setCell ⟨g, 5, none⟩ (.slice At2 fs2.length ct2)).setCell ⟨g, 2, none⟩ (.int .i64 ((st.s1 : Int) + st.s2 + i)) := ⟨_, rfl⟩
        rw [← hwB]
        have hX2 := blk_below HX.out HB.out
        have hX3 := heap_set (j := 5) (v := .slice At2 fs2.length ct2) hX2
        have n1_ := Aside0.mk (show wB.heap[g]? = some (.cells #[vg, .int .i64 st.rounds, .int .i64 (((st.s1 + i : Nat) : Int) + st.s2), .bool false, .int .i64 st.kn, .slice At2 fs2.length ct2, vb] 76 (0, 0)) by
          rw [hwB, heap_set hX3, show ((st.s1 + i : Nat) : Int) + st.s2 = (st.s1 : Int) + st.s2 + i by omega]
          rfl)
        have n2_ := Aside0.mk (show Kd.S (Kd.slice 5 (Kd.int .u8)) 22 wB w0.heap.size (fun _ => True) vg st.got by
          rw [hwB]
          exact Kd.S_set (Kd.S_set (Kd.S_below HS.out HB.out) hX2 (by decide) _ _) hX3 (by decide) _ _)
        have n3_ := Aside0.mk (show Kd.R (Kd.int .i64) 3 wB w0.heap.size (fun _ => True) (.slice At2 fs2.length ct2) fs2 by
          rw [hwB]
          exact Kd.R_set (Kd.R_set HT2.out hX2 (by decide) _ _) hX3 (by decide) _ _)
        have n4_ := Aside0.mk (show FateRow w0 wB vb (l3.drop st.s2) by
          rw [hwB]
          exact ((HV3.out.below HB.out).set hX2 (by decide) _ _).set hX3 (by decide) _ _)
        have n5_ := Aside0.mk (show Kd.R (Kd.slice 5 (Kd.int .u8)) 22 wB w0.heap.size (fun k => True ∧ some k ≠ vg.ownBlock) (.slice A10 (passWire fs pks).length c10) (passWire fs pks) by
          rw [hwB]
          exact Kd.R_set (Kd.R_set HV2.out hX2 (by decide) _ _) hX3 (by decide) _ _)
        have n6_ := Aside0.mk (show Below w0.heap.size w0 wB by
          rw [hwB]
          exact below_set (below_set (below_step HB0.out HB.out) HGE.out) HGE.out)
        clear hw2 hw3 hwB hX2 hX3 HS HT2 HV3 HV2 HB HX HB0 x0 x1 x2 x3 x4 x5 x6 y0 y1 y2 y3 y4 y5 y6
        have HX := n1_
        have HS := n2_
        have HT := n3_
        have HV3 := n4_
        have HV := n5_
        have HB := n6_
        clear n1_ n2_ n3_ n4_ n5_ n6_
        have HAR := Aside0.mk (show passWire fs pks = (arrivals fs i).map (passOf fs pks) by unfold passWire; rw [HPL.out])
        have HAM := Aside0.mk (arrivals_mem fs i)
        have HAL := Aside0.mk (arrivals_length fs i)
        have HLEN := Aside0.mk (show (passWire fs pks).length = (arrivals fs i).length by rw [HAR.out, List.length_map])
        generalize passWire fs pks = arr at HV HAR HLEN ⊢
        generalize arrivals fs i = ar at HAR HAM HAL HGOT2 HLEN
        go_loopg [11] ar.length (fun kq v11 w' => ∃ (j : Nat) (vg' : Value) (got' : List (List Int)), v11 = .int .i64 (j : Int) ∧ Aside0 (j + kq = ar.length) ∧ Aside0 ((ar.drop j).foldl (recv1 l1 st.kn fs) got' = got2) ∧ Aside0 (got'.length ≤ st.got.length + j) ∧ Aside0 (w'.heap[g]? = some (.cells #[vg', .int .i64 st.rounds, .int .i64 (((st.s1 + i : Nat) : Int) + st.s2), .bool false, .int .i64 st.kn, .slice At2 fs2.length ct2, vb] 76 (0, 0))) ∧ Aside0 (Kd.S (Kd.slice 5 (Kd.int .u8)) 22 w' w0.heap.size (fun _ => True) vg' got') ∧ Aside0 (Kd.R (Kd.int .i64) 3 w' w0.heap.size (fun _ => True) (.slice At2 fs2.length ct2) fs2) ∧ Aside0 (FateRow w0 w' vb (l3.drop st.s2)) ∧ Aside0 (Kd.R (Kd.slice 5 (Kd.int .u8)) 22 w' w0.heap.size (fun k => True ∧ some k ≠ vg'.ownBlock) (.slice A10 arr.length c10) arr) ∧ Aside0 (Below w0.heap.size w0 w'))
        case atStart => exact ⟨0, vg, st.got, rfl, ⟨by simp⟩, ⟨HGOT2.out.symm⟩, ⟨Nat.le_refl _⟩, HX, HS, HT, HV3, HV, HB⟩
        case round =>
          clear HX HS HT HV3 HV HB
          obtain ⟨j, vg', got', rfl, HJ, HG2, HGL, HX, HS, HT, HV3, HV, HB⟩ := hrel
          obtain ⟨⟨x0, x1, x2, x3, x4, x5, x6⟩, y0, y1, y2, y3, y4, y5, y6⟩ := cells76 HX.out
          cases gk with
          | zero =>
            obtain rfl : ar.length = j := by have := HJ.out; omega
            have c1 : decide ((ar.length : Int) < arr.length) = false := decide_eq_false (by have := HLEN.out; omega)
            have c1n : decide (ar.length < arr.length) = false := decide_eq_false (by have := HLEN.out; omega)
            rw [List.drop_length] at HG2
            obtain rfl : got' = got2 := HG2.out
            go_wp2_with fail
            go_end0
            exact ⟨rfl, ⟨vg', _, vb, HX.out, HS.out, .inr (by show Kd.R _ _ _ _ _ _ (l2.drop (st.s1 + i)); rw [HFS2.out]; exact HT.out), HV3.out⟩, HGE.out, HB.out⟩
          | succ k3 =>
            have hj : j < ar.length := by have := HJ.out; omega
            have c1 : decide ((j : Int) < arr.length) = true := decide_eq_true (by have := HLEN.out; omega)
            have c1n : decide (j < arr.length) = true := decide_eq_true (by have := HLEN.out; omega)
            have c2 : (0 ≤ (j : Int)) = True := eq_true (by omega)
            have c3 : ((j : Int) < arr.length) = True := eq_true (by have := HLEN.out; omega)
            have c3n : (j < arr.length) = True := eq_true (by have := HLEN.out; omega)
            have hja : j < arr.length := by have := HLEN.out; omega
            obtain ⟨ad, Ab, cb, hA, hx, hcap, hrr⟩ := at_L2 (Kd.R_reads' HV.out).2.2 (j : Int) (by omega) (by omega)
            subst hA
            have HD := Aside0.mk (show ar.drop j = ar[j] :: ar.drop (j + 1) from List.drop_eq_getElem_cons hj)
            have ha := HAM.out ar[j] (List.getElem_mem hj)
            have hu := HUN.out ar[j] ha.1 ha.2
            have hpj : rd_L2 arr (j : Int) = passOf fs pks ar[j] := by rw [rd_L2_get hja]; simp [HAR.out]
            rw [hpj, Int.toNat_natCast] at hx
            rw [hpj] at hcap hrr
            generalize passOf fs pks ar[j] = pj at hx hcap hrr hu
            generalize ar[j] = idx at HD ha hu
            have HU := Aside0.mk hu
            have HRB := Aside0.mk hrr
            have HCB := Aside0.mk hcap
            clear hu hrr hcap ha hpj hj hja
            have hw1 : wrap64 ((j : Int) + 1) = ((j + 1 : Nat) : Int) := by rw [w64 _ (by have := HJ.out; have := HAL.out; have := HNL.out; omega)]; simp
            obtain ⟨Ag, cg, eg⟩ := Kd.S_slice HS.out
            subst eg
            have hrem : Int.tmod (got'.length : Int) 16 = ((got'.length % 16 : Nat) : Int) := by rw [Int.tmod_eq_emod_of_nonneg (by omega)]; simp
            have hrem2 : Int.tmod (got'.length : Int) 16 = (got'.length : Int) % 16 := by rw [Int.tmod_eq_emod_of_nonneg (by omega)]
            by_cases hf : fateN fs idx.toNat = 4
            · have HREC := Aside0.mk (show recv1 l1 st.kn fs got' idx = got' by unfold recv1; rw [if_pos hf])
              unfold unOf at HU
              rw [if_pos hf] at HU
              clear hf
              go_wp2_with (go_at_call 76; (with_reducible refine (spec_UnpackLink.calls 700 _ _ pj _ _ _ _ _ ?s0 ?s1 HU.out).mono ?_); (case s0 => exact HRB.out); (case s1 => exact HCB.out); rintro e w' ⟨ve, rfl, he, hb⟩; have n0_ := Aside0.mk (Kd.S_below HS.out hb); have n1_ := Aside0.mk (Kd.R_below HV.out hb); have n2_ := Aside0.mk (HB.out.trans (hb.mono HB.out.size)); have n3_ := Aside0.mk (blk_below HX.out hb); have n6_ := Aside0.mk (Kd.R_below HT.out hb); have n7_ := Aside0.mk (HV3.out.below hb); clear HS HV HB HX HT HV3; have HS := n0_; have HV := n1_; have HB := n2_; have HX := n3_; have HT := n6_; have HV3 := n7_; clear x0 x1 x2 x3 x4 x5 x6 y0 y1 y2 y3 y4 y5 y6; obtain ⟨⟨x0, x1, x2, x3, x4, x5, x6⟩, y0, y1, y2, y3, y4, y5, y6⟩ := cells76 HX.out; clear n0_ n1_ n2_ n3_ n6_ n7_ he hb)
              go_roundg k3
              case measure => omega
              case rel => exact ⟨j + 1, _, got', by rw [hw1], ⟨by have := HJ.out; omega⟩, ⟨by have := HG2.out; rw [HD.out, List.foldl_cons, HREC.out] at this; exact this⟩, ⟨by have := HGL.out; omega⟩, HX, HS, HT, HV3, HV, HB⟩
            · unfold unOf at HU
              rw [if_neg hf] at HU
              by_cases hq : (st.kn + idx.toNat) % 16 = got'.length % 16
              · have HREC := Aside0.mk (show recv1 l1 st.kn fs got' idx = got' ++ [l1.getD (st.kn + idx.toNat) []] by unfold recv1; rw [if_neg hf, if_pos hq])
                rw [hq] at HU
                generalize l1.getD (st.kn + idx.toNat) [] = d at HREC HU
                clear hq hf
                have e6 : (((got'.length % 16 : Nat) : Int) == (got'.length : Int) % 16) = true := by simp
                go_wp2_with (first
              | (go_at_call 76; (with_reducible refine (spec_UnpackLink.calls 700 _ _ pj _ _ _ _ _ ?s0 ?s1 HU.out).mono ?_); (case s0 => exact HRB.out); (case s1 => exact HCB.out); rintro e w' ⟨ve, rfl, he, hb⟩; have n4_ := Aside0.mk (fun (k : Nat) (hk : some k = ve.ownBlock) (e : some k = (Value.slice Ag got'.length cg).ownBlock) => (by have h1 := Kd.R_base he k hk.symm; have h2 := Kd.S_lt HS.out k e.symm; omega : False)); have n5_ := Aside0.mk (Kd.R_tight rfl (Kd.R_lower he HB.out.size)); have n0_ := Aside0.mk (Kd.S_elder' HS.out (Kd.R_base he) hb); have n1_ := Aside0.mk (Kd.R_below HV.out hb); have n2_ := Aside0.mk (HB.out.trans (hb.mono HB.out.size)); have n3_ := Aside0.mk (blk_below HX.out hb); have n6_ := Aside0.mk (Kd.R_below HT.out hb); have n7_ := Aside0.mk (HV3.out.below hb); clear HS HV HB HX HT HV3; have HS := n0_; have HV := n1_; have HB := n2_; have HX := n3_; have HT := n6_; have HV3 := n7_; clear x0 x1 x2 x3 x4 x5 x6 y0 y1 y2 y3 y4 y5 y6; obtain ⟨⟨x0, x1, x2, x3, x4, x5, x6⟩, y0, y1, y2, y3, y4, y5, y6⟩ := cells76 HX.out; have HAP := n4_; have HE := n5_; clear n0_ n1_ n2_ n3_ n4_ n5_ n6_ n7_ he hb; obtain ⟨Ae, ce, ee⟩ := Kd.R_slice HE.out; subst ee)
              | ((with_reducible refine gate_builtin (b := .append) (xs := #[.tmp 116, .tmp 118]) rfl ?_); at_builtin; refine Kd.S_append (Kd.slice 5 (Kd.int .u8)) (w0 := w0) w0.heap.size rfl (.tmp 116) (.tmp 118) 23 22 (.slice none 0 0) 24 rfl Try.underlying23 info22 rfl (by decide) (by omega) (.slice Ag got'.length cg) got' d [.slice Ae d.length ce] (fun _ => True) (fun k_ => some k_ = (.slice Ae d.length ce : Value).ownBlock) rfl (by first | rfl | (show Value.slice _ 1 1 = _; simp)) ?aP (fun k_ hk_ => ⟨trivial, fun e_ => HAP.out k_ hk_ e_⟩) ?aF ?aO ?aB ?aS ?aL ?_; (case aP => exact Kd.M_row HE.out); (case aB => exact HB.out); (case aF => exact (fun _ _ => trivial)); (case aO => exact HS.out); (case aS => exact HB.out.size); (case aL => have := HGL.out; have := HP.out.got; have := HAL.out; have := HNL.out; have := HJ.out; omega); intro v1 w1 ho hb hg hat; have n0_ := Aside0.mk (Kd.R_after HV.out hg hat); have n1_ := Aside0.mk (grown76 HX.out (by decide) hg (Kd.S_typed HS.out)); have n2_ := Aside0.mk ho; have n3_ := Aside0.mk hb; have n4_ := Aside0.mk (Kd.R_over' HT.out (Kd.S_typed HS.out) (by decide) hg); have n5_ := Aside0.mk (HV3.out.grown hg (Kd.S_typed HS.out)); clear HV HX HS HB HAP HE HT HV3; have HV := n0_; have HX := n1_; have HSN := n2_; have HB := n3_; have HT := n4_; have HV3 := n5_; clear n0_ n1_ n2_ n3_ n4_ n5_ ho hb hg hat; obtain ⟨A1_, c1_, e1_⟩ := Kd.S_slice HSN.out; subst e1_; clear x0 x1 x2 x3 x4 x5 x6 y0 y1 y2 y3 y4 y5 y6; obtain ⟨⟨x0, x1, x2, x3, x4, x5, x6⟩, y0, y1, y2, y3, y4, y5, y6⟩ := cells76 HX.out))
                go_roundg k3
                case measure => omega
                case rel =>
                  have hl2 : got'.length + 1 = (got' ++ [d]).length := by simp
                  exact ⟨j + 1, .slice A1_ (got' ++ [d]).length c1_, got' ++ [d], by rw [hw1], ⟨by have := HJ.out; omega⟩, ⟨by have := HG2.out; rw [HD.out, List.foldl_cons, HREC.out] at this; exact this⟩, ⟨by have := HGL.out; simp; omega⟩, ⟨by rw [hl2, heap_set HX.out]; rfl⟩, ⟨by rw [hl2]; exact Kd.S_set HSN.out HX.out (by decide) _ _⟩, ⟨by rw [hl2]; exact Kd.R_set HT.out HX.out (by decide) _ _⟩, ⟨by rw [hl2]; exact HV3.out.set HX.out (by decide) _ _⟩, ⟨by rw [hl2]; exact Kd.R_set HV.out HX.out (by decide) _ _⟩, ⟨below_set HB.out HGE.out⟩⟩
              · have HREC := Aside0.mk (show recv1 l1 st.kn fs got' idx = got' by unfold recv1; rw [if_neg hf, if_neg hq])
                have e6 : ((((st.kn + idx.toNat) % 16 : Nat) : Int) == (got'.length : Int) % 16) = false := beq_eq_false_iff_ne.mpr (by omega)
                have e7 : (((st.kn : Int) + (idx.toNat : Int)) % 16 == (got'.length : Int) % 16) = false := beq_eq_false_iff_ne.mpr (by omega)
                generalize idx.toNat = ix at *
                clear hq hf
                go_wp2_with (go_at_call 76; (with_reducible refine (spec_UnpackLink.calls 700 _ _ pj _ _ _ _ _ ?s0 ?s1 HU.out).mono ?_); (case s0 => exact HRB.out); (case s1 => exact HCB.out); rintro e w' ⟨ve, rfl, he, hb⟩; have n0_ := Aside0.mk (Kd.S_below HS.out hb); have n1_ := Aside0.mk (Kd.R_below HV.out hb); have n2_ := Aside0.mk (HB.out.trans (hb.mono HB.out.size)); have n3_ := Aside0.mk (blk_below HX.out hb); have n6_ := Aside0.mk (Kd.R_below HT.out hb); have n7_ := Aside0.mk (HV3.out.below hb); clear HS HV HB HX HT HV3; have HS := n0_; have HV := n1_; have HB := n2_; have HX := n3_; have HT := n6_; have HV3 := n7_; clear x0 x1 x2 x3 x4 x5 x6 y0 y1 y2 y3 y4 y5 y6; obtain ⟨⟨x0, x1, x2, x3, x4, x5, x6⟩, y0, y1, y2, y3, y4, y5, y6⟩ := cells76 HX.out; clear n0_ n1_ n2_ n3_ n6_ n7_ he hb)
                go_roundg k3
                case measure => omega
                case rel => exact ⟨j + 1, _, got', by rw [hw1], ⟨by have := HJ.out; omega⟩, ⟨by have := HG2.out; rw [HD.out, List.foldl_cons, HREC.out] at this; exact this⟩, ⟨by have := HGL.out; omega⟩, HX, HS, HT, HV3, HV, HB⟩
    | succ k2 =>
      have hi : i < n := by have := HI.out; omega
      have hki : st.kn + i < l1.length := by have := HN.out; omega
      have hkw : i < win := by have := HN.out; omega
      have t1 : decide (((st.kn + i : Nat) : Int) < l1.length) = true := decide_eq_true (by omega)
      have t2 : decide ((st.kn : Int) + i < l1.length) = true := decide_eq_true (by omega)
      have t3 : decide (st.kn + i < l1.length) = true := decide_eq_true (by omega)
      have t4 : decide (i < win) = true := decide_eq_true (by omega)
      have t4b : decide ((i : Int) < win) = true := decide_eq_true (by omega)
      have t4c : decide ((st.kn : Int) + i < (st.kn : Int) + win) = true := decide_eq_true (by omega)
      have t4d : decide (((st.kn + i : Nat) : Int) < (st.kn : Int) + win) = true := decide_eq_true (by omega)
      have t5 : (0 ≤ ((st.kn + i : Nat) : Int)) = True := eq_true (by omega)
      have t6 : (((st.kn + i : Nat) : Int) < l1.length) = True := eq_true (by omega)
      have t7 : (0 ≤ (st.kn : Int) + i) = True := eq_true (by omega)
      have t8 : ((st.kn : Int) + i < l1.length) = True := eq_true (by omega)
      have t9 : Int.tmod ((st.kn + i : Nat) : Int) 16 = (((st.kn + i) % 16 : Nat) : Int) := by rw [Int.tmod_eq_emod_of_nonneg (by omega)]; simp
      have t10 : Int.tmod ((st.kn : Int) + i) 16 = (((st.kn + i) % 16 : Nat) : Int) := by rw [← Int.natCast_add]; exact t9
      obtain ⟨ad, Ab, cb, hA, hx, hcap, hrr⟩ := at_L2 HR1.out ((st.kn + i : Nat) : Int) (by omega) (by omega)
      subst hA
      replace hx := ((HB0.out.trans (HB.out.mono HB0.out.size)).cell (World.block_lt_of_cell? _ _ hx)).trans hx
      rw [rd_L2_get hki] at hx hcap hrr
      have HSUCC := Aside0.mk (spec_packs_succ l1 st.kn i)
      have hgd : l1.getD (st.kn + i) [] = l1[st.kn + i] := by rw [List.getD_eq_getElem?_getD, List.getElem?_eq_getElem hki]; rfl
      rw [hgd] at HSUCC
      have HPK := Aside0.mk (spec_pack 1 (((st.kn + i) % 16 : Nat) : Int) l1[st.kn + i] (.inl rfl) (by omega) (by omega) (by rw [← hgd]; exact short_getD HSH.out _) (by rw [← hgd]; exact bytesOk_getD HBO.out _))
      clear hgd
      generalize l1[st.kn + i] = b at hx hcap hrr HSUCC HPK
      have HRB := Aside0.mk hrr
      have HCB := Aside0.mk hcap
      clear hrr hcap
      rw [Int.toNat_natCast] at hx
      generalize spec_packv 1 (((st.kn + i) % 16 : Nat) : Int) b = pk at HSUCC HPK
      have HPK2 := Aside0.mk (show spec_PackLink.f 700 1 (((st.kn : Int) + i) % 16) b = some (pk, true) by have := HPK.out; simpa using this)
      have HX1 := Aside0.mk (spec_packs_length l1 st.kn i)
      have hw1 : wrap64 ((st.kn : Int) + i + 1) = ((st.kn + (i + 1) : Nat) : Int) := by rw [w64 _ (by have := HP.out.len; omega)]; simp; omega
      go_wp2_with (first
      | (go_at_call 73; (with_reducible refine (spec_PackLink.calls 700 1 _ Ab cb b pk true _ (Kd.C_below HRB.out (HB0.out.trans (HB.out.mono HB0.out.size))) HCB.out HPK2.out).mono ?_); rintro e w' ⟨ve, rfl, he, hb⟩; obtain ⟨_, hown⟩ := Kd.R_own HO.out; have n2_ := Aside0.mk (Kd.R_lower (Kd.R_mono (ok' := fun k_ => some k_ ≠ (u6 : Value).ownBlock) (Kd.R_new he hown) (fun _ hk => hk.2)) (below_size HB.out)); clear hown; have n0_ := Aside0.mk (Kd.R_below HO.out hb); have n1_ := Aside0.mk (below_step HB.out hb); clear HO HB; have HO := n0_; have HB := n1_; have HE := n2_; clear n0_ n1_ n2_ hb he; obtain ⟨Ae, ce, ee⟩ := Kd.R_slice HE.out; subst ee)
      | ((with_reducible refine gate_builtin (b := .append) (xs := #[.tmp 47, .tmp 49]) rfl ?_); at_builtin; refine Kd.R_append (Kd.slice 5 (Kd.int .u8)) (w0 := w) w.heap.size rfl (.tmp 47) (.tmp 49) 23 22 (.slice none 0 0) 24 rfl Try.underlying23 info22 rfl (by decide) (by omega) u6 (spec_packs l1 st.kn i) pk [(.slice Ae pk.length ce)] (fun _ => True) (fun k_ => some k_ ≠ (u6 : Value).ownBlock) rfl (by first | rfl | (show Value.slice _ 1 1 = _; simp)) ?aP (fun _ hk => ⟨trivial, hk⟩) ?aF ?aO ?aB ?aS ?aL ?_; (case aP => exact Kd.M_row HE.out); (case aB => exact (by repeat (first | (with_reducible first | exact HB.out | apply below_alloc | apply pw_below_drewN | apply below_drew1) | exact HB.out))); (case aF => exact (fun _ _ => trivial)); (case aO => exact (by (with_reducible repeat (first | apply Kd.R_alloc | apply Kd.R_drewN | apply Kd.R_drew)); exact HO.out)); (case aS => exact (below_size (by repeat (first | (with_reducible first | exact HB.out | apply below_alloc | apply pw_below_drewN | apply below_drew1) | exact HB.out)))); (case aL => have := HX1.out; have := HN.out; have := HP.out.len; first | omega | (simp; omega) | (simp at *; omega)); intro v2 w8 ho hb hg hat; have n0_ := Aside0.mk (hb); have n1_ := Aside0.mk (ho); clear HB; clear HO; have HB := n0_; have HO2 := n1_; clear n0_ n1_; clear ho hb hg hat))
      go_roundg k2
      case measure => omega
      case rel => exact ⟨i + 1, by first | rfl | (rw [← hw1]; simp) | (rw [hw1]) | (simp; omega), ⟨by have := HI.out; omega⟩, ⟨by rw [HSUCC.out]; exact HO2.out⟩, ⟨(by repeat (first | (with_reducible first | exact HB.out | apply below_alloc | apply pw_below_drewN | apply below_drew1) | exact HB.out))⟩⟩
end Go.Proofs.Ytookabfmbimnoaa.Lk

namespace Go.Proofs.Ytookabfmbimnoaa.Lk
open Go.RowKit Go.Proofs.YtookabfmbimnoaaW.PrintWords Go.Proofs.YtookabfmbimnoaaW.PrintLast Go.Proofs.YtookabfmbimnoaaW.PrintMore
set_option linter.unusedVariables false
set_option linter.unusedSimpArgs false

theorem row1 {w' : World} {base : Nat} {ok : Nat → Prop} {A : Option Addr} {c : Nat} {pb : List Int} (he : Kd.R (Kd.int .u8) 5 w' base ok (.slice A pb.length c) pb) : Kd.C (Kd.slice 5 (Kd.int .u8)) (w'.alloc (.cells #[.slice A pb.length c] 22)) (some ⟨w'.heap.size, 0, none⟩) [pb].length [pb] := by
  refine ⟨rfl, by simp, fun _ => ⟨_, rfl, fun j p hj => ?_⟩⟩
  cases j with
  | zero =>
    simp only [List.getElem?_cons_zero, Option.some.injEq] at hj
    subst hj
    refine ⟨[.slice A pb.length c], rfl, (Kd.slice 5 (Kd.int .u8)).K_below (below_alloc (Below.refl _ _) _) ((Kd.slice 5 (Kd.int .u8)).K_of_M (Kd.M_row he)), fun i u hu => ?_⟩
    cases i with
    | zero =>
      simp only [List.getElem?_cons_zero, Option.some.injEq] at hu
      subst hu
      simp [Addr.add]
    | succ i => simp at hu
  | succ j => simp at hj
set_option maxHeartbeats 8000000 in
set_option maxRecDepth 100000 in
theorem answer_ok (g win : Nat) (l2 l3 : List Int) (st : LSt) (w0 w : World) (hb : SBox w0 w g l2 l3 st)
    (hkn : st.kn ≤ 60) (hwin : win ≤ 8) (hs1 : st.s1 ≤ 8 * 401) (hs2 : st.s2 ≤ 400) (hf3 : fatesOk l3 = true) :
    Calls Try.prog 58 #[.pointer (some ⟨g, 0, none⟩), .int .i64 (win : Int)] w fun e w' => e = .returned (.tuple #[]) ∧ SBox w0 w' g l2 l3 { st with kn := (arrivals (l3.drop st.s2) 1).foldl (ack1 win (st.got.length % 16) (l3.drop st.s2)) st.kn, s2 := st.s2 + 1 } := by
  have HKN := Aside0.mk hkn
  have HWIN := Aside0.mk hwin
  have HS1 := Aside0.mk hs1
  have HS2 := Aside0.mk hs2
  obtain ⟨⟨vg, vt, vb, hx, hS, hT, hV⟩, hge, hbel⟩ := hb
  have HX := Aside0.mk hx
  have HS := Aside0.mk hS
  have HT := Aside0.mk hT
  have HV3 := Aside0.mk hV
  have HGE := Aside0.mk hge
  have HB0 := Aside0.mk hbel
  have HLD := Aside0.mk (show (l3.drop st.s2).length ≤ 200 by rw [List.length_drop]; unfold fatesOk at hf3; simp at hf3; omega)
  have HFD := Aside0.mk (show fatesOk (l3.drop st.s2) = true by unfold fatesOk at hf3 ⊢; simp at hf3 ⊢; exact ⟨by omega, fun x hx => hf3.2 x (List.mem_of_mem_drop hx)⟩)
  have HDDA := Aside0.mk (show (l3.drop st.s2).drop 1 = l3.drop (st.s2 + 1) from List.drop_drop)
  clear hf3 hx hS hT hV hge hbel hkn hwin hs1 hs2
  obtain ⟨Ab, cb, eb, hcb, hCb⟩ := HV3.out.reads HB0.out
  subst eb
  have HCB := Aside0.mk hcb
  have HRB := Aside0.mk hCb
  clear hcb hCb HV3
  have HQ := Aside0.mk (show st.got.length % 16 < 16 from Nat.mod_lt _ (by omega))
  have HPB := Aside0.mk (show spec_PackLink.f 700 2 ((st.got.length : Int) % 16) [] = some (spec_packv 2 ((st.got.length % 16 : Nat) : Int) [], true) by
    have := spec_pack 2 ((st.got.length % 16 : Nat) : Int) [] (.inr ⟨rfl, rfl⟩) (by omega) (by have := HQ.out; omega) (by simp) (fun x hx => by simp at hx)
    simpa using this)
  have HUB := Aside0.mk (fun (x : Int) (h0 : 0 ≤ x) (h1 : x < 1) => spec_unBack (st.got.length % 16) HQ.out (l3.drop st.s2) x h0 h1)
  have HPBL := Aside0.mk (show (spec_packv 2 ((st.got.length % 16 : Nat) : Int) []).length = 3 by rw [spec_packv_length]; rfl)
  generalize spec_packv 2 ((st.got.length % 16 : Nat) : Int) [] = pb at HPB HUB HPBL
  generalize l3.drop st.s2 = gs at *
  have HPASS := Aside0.mk (specPass gs [pb] (by simp) HFD.out (by intro b hb; rw [List.mem_singleton] at hb; subst hb; have := HPBL.out; omega))
  obtain ⟨kn2, hkn2⟩ : ∃ x, x = (arrivals gs 1).foldl (ack1 win (st.got.length % 16) gs) st.kn := ⟨_, rfl⟩
  rw [← hkn2]
  have HKN2 := Aside0.mk hkn2
  clear hkn2
  obtain ⟨Ag, cg, eg⟩ := Kd.S_slice HS.out
  subst eg
  have hrem : Int.tmod (st.got.length : Int) 16 = ((st.got.length % 16 : Nat) : Int) := by rw [Int.tmod_eq_emod_of_nonneg (by omega)]; simp
  have HB := Aside0.mk (Below.refl w.heap.size w)
  obtain ⟨⟨x0, x1, x2, x3, x4, x5, x6⟩, y0, y1, y2, y3, y4, y5, y6⟩ := cells76 HX.out
  go_enter Try.func58, Try.ntmps58
  go_wp2_with (first
      | ((with_reducible refine gate_dst (N := 21) rfl ?_); refine Kd.R_lit (Kd.int .u8) _ 5 ?hg (N := 21) ?hd (xs := ([] : List _)) (inner := []) (ok := fun _ => True) (okp := fun _ => True) ?hr ?hp (fun _ hk => hk) trivial (Below.refl _ _) (Nat.le_refl _) (by simp) ?_; (case hd => rfl); (case hg => rfl); (case hr => first | (go_simp; done) | (go_simp; rfl)); (case hp => exact (Reps.none _ _)); intro v0 w6 ho7 hb hg_ hnew_; clear hg_ hnew_; have n0_ := Aside0.mk (Kd.R_lower ho7 (below_size (by repeat (first | (with_reducible first | exact HB.out | apply below_alloc | apply pw_below_drewN | apply below_drew1) | exact HB.out)))); have n1_ := Aside0.mk (below_step (by repeat (first | (with_reducible first | exact HB.out | apply below_alloc | apply pw_below_drewN | apply below_drew1) | exact HB.out)) hb); clear HB; have HO0 := n0_; have HB := n1_; clear n0_ n1_; clear hb ho7))
  obtain ⟨Al, cl, el⟩ := Kd.R_slice HO0.out
  subst el
  refine (spec_PackLink.calls 700 2 _ Al cl [] pb true _ ?s0 ?s1 HPB.out).mono ?_
  case s0 => exact (Kd.R_reads' HO0.out).2.2
  case s1 => exact (Kd.R_reads' HO0.out).2.1
  rintro e w' ⟨ve, rfl, he, hb⟩
  replace HB := Aside0.mk (below_step HB.out hb)
  clear hb HO0 hrem
  obtain ⟨Ae, ce, ee⟩ := Kd.R_slice he
  subst ee
  clear x0 x1 x2 x3 x4 x5 x6 y0 y1 y2 y3 y4 y5 y6
  obtain ⟨⟨x0, x1, x2, x3, x4, x5, x6⟩, y0, y1, y2, y3, y4, y5, y6⟩ := cells76 (blk_below HX.out HB.out)
  go_wp2_with fail
  have ha1 : Below w'.heap.size w' (w'.alloc (.cells #[.slice Ae pb.length ce] 22)) := below_alloc (Below.refl _ _) _
  have hbw : Below w.heap.size w (w'.alloc (.cells #[.slice Ae pb.length ce] 22)) := below_step HB.out ha1
  refine (spec_PassWire.calls 700 Ab cb gs (some ⟨w'.heap.size, 0, none⟩) 1 [pb] _ _ (Kd.C_below HRB.out hbw) HCB.out (row1 he) (Nat.le_refl _) HPASS.out).mono ?_
  rintro e w2 ⟨v6, rfl, ho, hb⟩
  replace HB := Aside0.mk (below_step hbw hb)
  have HV := Aside0.mk (Kd.R_lower (Kd.S_R ho) (Nat.le_trans HB0.out.size hbw.size))
  clear hbw ha1 he hb ho
  clear x0 x1 x2 x3 x4 x5 x6 y0 y1 y2 y3 y4 y5 y6
  obtain ⟨⟨x0, x1, x2, x3, x4, x5, x6⟩, y0, y1, y2, y3, y4, y5, y6⟩ := cells76 (blk_below HX.out HB.out)
  go_wp2_with fail
  refine (spec_l4Behind.calls Ab cb gs ((1 : Nat) : Int) _ _ (Kd.C_below HRB.out HB.out) HCB.out (specBehind gs 1 (by have := HLD.out; omega))).mono ?_
  rintro e w3 ⟨vb2, rfl, ho, hb⟩
  have HV2 := Aside0.mk (Kd.R_below HV.out hb)
  have HT2 := Aside0.mk (Kd.R_lower ho (Nat.le_trans HB0.out.size HB.out.size))
  replace HB := Aside0.mk (below_step HB.out hb)
  clear hb ho HV
  clear x0 x1 x2 x3 x4 x5 x6 y0 y1 y2 y3 y4 y5 y6
  obtain ⟨⟨x0, x1, x2, x3, x4, x5, x6⟩, y0, y1, y2, y3, y4, y5, y6⟩ := cells76 (blk_below HX.out HB.out)
  rw [HDDA.out] at HT2
  have hlen2 := Kd.R_slice HT2.out
  generalize hfs2 : l3.drop (st.s2 + 1) = fs2 at HT2 hlen2
  have HFS2 := Aside0.mk hfs2
  clear hfs2
  obtain ⟨At2, ct2, et2⟩ := hlen2
  subst et2
  have hw2 : wrap64 ((st.s1 : Int) + (st.s2 : Int) + 1) = (st.s1 : Int) + st.s2 + 1 := w64 _ (by have := HS1.out; have := HS2.out; omega)
  obtain ⟨A10, c10, e10⟩ := Kd.R_slice HV2.out
  subst e10
  go_wp2_with fail
  obtain ⟨wB, hwB⟩ : ∃ W : World, W = (w3.setCell ⟨g, 6, none⟩ (.slice At2 fs2.length ct2)).setCell ⟨g, 2, none⟩ (.int .i64 ((st.s1 : Int) + st.s2 + 1)) := ⟨_, rfl⟩
  rw [← hwB]
  have hX2 := blk_below HX.out HB.out
  have hX3 := heap_set (j := 6) (v := .slice At2 fs2.length ct2) hX2
  have n1_ := Aside0.mk (show wB.heap[g]? = some (.cells #[.slice Ag st.got.length cg, .int .i64 st.rounds, .int .i64 ((st.s1 : Int) + ((st.s2 + 1 : Nat) : Int)), .bool false, .int .i64 st.kn, vt, .slice At2 fs2.length ct2] 76 (0, 0)) by
    rw [hwB, heap_set hX3, show (st.s1 : Int) + ((st.s2 + 1 : Nat) : Int) = (st.s1 : Int) + st.s2 + 1 by omega]
    rfl)
  have n2_ := Aside0.mk (show Kd.S (Kd.slice 5 (Kd.int .u8)) 22 wB w0.heap.size (fun _ => True) (.slice Ag st.got.length cg) st.got by
    rw [hwB]
    exact Kd.S_set (Kd.S_set (Kd.S_below HS.out HB.out) hX2 (by decide) _ _) hX3 (by decide) _ _)
  have n3_ := Aside0.mk (show Kd.R (Kd.int .i64) 3 wB w0.heap.size (fun _ => True) (.slice At2 fs2.length ct2) fs2 by
    rw [hwB]
    exact Kd.R_set (Kd.R_set HT2.out hX2 (by decide) _ _) hX3 (by decide) _ _)
  have n4_ := Aside0.mk (show FateRow w0 wB vt (l2.drop st.s1) by
    rw [hwB]
    exact ((HT.out.below HB.out).set hX2 (by decide) _ _).set hX3 (by decide) _ _)
  have n5_ := Aside0.mk (show Kd.R (Kd.slice 5 (Kd.int .u8)) 22 wB w0.heap.size (fun _ => True) (.slice A10 (passWire gs [pb]).length c10) (passWire gs [pb]) by
    rw [hwB]
    exact Kd.R_set (Kd.R_set HV2.out hX2 (by decide) _ _) hX3 (by decide) _ _)
  have n6_ := Aside0.mk (show Below w0.heap.size w0 wB by
    rw [hwB]
    exact below_set (below_set (below_step HB0.out HB.out) HGE.out) HGE.out)
  clear hw2 hwB hX2 hX3 HS HT2 HT HV2 HB HX HB0 x0 x1 x2 x3 x4 x5 x6 y0 y1 y2 y3 y4 y5 y6
  have HX := n1_
  have HS := n2_
  have HT := n3_
  have HVT := n4_
  have HV := n5_
  have HB := n6_
  clear n1_ n2_ n3_ n4_ n5_ n6_
  have HAR := Aside0.mk (show passWire gs [pb] = (arrivals gs 1).map (passOf gs [pb]) from rfl)
  have HBM := Aside0.mk (arrivals_mem gs 1)
  have HBL := Aside0.mk (arrivals_length gs 1)
  have HLEN := Aside0.mk (show (passWire gs [pb]).length = (arrivals gs 1).length by rw [HAR.out, List.length_map])
  generalize passWire gs [pb] = arr2 at HV HAR HLEN ⊢
  generalize arrivals gs 1 = ar2 at HAR HBM HBL HKN2 HLEN
  go_loopg [7] ar2.length (fun kq v7 w' => ∃ (j kn' : Nat), v7 = .int .i64 (j : Int) ∧ Aside0 (j + kq = ar2.length) ∧ Aside0 ((ar2.drop j).foldl (ack1 win (st.got.length % 16) gs) kn' = kn2) ∧ Aside0 (kn' ≤ st.kn + 8 * j) ∧ Aside0 (w'.heap[g]? = some (.cells #[.slice Ag st.got.length cg, .int .i64 st.rounds, .int .i64 ((st.s1 : Int) + ((st.s2 + 1 : Nat) : Int)), .bool false, .int .i64 kn', vt, .slice At2 fs2.length ct2] 76 (0, 0))) ∧ Aside0 (Kd.S (Kd.slice 5 (Kd.int .u8)) 22 w' w0.heap.size (fun _ => True) (.slice Ag st.got.length cg) st.got) ∧ Aside0 (Kd.R (Kd.int .i64) 3 w' w0.heap.size (fun _ => True) (.slice At2 fs2.length ct2) fs2) ∧ Aside0 (FateRow w0 w' vt (l2.drop st.s1)) ∧ Aside0 (Kd.R (Kd.slice 5 (Kd.int .u8)) 22 w' w0.heap.size (fun _ => True) (.slice A10 arr2.length c10) arr2) ∧ Aside0 (Below w0.heap.size w0 w'))
  case atStart => exact ⟨0, st.kn, rfl, ⟨by simp⟩, ⟨HKN2.out.symm⟩, ⟨by omega⟩, HX, HS, HT, HVT, HV, HB⟩
  case round =>
    clear HX HS HT HVT HV HB
    obtain ⟨j, kn', rfl, HJ, HG2, HGL, HX, HS, HT, HVT, HV, HB⟩ := hrel
    cases gk with
    | zero =>
      obtain rfl : ar2.length = j := by have := HJ.out; omega
      have c1 : decide ((ar2.length : Int) < arr2.length) = false := decide_eq_false (by have := HLEN.out; omega)
      have c1n : decide (ar2.length < arr2.length) = false := decide_eq_false (by have := HLEN.out; omega)
      rw [List.drop_length] at HG2
      obtain rfl : kn' = kn2 := HG2.out
      clear HG2 HUB HAR HLEN HV
      go_wp2_with fail
      go_end0
      exact ⟨rfl, ⟨_, vt, _, HX.out, HS.out, HVT.out, .inr (by show Kd.R _ _ _ _ _ _ (l3.drop (st.s2 + 1)); rw [HFS2.out]; exact HT.out)⟩, HGE.out, HB.out⟩
    | succ k4 =>
      have hj : j < ar2.length := by have := HJ.out; omega
      have c1 : decide ((j : Int) < arr2.length) = true := decide_eq_true (by have := HLEN.out; omega)
      have c1n : decide (j < arr2.length) = true := decide_eq_true (by have := HLEN.out; omega)
      have c2 : (0 ≤ (j : Int)) = True := eq_true (by omega)
      have c3 : ((j : Int) < arr2.length) = True := eq_true (by have := HLEN.out; omega)
      have c3n : (j < arr2.length) = True := eq_true (by have := HLEN.out; omega)
      have hja : j < arr2.length := by have := HLEN.out; omega
      obtain ⟨ad, Ab2, cb2, hA, hx, hcap, hrr⟩ := at_L2 (Kd.R_reads' HV.out).2.2 (j : Int) (by omega) (by omega)
      subst hA
      have HD := Aside0.mk (show ar2.drop j = ar2[j] :: ar2.drop (j + 1) from List.drop_eq_getElem_cons hj)
      have ha := HBM.out ar2[j] (List.getElem_mem hj)
      have hu := HUB.out ar2[j] ha.1 ha.2
      have hpj : rd_L2 arr2 (j : Int) = passOf gs [pb] ar2[j] := by rw [rd_L2_get hja]; simp [HAR.out]
      rw [hpj, Int.toNat_natCast] at hx
      rw [hpj] at hcap hrr
      generalize passOf gs [pb] ar2[j] = pj at hx hcap hrr hu
      generalize ar2[j] = idx at HD ha hu
      have HU := Aside0.mk hu
      have HRB2 := Aside0.mk hrr
      have HCB2 := Aside0.mk hcap
      clear hu hrr hcap ha hpj hj hja
      have hw1 : wrap64 ((j : Int) + 1) = ((j + 1 : Nat) : Int) := by rw [w64 _ (by have := HJ.out; have := HBL.out; omega)]; simp
      by_cases hf : fateN gs idx.toNat = 4
      · have HREC := Aside0.mk (show ack1 win (st.got.length % 16) gs kn' idx = kn' by unfold ack1; rw [if_pos hf])
        unfold unBack at HU
        rw [if_pos hf] at HU
        clear hf
        go_wp2_with (go_at_call 76; (with_reducible refine (spec_UnpackLink.calls 700 _ _ pj _ _ _ _ _ ?s0 ?s1 HU.out).mono ?_); (case s0 => exact HRB2.out); (case s1 => exact HCB2.out); rintro e w' ⟨ve, rfl, he, hb⟩; have n0_ := Aside0.mk (Kd.S_below HS.out hb); have n1_ := Aside0.mk (Kd.R_below HV.out hb); have n2_ := Aside0.mk (HB.out.trans (hb.mono HB.out.size)); have n3_ := Aside0.mk (blk_below HX.out hb); have n6_ := Aside0.mk (Kd.R_below HT.out hb); have n7_ := Aside0.mk (HVT.out.below hb); clear HS HV HB HX HT HVT; have HS := n0_; have HV := n1_; have HB := n2_; have HX := n3_; have HT := n6_; have HVT := n7_; obtain ⟨⟨x0, x1, x2, x3, x4, x5, x6⟩, y0, y1, y2, y3, y4, y5, y6⟩ := cells76 HX.out; clear n0_ n1_ n2_ n3_ n6_ n7_ he hb)
        go_roundg k4
        case measure => omega
        case rel => exact ⟨j + 1, kn', by rw [hw1], ⟨by have := HJ.out; omega⟩, ⟨by have := HG2.out; rw [HD.out, List.foldl_cons, HREC.out] at this; exact this⟩, ⟨by have := HGL.out; omega⟩, HX, HS, HT, HVT, HV, HB⟩
      · have HREC := Aside0.mk (show ack1 win (st.got.length % 16) gs kn' idx = ackFind kn' win (st.got.length % 16) by unfold ack1; rw [if_neg hf])
        unfold unBack at HU
        rw [if_neg hf] at HU
        clear hf
        go_wp2_with (go_at_call 76; (with_reducible refine (spec_UnpackLink.calls 700 _ _ pj _ _ _ _ _ ?s0 ?s1 HU.out).mono ?_); (case s0 => exact HRB2.out); (case s1 => exact HCB2.out); rintro e w' ⟨ve, rfl, he, hb⟩; have n0_ := Aside0.mk (Kd.S_below HS.out hb); have n1_ := Aside0.mk (Kd.R_below HV.out hb); have n2_ := Aside0.mk (HB.out.trans (hb.mono HB.out.size)); have n3_ := Aside0.mk (blk_below HX.out hb); have n6_ := Aside0.mk (Kd.R_below HT.out hb); have n7_ := Aside0.mk (HVT.out.below hb); clear HS HV HB HX HT HVT; have HS := n0_; have HV := n1_; have HB := n2_; have HX := n3_; have HT := n6_; have HVT := n7_; obtain ⟨⟨x0, x1, x2, x3, x4, x5, x6⟩, y0, y1, y2, y3, y4, y5, y6⟩ := cells76 HX.out; clear n0_ n1_ n2_ n3_ n6_ n7_ he hb)
        go_loopg [12] (win + 1) (fun kq v12 wx => ∃ d : Nat, v12 = .int .i64 ((kn' + d : Nat) : Int) ∧ wx = w' ∧ Aside0 (d + kq = win + 1) ∧ Aside0 (∀ e, e < d → (kn' + e) % 16 ≠ st.got.length % 16))
        case atStart => exact ⟨0, rfl, rfl, ⟨by simp⟩, ⟨fun e he => absurd he (by omega)⟩⟩
        case round =>
          obtain ⟨d, rfl, rfl, HDK, HMISS⟩ := hrel
          have hwk : wrap64 ((kn' : Int) + win) = (kn' : Int) + win := w64 _ (by have := HGL.out; have := HKN.out; have := HBL.out; have := HJ.out; have := HWIN.out; omega)
          have hwd : wrap64 ((kn' : Int) + d + 1) = ((kn' + (d + 1) : Nat) : Int) := by rw [w64 _ (by have := HGL.out; have := HKN.out; have := HBL.out; have := HJ.out; have := HWIN.out; have := HDK.out; omega)]; simp; omega
          cases gk with
          | zero =>
            have hdw : ¬ d ≤ win := by have := HDK.out; omega
            have g1 : decide (d ≤ win) = false := decide_eq_false hdw
            have g2 : decide ((d : Int) ≤ win) = false := decide_eq_false (by omega)
            have g3 : decide ((kn' : Int) + d ≤ (kn' : Int) + win) = false := decide_eq_false (by omega)
            have g4 : decide (((kn' + d : Nat) : Int) ≤ (kn' : Int) + win) = false := decide_eq_false (by omega)
            have HACK := Aside0.mk (show ackFind kn' win (st.got.length % 16) = kn' from ackFind_miss (fun e he => HMISS.out e (by omega)))
            clear hdw
            go_wp2_with fail
            go_roundg k4
            case measure => omega
            case rel => exact ⟨j + 1, kn', by rw [hw1], ⟨by have := HJ.out; omega⟩, ⟨by have := HG2.out; rw [HD.out, List.foldl_cons, HREC.out, HACK.out] at this; exact this⟩, ⟨by have := HGL.out; omega⟩, HX, HS, HT, HVT, HV, HB⟩
          | succ k5 =>
            have hdw : d ≤ win := by have := HDK.out; omega
            have g1 : decide (d ≤ win) = true := decide_eq_true hdw
            have g2 : decide ((d : Int) ≤ win) = true := decide_eq_true (by omega)
            have g3 : decide ((kn' : Int) + d ≤ (kn' : Int) + win) = true := decide_eq_true (by omega)
            have g4 : decide (((kn' + d : Nat) : Int) ≤ (kn' : Int) + win) = true := decide_eq_true (by omega)
            have g5 : Int.tmod ((kn' : Int) + d) 16 = ((kn' : Int) + d) % 16 := Int.tmod_eq_emod_of_nonneg (by omega)
            have HDW := Aside0.mk hdw
            clear hdw
            by_cases hq : (kn' + d) % 16 = st.got.length % 16
            · have HACK := Aside0.mk (show ackFind kn' win (st.got.length % 16) = kn' + d from ackFind_hit HDW.out hq HMISS.out)
              have q1 : ((((kn' + d) % 16 : Nat) : Int) == (st.got.length : Int) % 16) = true := beq_iff_eq.mpr (by omega)
              have q2 : ((((kn' : Int) + d) % 16) == (st.got.length : Int) % 16) = true := beq_iff_eq.mpr (by omega)
              clear hq
              go_wp2_with fail
              go_roundg k4
              case measure => omega
              case rel =>
                have hc : ((kn' + d : Nat) : Int) = (kn' : Int) + d := by simp
                exact ⟨j + 1, kn' + d, by rw [hw1], ⟨by have := HJ.out; omega⟩, ⟨by have := HG2.out; rw [HD.out, List.foldl_cons, HREC.out, HACK.out] at this; exact this⟩, ⟨by have := HGL.out; have := HDW.out; have := HWIN.out; omega⟩, ⟨by rw [heap_set HX.out, hc]; rfl⟩, ⟨Kd.S_set HS.out HX.out (by decide) _ _⟩, ⟨Kd.R_set HT.out HX.out (by decide) _ _⟩, ⟨HVT.out.set HX.out (by decide) _ _⟩, ⟨Kd.R_set HV.out HX.out (by decide) _ _⟩, ⟨below_set HB.out HGE.out⟩⟩
            · have HQN := Aside0.mk hq
              have q1 : ((((kn' + d) % 16 : Nat) : Int) == (st.got.length : Int) % 16) = false := beq_eq_false_iff_ne.mpr (by omega)
              have q2 : ((((kn' : Int) + d) % 16) == (st.got.length : Int) % 16) = false := beq_eq_false_iff_ne.mpr (by omega)
              clear hq
              go_wp2_with fail
              go_roundg k5
              case measure => omega
              case rel => exact ⟨d + 1, by first | rfl | (rw [hwd]) | (rw [← hwd]; simp), rfl, ⟨by have := HDK.out; omega⟩, ⟨fun e he => by rcases Nat.lt_or_ge e d with h | h; exact HMISS.out e h; have h2 : e = d := (by omega); rw [h2]; exact HQN.out⟩⟩
end Go.Proofs.Ytookabfmbimnoaa.Lk
