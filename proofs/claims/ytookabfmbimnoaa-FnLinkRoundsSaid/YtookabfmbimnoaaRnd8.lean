/- What the walks of this claim need: printed by a program of this session (wip/pack.py) out of the session's texts and of the words that the kit's print.sh lays; under no condition beyond those in each theorem. Lean checks it. -/
import Derived.Test.YtookabfmbimnoaaRnd7
import Derived.Laws.BitsAllLaws
import Derived.Laws.Bits128
namespace Go.Proofs.Ytookabfmbimnoaa.Lk
open Go.RowKit Go.Proofs.YtookabfmbimnoaaW.PrintWords Go.Proofs.YtookabfmbimnoaaW.PrintLast Go.Proofs.YtookabfmbimnoaaW.PrintMore
set_option linter.unusedVariables false
set_option linter.unusedSimpArgs false

theorem i64_and16 (n : Int) : Go.bits .and .i64 n 65535 = n % 65536 := by
  have h127 : (BitVec.ofInt 64 65535).toNat = 2 ^ 16 - 1 := by decide
  have key : (BitVec.ofInt 64 n &&& BitVec.ofInt 64 65535).toNat = (n % ((2 ^ 64 : Nat) : Int)).toNat % 2 ^ 16 := by
    rw [BitVec.toNat_and, BitVec.toNat_ofInt, h127, Nat.and_two_pow_sub_one_eq_mod]
  show IntKind.i64.wrap ((BitVec.ofInt 64 n &&& BitVec.ofInt 64 65535).toNat : Nat) = n % 65536
  rw [key, IntKind.wrap_i64]
  omega
theorem i64_xor16 (a b : Int) (h0 : 0 ≤ a) (h1 : a ≤ 65535) (h2 : 0 ≤ b) (h3 : b ≤ 65535) : 0 ≤ Go.bits .xor .i64 a b ∧ Go.bits .xor .i64 a b ≤ 65535 := by
  have key : (BitVec.ofInt 64 a ^^^ BitVec.ofInt 64 b).toNat < 2 ^ 16 := by
    rw [BitVec.toNat_xor, BitVec.toNat_ofInt, BitVec.toNat_ofInt]
    exact Nat.xor_lt_two_pow (by omega) (by omega)
  show 0 ≤ IntKind.i64.wrap ((BitVec.ofInt 64 a ^^^ BitVec.ofInt 64 b).toNat : Nat) ∧ IntKind.i64.wrap ((BitVec.ofInt 64 a ^^^ BitVec.ofInt 64 b).toNat : Nat) ≤ 65535
  rw [IntKind.wrap_i64]
  omega
def byteOk (x : Int) : Prop := 0 ≤ x ∧ x ≤ 255
theorem w64 (n : Int) (h : -9223372036854775808 ≤ n ∧ n ≤ 9223372036854775807) : wrap64 n = n := IntWalk.wrap64_in n h
theorem u8_flip (x : Int) (h0 : 0 ≤ x) (h1 : x < 128) : Go.bits .xor .u8 x 128 = x + 128 := by
  obtain ⟨n, rfl⟩ := Int.eq_ofNat_of_zero_le h0
  have h : ∀ m : Fin 128, Go.bits .xor .u8 ((m.val : Nat) : Int) 128 = ((m.val : Nat) : Int) + 128 := by decide
  exact h ⟨n, by omega⟩
def flip0 : List Int → List Int
  | [] => []
  | x :: r => Go.bits .xor .u8 x 128 :: r
theorem impl_two_join (c : Int) (h0 : 0 ≤ c) (h1 : c ≤ 65535) : impl_two (c / 256 % 256) (c % 256) = c := by
  unfold impl_two
  rw [w64 (c / 256 % 256) (by omega), w64 (c / 256 % 256 * 256) (by omega), w64 (c % 256) (by omega)]
  rw [bits_join .i64 16 (by decide) (fun n h0 h1 => by rw [IntKind.wrap_i64]; omega) 8 _ _ (by omega) (by omega) (by omega) (by omega) (by omega) (by omega)]
  omega
theorem spec_two_join (c : Int) (h0 : 0 ≤ c) (h1 : c ≤ 65535) : spec_two ((wrap64 (Int.tdiv c 256)) % 256) ((Int.tmod c 256) % 256) = c := by
  unfold spec_two
  have e1 : Int.tdiv c 256 = c / 256 := Int.tdiv_eq_ediv_of_nonneg h0
  have e2 : Int.tmod c 256 = c % 256 := Int.tmod_eq_emod_of_nonneg h0
  rw [e1, e2, w64 (c / 256) (by omega), w64 (c / 256 % 256) (by omega), w64 (c / 256 % 256 * 256) (by omega), w64 (c % 256 % 256) (by omega), w64 _ (by omega)]
  omega

theorem impl_step0 : ∀ (m : Nat), m ≤ 8 → ∀ (k : Nat) (x : Int), m + 1 ≤ k → 0 ≤ x → x ≤ 65535 → ∃ c, impl_CrcStep.l0 k x (8 - m) = some c ∧ 0 ≤ c ∧ c ≤ 65535
  | 0, _, 0, x, hk, _, _ => by omega
  | 0, _, k + 1, x, hk, h0, h1 => ⟨x, by rw [impl_CrcStep.l0, if_neg (by omega)], h0, h1⟩
  | m + 1, _, 0, x, hk, _, _ => by omega
  | m + 1, hm, k + 1, x, hk, h0, h1 => by
    have e : wrap64 (8 - ((m + 1 : Nat) : Int) + 1) = 8 - (m : Int) := by rw [w64 _ (by omega)]; omega
    have e2 : wrap64 (x * 2) = x * 2 := w64 _ (by omega)
    rw [impl_CrcStep.l0, if_pos (by omega), e, e2]
    rw [i64_and16]
    split
    · have := i64_xor16 (x * 2 % 65536) 4129 (by omega) (by omega) (by omega) (by omega)
      exact impl_step0 m (by omega) k _ (by omega) this.1 this.2
    · exact impl_step0 m (by omega) k _ (by omega) (by omega) (by omega)
theorem impl_step (k : Nat) (hk : 10 ≤ k) (a b : Int) (h0 : 0 ≤ a) (h1 : a ≤ 65535) (hb : byteOk b) : ∃ c, impl_CrcStep.f k a b = some c ∧ 0 ≤ c ∧ c ≤ 65535 := by
  unfold byteOk at hb
  have e : impl_within.f a 0 65535 = some true := by rw [within_ok, decide_eq_true h0, decide_eq_true h1]; rfl
  unfold impl_CrcStep.f
  rw [e, Option.bind_some, if_pos rfl, w64 b (by omega), w64 (b * 256) (by omega)]
  have := i64_xor16 a (b * 256) h0 h1 (by omega) (by omega)
  exact impl_step0 8 (by omega) k _ (by omega) this.1 this.2
theorem impl_crc0 (l : List Int) (hl : l.length ≤ 600) (hb : ∀ x ∈ l, byteOk x) : ∀ (m : Nat), m ≤ l.length → ∀ (k : Nat) (x : Int), m + 11 ≤ k → 0 ≤ x → x ≤ 65535 → ∃ c, impl_CrcOf.l0 k x l (l.length : Int) ((l.length : Int) - m) = some c ∧ 0 ≤ c ∧ c ≤ 65535
  | m, hm, 0, x, hk, _, _ => by omega
  | 0, hm, k + 1, x, hk, h0, h1 => ⟨x, by rw [impl_CrcOf.l0, if_neg (by omega)], h0, h1⟩
  | m + 1, hm, k + 1, x, hk, h0, h1 => by
    have e : wrap64 ((l.length : Int) - ((m + 1 : Nat) : Int) + 1) = (l.length : Int) - (m : Int) := by rw [w64 _ (by omega)]; omega
    have hi : ((l.length : Int) - ((m + 1 : Nat) : Int)).toNat < l.length := by omega
    obtain ⟨c, hc, hc0, hc1⟩ := impl_step k (by omega) x (rd l ((l.length : Int) - ((m + 1 : Nat) : Int))) h0 h1 (by
      have : rd l ((l.length : Int) - ((m + 1 : Nat) : Int)) = l[((l.length : Int) - ((m + 1 : Nat) : Int)).toNat] := by
        show l.getD _ 0 = _
        rw [List.getD_eq_getElem?_getD, List.getElem?_eq_getElem hi]
        rfl
      rw [this]
      exact hb _ (List.getElem_mem hi))
    rw [impl_CrcOf.l0, if_pos (by omega), if_pos (by omega), if_pos (by omega), hc, Option.bind_some, e]
    exact impl_crc0 l hl hb m (by omega) k c (by omega) hc0 hc1
theorem impl_crc (l : List Int) (hl : l.length ≤ 600) (hb : ∀ x ∈ l, byteOk x) : ∃ c, impl_CrcOf.f 700 l = some c ∧ 0 ≤ c ∧ c ≤ 65535 := by
  have := impl_crc0 l hl hb l.length (Nat.le_refl _) 700 65535 (by omega) (by omega) (by omega)
  rw [Int.sub_self] at this
  unfold impl_CrcOf.f impl_isData.f
  rw [Option.bind_some, decide_eq_true (by omega), if_pos rfl]
  exact this
def impl_crcv (l : List Int) : Int := (impl_CrcOf.f 700 l).getD 0
theorem impl_crcv_ok (l : List Int) (hl : l.length ≤ 600) (hb : ∀ x ∈ l, byteOk x) : impl_CrcOf.f 700 l = some (impl_crcv l) ∧ 0 ≤ impl_crcv l ∧ impl_crcv l ≤ 65535 := by
  obtain ⟨c, hc, h0, h1⟩ := impl_crc l hl hb
  unfold impl_crcv
  rw [hc]
  exact ⟨rfl, h0, h1⟩
/-- The packet with the kind, the number and the data. -/
def impl_packv (kind seq : Int) (b : List Int) : List Int := ((16 * kind + seq) :: b) ++ [(fun c => c / 256 % 256) (impl_crcv ((16 * kind + seq) :: b)), (fun c => c % 256) (impl_crcv ((16 * kind + seq) :: b))]
theorem impl_packv_length (kind seq : Int) (b : List Int) : (impl_packv kind seq b).length = b.length + 3 := by simp [impl_packv]
theorem impl_pack (kind seq : Int) (b : List Int) (hk : kind = 1 ∨ (kind = 2 ∧ b = [])) (h0 : 0 ≤ seq) (h1 : seq ≤ 15) (hl : b.length ≤ 597) (hb : ∀ x ∈ b, byteOk x) : impl_PackLink.f 700 kind seq b = some (impl_packv kind seq b, true) := by
  have hw : (wrap64 ((wrap64 (16 * kind)) + seq)) % 256 = 16 * kind + seq := by
    rw [w64 (16 * kind) (by omega), w64 _ (by omega)]
    omega
  have hbo : ∀ x ∈ ((16 * kind + seq) :: b), byteOk x := by
    intro x hx
    rcases List.mem_cons.1 hx with rfl | hx
    · exact ⟨by omega, by omega⟩
    · exact hb x hx
  obtain ⟨hc, _, _⟩ := impl_crcv_ok ((16 * kind + seq) :: b) (by simp; omega) hbo
  have hadd : impl_AddCrc.f 700 ((16 * kind + seq) :: b) = some (impl_packv kind seq b, true) := by
    unfold impl_AddCrc.f impl_packv
    rw [if_neg (by rw [w64 _ (by simp; omega)]; simp; omega), hc]
    simp only [Option.bind_some, List.nil_append, List.length_nil, Nat.zero_add]
    rw [if_pos (by simp; omega), if_pos (by simp; omega)]
  have e1 : impl_within.f kind 1 2 = some true := by rw [within_ok, decide_eq_true (by omega), decide_eq_true (by omega)]; rfl
  have e2 : impl_within.f seq 0 15 = some true := by rw [within_ok, decide_eq_true (by omega), decide_eq_true (by omega)]; rfl
  unfold impl_PackLink.f
  rw [e1, Option.bind_some, if_pos rfl, e2, Option.bind_some, if_pos rfl, hw]
  rcases hk with rfl | ⟨rfl, rfl⟩
  · rw [if_neg (by omega), Option.bind_some, if_pos (by simp; omega)]
    simp only [List.cons_append, List.nil_append]
    rw [hadd]
    rfl
  · rw [if_pos rfl, if_neg (by simp), Option.bind_some, if_pos (by simp)]
    simp only [List.cons_append, List.nil_append]
    rw [hadd]
    rfl
theorem impl_unpack (kind seq : Int) (b : List Int) (hk : kind = 1 ∨ (kind = 2 ∧ b = [])) (h0 : 0 ≤ seq) (h1 : seq ≤ 15) (hl : b.length ≤ 597) (hb : ∀ x ∈ b, byteOk x) : impl_UnpackLink.f 700 (impl_packv kind seq b) = some (kind, seq, b, true) := by
  have hbo : ∀ x ∈ ((16 * kind + seq) :: b), byteOk x := by
    intro x hx
    rcases List.mem_cons.1 hx with rfl | hx
    · exact ⟨by omega, by omega⟩
    · exact hb x hx
  obtain ⟨hc, hc0, hc1⟩ := impl_crcv_ok ((16 * kind + seq) :: b) (by simp; omega) hbo
  have hcut : impl_CutCrc.f 700 (impl_packv kind seq b) = some ((16 * kind + seq) :: b, true) := by
    unfold impl_CutCrc.f
    rw [impl_packv_length, if_pos (by omega), show b.length + 3 - 2 = ((16 * kind + seq) :: b).length by simp]
    have ht : (impl_packv kind seq b).take ((16 * kind + seq) :: b).length = (16 * kind + seq) :: b := by unfold impl_packv; exact List.take_left
    have hr : ∀ (xs : List Int) (u v : Int), rd (xs ++ [u, v]) ((xs.length : Nat) : Int) = u ∧ rd (xs ++ [u, v]) (((xs.length : Nat) : Int) + 1) = v := by
      intro xs u v
      refine ⟨?_, ?_⟩
      · simp [rd, List.getD]
      · rw [show ((xs.length : Nat) : Int) + 1 = ((xs.length + 1 : Nat) : Int) by omega]
        simp [rd, List.getD]
    rw [ht, hc, Option.bind_some]
    unfold impl_packv
    rw [(hr _ _ _).1, (hr _ _ _).2, impl_two_join _ hc0 hc1, if_pos rfl]
  unfold impl_UnpackLink.f
  rw [hcut, Option.bind_some, if_pos rfl]
  unfold unpk
  simp only
  have hd : (16 * kind + seq) / 16 = kind := by omega
  have hm : (16 * kind + seq) % 16 = seq := by omega
  rw [hd, hm, if_pos (by omega), if_pos ⟨by omega, by
    rintro ⟨h2, hne⟩
    rcases hk with rfl | ⟨_, rfl⟩
    · omega
    · exact hne rfl⟩]
theorem impl_unflip (kind seq : Int) (b : List Int) (hk : kind = 1 ∨ (kind = 2 ∧ b = [])) (h0 : 0 ≤ seq) (h1 : seq ≤ 15) (hl : b.length ≤ 597) (hb : ∀ x ∈ b, byteOk x) : impl_UnpackLink.f 700 (flip0 (impl_packv kind seq b)) = some (0, 0, [], false) := by
  have hf : flip0 (impl_packv kind seq b) = ((16 * kind + seq + 128) :: b) ++ [(fun c => c / 256 % 256) (impl_crcv ((16 * kind + seq) :: b)), (fun c => c % 256) (impl_crcv ((16 * kind + seq) :: b))] := by
    show Go.bits .xor .u8 (16 * kind + seq) 128 :: _ = _
    rw [u8_flip _ (by omega) (by omega)]
    rfl
  have hbo : ∀ x ∈ ((16 * kind + seq + 128) :: b), byteOk x := by
    intro x hx
    rcases List.mem_cons.1 hx with rfl | hx
    · exact ⟨by omega, by omega⟩
    · exact hb x hx
  rw [hf]
  generalize [(fun c => c / 256 % 256) (impl_crcv ((16 * kind + seq) :: b)), (fun c => c % 256) (impl_crcv ((16 * kind + seq) :: b))] = tl at hf ⊢
  have htl : tl.length = 2 := by
    have := congrArg List.length hf
    simp [flip0, impl_packv] at this
    omega
  obtain ⟨hc, hc0, hc1⟩ := impl_crcv_ok ((16 * kind + seq + 128) :: b) (by simp; omega) hbo
  unfold impl_UnpackLink.f impl_CutCrc.f
  have hlen : (((16 * kind + seq + 128) :: b) ++ tl).length = b.length + 3 := by simp [htl]
  rw [hlen, if_pos (by omega), show b.length + 3 - 2 = ((16 * kind + seq + 128) :: b).length by simp, List.take_left, hc, Option.bind_some]
  split
  · rw [Option.bind_some, if_pos rfl]
    unfold unpk
    simp only
    rw [if_pos (by omega), if_neg (by omega)]
  · rw [Option.bind_some, if_neg (by simp)]

theorem spec_step0 : ∀ (m : Nat), m ≤ 8 → ∀ (k : Nat) (x : Int), m + 1 ≤ k → 0 ≤ x → x ≤ 65535 → ∃ c, spec_CrcStep.l0 k x (8 - m) = some c ∧ 0 ≤ c ∧ c ≤ 65535
  | 0, _, 0, x, hk, _, _ => by omega
  | 0, _, k + 1, x, hk, h0, h1 => ⟨x, by rw [spec_CrcStep.l0, if_neg (by omega)], h0, h1⟩
  | m + 1, _, 0, x, hk, _, _ => by omega
  | m + 1, hm, k + 1, x, hk, h0, h1 => by
    have e : wrap64 (8 - ((m + 1 : Nat) : Int) + 1) = 8 - (m : Int) := by rw [w64 _ (by omega)]; omega
    have e2 : wrap64 (x * 2) = x * 2 := w64 _ (by omega)
    rw [spec_CrcStep.l0, if_pos (by omega), e, e2]
    rw [show Int.tmod (x * 2) 65536 = x * 2 % 65536 from Int.tmod_eq_emod_of_nonneg (by omega)]
    split
    · have := i64_xor16 (x * 2 % 65536) 4129 (by omega) (by omega) (by omega) (by omega)
      exact spec_step0 m (by omega) k _ (by omega) this.1 this.2
    · exact spec_step0 m (by omega) k _ (by omega) (by omega) (by omega)
theorem spec_step (k : Nat) (hk : 10 ≤ k) (a b : Int) (h0 : 0 ≤ a) (h1 : a ≤ 65535) (hb : byteOk b) : ∃ c, spec_CrcStep.f k a b = some c ∧ 0 ≤ c ∧ c ≤ 65535 := by
  unfold byteOk at hb
  have e : spec_l2Word.f a = some true := by unfold spec_l2Word.f spec_l1In.f; rw [if_pos (by omega), decide_eq_true h1]; rfl
  unfold spec_CrcStep.f
  rw [e, Option.bind_some, if_pos rfl, w64 b (by omega), w64 (b * 256) (by omega)]
  have := i64_xor16 a (b * 256) h0 h1 (by omega) (by omega)
  exact spec_step0 8 (by omega) k _ (by omega) this.1 this.2
theorem spec_crc0 (l : List Int) (hl : l.length ≤ 600) (hb : ∀ x ∈ l, byteOk x) : ∀ (m : Nat), m ≤ l.length → ∀ (k : Nat) (x : Int), m + 11 ≤ k → 0 ≤ x → x ≤ 65535 → ∃ c, spec_CrcOf.l0 k l x ((l.length : Int) - m) = some c ∧ 0 ≤ c ∧ c ≤ 65535
  | m, hm, 0, x, hk, _, _ => by omega
  | 0, hm, k + 1, x, hk, h0, h1 => ⟨x, by rw [spec_CrcOf.l0, if_neg (by omega)], h0, h1⟩
  | m + 1, hm, k + 1, x, hk, h0, h1 => by
    have e : wrap64 ((l.length : Int) - ((m + 1 : Nat) : Int) + 1) = (l.length : Int) - (m : Int) := by rw [w64 _ (by omega)]; omega
    have hi : ((l.length : Int) - ((m + 1 : Nat) : Int)).toNat < l.length := by omega
    obtain ⟨c, hc, hc0, hc1⟩ := spec_step k (by omega) x (rd l ((l.length : Int) - ((m + 1 : Nat) : Int))) h0 h1 (by
      have : rd l ((l.length : Int) - ((m + 1 : Nat) : Int)) = l[((l.length : Int) - ((m + 1 : Nat) : Int)).toNat] := by
        show l.getD _ 0 = _
        rw [List.getD_eq_getElem?_getD, List.getElem?_eq_getElem hi]
        rfl
      rw [this]
      exact hb _ (List.getElem_mem hi))
    rw [spec_CrcOf.l0, if_pos (by omega), if_pos (by omega), hc, Option.bind_some, e]
    exact spec_crc0 l hl hb m (by omega) k c (by omega) hc0 hc1
theorem spec_crc (l : List Int) (hl : l.length ≤ 600) (hb : ∀ x ∈ l, byteOk x) : ∃ c, spec_CrcOf.f 700 l = some c ∧ 0 ≤ c ∧ c ≤ 65535 := by
  have := spec_crc0 l hl hb l.length (Nat.le_refl _) 700 65535 (by omega) (by omega) (by omega)
  rw [Int.sub_self] at this
  unfold spec_CrcOf.f spec_l1Data.f
  rw [Option.bind_some, decide_eq_true (by omega), if_pos rfl]
  exact this
def spec_crcv (l : List Int) : Int := (spec_CrcOf.f 700 l).getD 0
theorem spec_crcv_ok (l : List Int) (hl : l.length ≤ 600) (hb : ∀ x ∈ l, byteOk x) : spec_CrcOf.f 700 l = some (spec_crcv l) ∧ 0 ≤ spec_crcv l ∧ spec_crcv l ≤ 65535 := by
  obtain ⟨c, hc, h0, h1⟩ := spec_crc l hl hb
  unfold spec_crcv
  rw [hc]
  exact ⟨rfl, h0, h1⟩
/-- The packet with the kind, the number and the data. -/
def spec_packv (kind seq : Int) (b : List Int) : List Int := ((16 * kind + seq) :: b) ++ [(fun c => (wrap64 (Int.tdiv c 256)) % 256) (spec_crcv ((16 * kind + seq) :: b)), (fun c => (Int.tmod c 256) % 256) (spec_crcv ((16 * kind + seq) :: b))]
theorem spec_packv_length (kind seq : Int) (b : List Int) : (spec_packv kind seq b).length = b.length + 3 := by simp [spec_packv]
theorem spec_pack (kind seq : Int) (b : List Int) (hk : kind = 1 ∨ (kind = 2 ∧ b = [])) (h0 : 0 ≤ seq) (h1 : seq ≤ 15) (hl : b.length ≤ 597) (hb : ∀ x ∈ b, byteOk x) : spec_PackLink.f 700 kind seq b = some (spec_packv kind seq b, true) := by
  have hw : (wrap64 ((wrap64 (16 * kind)) + seq)) % 256 = 16 * kind + seq := by
    rw [w64 (16 * kind) (by omega), w64 _ (by omega)]
    omega
  have hbo : ∀ x ∈ ((16 * kind + seq) :: b), byteOk x := by
    intro x hx
    rcases List.mem_cons.1 hx with rfl | hx
    · exact ⟨by omega, by omega⟩
    · exact hb x hx
  obtain ⟨hc, _, _⟩ := spec_crcv_ok ((16 * kind + seq) :: b) (by simp; omega) hbo
  have hadd : spec_AddCrc.f 700 ((16 * kind + seq) :: b) = some (spec_packv kind seq b, true) := by
    unfold spec_AddCrc.f spec_packv
    rw [if_neg (by rw [w64 _ (by simp; omega)]; simp; omega), hc]
    simp only [Option.bind_some, List.nil_append, List.length_nil, Nat.zero_add]
    rw [if_pos (by simp; omega), if_pos (by simp; omega)]
  have e1 : spec_l1In.f kind 1 2 = some true := by unfold spec_l1In.f; rw [if_pos (by omega), decide_eq_true (by omega)]
  have e2 : spec_l1In.f seq 0 15 = some true := by unfold spec_l1In.f; rw [if_pos (by omega), decide_eq_true (by omega)]
  unfold spec_PackLink.f
  rw [e1, Option.bind_some, if_pos rfl, e2, Option.bind_some, if_pos rfl, hw]
  rcases hk with rfl | ⟨rfl, rfl⟩
  · rw [if_neg (by omega), Option.bind_some, if_pos (by simp; omega)]
    simp only [List.cons_append, List.nil_append]
    rw [hadd]
    rfl
  · rw [if_pos rfl, if_neg (by simp), Option.bind_some, if_pos (by simp)]
    simp only [List.cons_append, List.nil_append]
    rw [hadd]
    rfl
theorem spec_unpack (kind seq : Int) (b : List Int) (hk : kind = 1 ∨ (kind = 2 ∧ b = [])) (h0 : 0 ≤ seq) (h1 : seq ≤ 15) (hl : b.length ≤ 597) (hb : ∀ x ∈ b, byteOk x) : spec_UnpackLink.f 700 (spec_packv kind seq b) = some (kind, seq, b, true) := by
  have hbo : ∀ x ∈ ((16 * kind + seq) :: b), byteOk x := by
    intro x hx
    rcases List.mem_cons.1 hx with rfl | hx
    · exact ⟨by omega, by omega⟩
    · exact hb x hx
  obtain ⟨hc, hc0, hc1⟩ := spec_crcv_ok ((16 * kind + seq) :: b) (by simp; omega) hbo
  have hcut : spec_CutCrc.f 700 (spec_packv kind seq b) = some ((16 * kind + seq) :: b, true) := by
    unfold spec_CutCrc.f
    rw [spec_packv_length, if_pos (by omega), show b.length + 3 - 2 = ((16 * kind + seq) :: b).length by simp]
    have ht : (spec_packv kind seq b).take ((16 * kind + seq) :: b).length = (16 * kind + seq) :: b := by unfold spec_packv; exact List.take_left
    have hr : ∀ (xs : List Int) (u v : Int), rd (xs ++ [u, v]) ((xs.length : Nat) : Int) = u ∧ rd (xs ++ [u, v]) (((xs.length : Nat) : Int) + 1) = v := by
      intro xs u v
      refine ⟨?_, ?_⟩
      · simp [rd, List.getD]
      · rw [show ((xs.length : Nat) : Int) + 1 = ((xs.length + 1 : Nat) : Int) by omega]
        simp [rd, List.getD]
    rw [ht, hc, Option.bind_some]
    unfold spec_packv
    rw [(hr _ _ _).1, (hr _ _ _).2, spec_two_join _ hc0 hc1, if_pos rfl]
  unfold spec_UnpackLink.f
  rw [hcut, Option.bind_some, if_pos rfl]
  unfold unpk
  simp only
  have hd : (16 * kind + seq) / 16 = kind := by omega
  have hm : (16 * kind + seq) % 16 = seq := by omega
  rw [hd, hm, if_pos (by omega), if_pos ⟨by omega, by
    rintro ⟨h2, hne⟩
    rcases hk with rfl | ⟨_, rfl⟩
    · omega
    · exact hne rfl⟩]
theorem spec_unflip (kind seq : Int) (b : List Int) (hk : kind = 1 ∨ (kind = 2 ∧ b = [])) (h0 : 0 ≤ seq) (h1 : seq ≤ 15) (hl : b.length ≤ 597) (hb : ∀ x ∈ b, byteOk x) : spec_UnpackLink.f 700 (flip0 (spec_packv kind seq b)) = some (0, 0, [], false) := by
  have hf : flip0 (spec_packv kind seq b) = ((16 * kind + seq + 128) :: b) ++ [(fun c => (wrap64 (Int.tdiv c 256)) % 256) (spec_crcv ((16 * kind + seq) :: b)), (fun c => (Int.tmod c 256) % 256) (spec_crcv ((16 * kind + seq) :: b))] := by
    show Go.bits .xor .u8 (16 * kind + seq) 128 :: _ = _
    rw [u8_flip _ (by omega) (by omega)]
    rfl
  have hbo : ∀ x ∈ ((16 * kind + seq + 128) :: b), byteOk x := by
    intro x hx
    rcases List.mem_cons.1 hx with rfl | hx
    · exact ⟨by omega, by omega⟩
    · exact hb x hx
  rw [hf]
  generalize [(fun c => (wrap64 (Int.tdiv c 256)) % 256) (spec_crcv ((16 * kind + seq) :: b)), (fun c => (Int.tmod c 256) % 256) (spec_crcv ((16 * kind + seq) :: b))] = tl at hf ⊢
  have htl : tl.length = 2 := by
    have := congrArg List.length hf
    simp [flip0, spec_packv] at this
    omega
  obtain ⟨hc, hc0, hc1⟩ := spec_crcv_ok ((16 * kind + seq + 128) :: b) (by simp; omega) hbo
  unfold spec_UnpackLink.f spec_CutCrc.f
  have hlen : (((16 * kind + seq + 128) :: b) ++ tl).length = b.length + 3 := by simp [htl]
  rw [hlen, if_pos (by omega), show b.length + 3 - 2 = ((16 * kind + seq + 128) :: b).length by simp, List.take_left, hc, Option.bind_some]
  split
  · rw [Option.bind_some, if_pos rfl]
    unfold unpk
    simp only
    rw [if_pos (by omega), if_neg (by omega)]
  · rw [Option.bind_some, if_neg (by simp)]
end Go.Proofs.Ytookabfmbimnoaa.Lk

namespace Go.Proofs.Ytookabfmbimnoaa.Lk
open Go.RowKit Go.Proofs.YtookabfmbimnoaaW.PrintWords Go.Proofs.YtookabfmbimnoaaW.PrintLast Go.Proofs.YtookabfmbimnoaaW.PrintMore
set_option linter.unusedVariables false
set_option linter.unusedSimpArgs false

theorem flip0_set (b : List Int) : b.set 0 (Go.bits .xor .u8 (rd b 0) 128) = flip0 b := by
  cases b with
  | nil => rfl
  | cons x r => rfl
/-- What arrives of message i. -/
def passOf (l0 : List Int) (l1 : List (List Int)) (i : Int) : List Int := if fateN l0 i.toNat = 4 then flip0 (rd_L2 l1 i) else rd_L2 l1 i
set_option maxHeartbeats 8000000 in
set_option maxRecDepth 100000 in
theorem closure70 (gl gf : Nat) (A0 : Option Addr) (c0 : Nat) (l0 : List Int) (A1 : Option Addr) (c1 : Nat) (l1 : List (List Int)) (i : Int) (w : World) (hr0 : Kd.C (Kd.int .i64) w A0 l0.length l0) (hc0 : l0.length ≤ c0) (hr1 : Kd.C (Kd.slice 5 (Kd.int .u8)) w A1 l1.length l1)
    (hxl : w.cell? ⟨gl, 0, none⟩ = some (.slice A1 l1.length c1)) (hxf : w.cell? ⟨gf, 0, none⟩ = some (.slice A0 l0.length c0)) (h0 : 0 ≤ i) (h1 : i < l1.length) (hb : (rd_L2 l1 i).length ≤ 1000000) :
    Calls Try.prog 70 #[.int .i64 i, .pointer (some ⟨gl, 0, none⟩), .pointer (some ⟨gf, 0, none⟩)] w fun e w' => ∃ v0_ : Value, e = .returned v0_ ∧ Kd.R (Kd.int .u8) 5 w' w.heap.size (fun _ => True) v0_ (passOf l0 l1 i) ∧ Below w.heap.size w w' := by
  obtain ⟨ad, A, c, hA, hx, hcap, hrr⟩ := at_L2 hr1 i h0 h1
  subst hA
  have HR0 := Aside0.mk hr0
  have HC0 := Aside0.mk hc0
  have HR1 := Aside0.mk hrr
  have HC1 := Aside0.mk hcap
  have HF := Aside0.mk (show impl_fate.f l0 i = some (fateN l0 i.toNat) by have := fate_fateN l0 i.toNat; rwa [Int.toNat_of_nonneg h0] at this)
  have d0 := eq_true h0
  have d1 := eq_true h1
  have HCL := Aside0.mk (show bytes_Clone.f (rd_L2 l1 i) = some (rd_L2 l1 i) from if_pos hb)
  have hbig : ((rd_L2 l1 i).length : Int) ≤ 1000000 := by omega
  have HP := Aside0.mk (show passOf l0 l1 i = if fateN l0 i.toNat = 4 then flip0 (rd_L2 l1 i) else rd_L2 l1 i from rfl)
  generalize passOf l0 l1 i = res at HP ⊢
  generalize fateN l0 i.toNat = f at HF HP
  generalize rd_L2 l1 i = b at HR1 HC1 HCL HP hx hbig
  have hfl : (⟨gf, 0, none⟩ : Addr).block < w.heap.size := World.block_lt_of_cell? w _ hxf
  have HXF := Aside0.mk hxf
  have HFL := Aside0.mk hfl
  clear hr0 hc0 hr1 hrr hcap hb hxf hfl h0 h1
  have HB := Aside0.mk (Below.refl w.heap.size w)
  by_cases f4 : f = 4
  · subst f4
    rw [if_pos rfl] at HP
    by_cases hbl : b = []
    · have HBN := Aside0.mk hbl
      have e1 : decide ((b.length : Int) > 0) = false := decide_eq_false (by rw [hbl]; simp)
      have e2 : decide (0 < b.length) = false := decide_eq_false (by rw [hbl]; simp)
      have e3 : decide ((0 : Int) < b.length) = false := decide_eq_false (by rw [hbl]; simp)
      clear hbl
      go_enter Try.func70, Try.ntmps70
      go_wp2_with (first
      | (go_at_call 56; (with_reducible refine (bytes_Clone.calls _ _ _ _ _ ?s0 HC1.out HCL.out).mono ?_); (case s0 => repeat (first | exact HR1.out | (with_reducible refine Kd.C_alloc ?_ _) | (with_reducible refine Kd.C_drewN ?_ _) | (with_reducible refine Kd.C_drew ?_))); rintro e w' ⟨v2, rfl, ho, hb⟩; have n0_ := Aside0.mk (ho); have n1_ := Aside0.mk hb; have hxf2 := (hb.cell HFL.out).trans HXF.out; clear HB; have HO := n0_; have HB := n1_; clear n0_ n1_ ho hb; (try rw [List.length_nil] at HO); obtain ⟨Ao, co, eo⟩ := Kd.R_slice HO.out; subst eo)
      | (go_at_call 71; (with_reducible refine (impl_fate.calls _ _ l0 i _ _ ?s0 HC0.out HF.out).mono ?_); (case s0 => repeat (first | exact (Kd.C_below HR0.out HB.out) | (with_reducible refine Kd.C_alloc ?_ _) | (with_reducible refine Kd.C_drewN ?_ _) | (with_reducible refine Kd.C_drew ?_))); rintro e w' ⟨rfl, ⟨nd, rfl⟩⟩))
      go_ret
      exact ⟨_, rfl, by rw [HP.out, show flip0 b = b by rw [HBN.out]; rfl]; exact (by (with_reducible repeat (first | apply Kd.R_alloc | apply Kd.R_drewN | apply Kd.R_drew)); exact HO.out), (by repeat (first | (with_reducible first | exact HB.out | apply below_alloc | apply pw_below_drewN | apply below_drew1) | exact HB.out))⟩
    · have hpos : 0 < b.length := List.length_pos_iff.2 hbl
      have e1 : decide ((b.length : Int) > 0) = true := decide_eq_true (by omega)
      have e2 : decide (0 < b.length) = true := decide_eq_true (by omega)
      have e3 : decide ((0 : Int) < b.length) = true := decide_eq_true (by omega)
      go_enter Try.func70, Try.ntmps70
      have HPOS := Aside0.mk hpos
      have e4 := eq_true hpos
      have e5 : ((0 : Int) < b.length) = True := eq_true (by omega)
      clear hpos hbl
      go_wp2_with (first
      | (go_at_call 56; (with_reducible refine (bytes_Clone.calls _ _ _ _ _ ?s0 HC1.out HCL.out).mono ?_); (case s0 => repeat (first | exact HR1.out | (with_reducible refine Kd.C_alloc ?_ _) | (with_reducible refine Kd.C_drewN ?_ _) | (with_reducible refine Kd.C_drew ?_))); rintro e w' ⟨v2, rfl, ho, hb⟩; have n0_ := Aside0.mk (ho); have n1_ := Aside0.mk hb; have hxf2 := (hb.cell HFL.out).trans HXF.out; clear HB; have HO := n0_; have HB := n1_; clear n0_ n1_ ho hb; (try rw [List.length_nil] at HO); obtain ⟨Ao, co, eo⟩ := Kd.R_slice HO.out; subst eo; obtain ⟨g2, c2, eo2, gb, _, _, _⟩ := Kd.R_form HO.out (by have := HPOS.out; omega); cases eo2; have GB := Aside0.mk gb; clear gb; obtain ⟨hx2, hf2⟩ := Kd.R_celln 0 HO.out 0 (by omega) (by have := HPOS.out; omega); have hx3 : w'.cell? ⟨g2, 0, none⟩ = some (.int .u8 (rd b 0)) := hx2; have hf3 : w'.frozen? ⟨g2, 0, none⟩ = false := hf2; clear hx2 hf2; have HQ := Aside0.mk (Kd.R_putn HO.out 0 (Go.bits .xor .u8 (rd b 0) 128)))
      | (go_at_call 71; (with_reducible refine (impl_fate.calls _ _ l0 i _ _ ?s0 HC0.out HF.out).mono ?_); (case s0 => repeat (first | exact (Kd.C_below HR0.out HB.out) | (with_reducible refine Kd.C_alloc ?_ _) | (with_reducible refine Kd.C_drewN ?_ _) | (with_reducible refine Kd.C_drew ?_))); rintro e w' ⟨rfl, ⟨nd, rfl⟩⟩))
      go_ret
      exact ⟨_, rfl, by rw [HP.out, ← flip0_set]; exact HQ.out, (by repeat (first | (with_reducible first | exact HB.out | apply below_alloc | apply pw_below_drewN | apply below_drew1 | refine below_set ?_ GB.out) | exact HB.out))⟩
  · rw [if_neg f4] at HP
    have f4b : (f == 4) = false := beq_eq_false_iff_ne.mpr f4
    go_enter Try.func70, Try.ntmps70
    go_wp2_with (first
      | (go_at_call 56; (with_reducible refine (bytes_Clone.calls _ _ _ _ _ ?s0 HC1.out HCL.out).mono ?_); (case s0 => repeat (first | exact HR1.out | (with_reducible refine Kd.C_alloc ?_ _) | (with_reducible refine Kd.C_drewN ?_ _) | (with_reducible refine Kd.C_drew ?_))); rintro e w' ⟨v2, rfl, ho, hb⟩; have n0_ := Aside0.mk (ho); have n1_ := Aside0.mk hb; have hxf2 := (hb.cell HFL.out).trans HXF.out; clear HB; have HO := n0_; have HB := n1_; clear n0_ n1_ ho hb; (try rw [List.length_nil] at HO); obtain ⟨Ao, co, eo⟩ := Kd.R_slice HO.out; subst eo)
      | (go_at_call 71; (with_reducible refine (impl_fate.calls _ _ l0 i _ _ ?s0 HC0.out HF.out).mono ?_); (case s0 => repeat (first | exact (Kd.C_below HR0.out HB.out) | (with_reducible refine Kd.C_alloc ?_ _) | (with_reducible refine Kd.C_drewN ?_ _) | (with_reducible refine Kd.C_drew ?_))); rintro e w' ⟨rfl, ⟨nd, rfl⟩⟩))
    go_ret
    exact ⟨_, rfl, by rw [HP.out]; exact (by (with_reducible repeat (first | apply Kd.R_alloc | apply Kd.R_drewN | apply Kd.R_drew)); exact HO.out), (by repeat (first | (with_reducible first | exact HB.out | apply below_alloc | apply pw_below_drewN | apply below_drew1) | exact HB.out))⟩
end Go.Proofs.Ytookabfmbimnoaa.Lk

namespace Go.Proofs.Ytookabfmbimnoaa.Lk
open Go.RowKit Go.Proofs.YtookabfmbimnoaaW.PrintWords Go.Proofs.YtookabfmbimnoaaW.PrintLast Go.Proofs.YtookabfmbimnoaaW.PrintMore
set_option linter.unusedVariables false
set_option linter.unusedSimpArgs false

set_option maxHeartbeats 8000000 in
set_option maxRecDepth 100000 in
theorem mapped68 (gl gf : Nat) (A0 : Option Addr) (c0 : Nat) (l0 : List Int) (A1 : Option Addr) (c1 : Nat) (l1 : List (List Int)) (A2 : Option Addr) (c2 : Nat) (l2 : List Int) (w : World) (hr0 : Kd.C (Kd.int .i64) w A0 l0.length l0) (hc0 : l0.length ≤ c0) (hr1 : Kd.C (Kd.slice 5 (Kd.int .u8)) w A1 l1.length l1)
    (hr2 : Kd.C (Kd.int .i64) w A2 l2.length l2) (hc2 : l2.length ≤ c2)
    (hxl : w.cell? ⟨gl, 0, none⟩ = some (.slice A1 l1.length c1)) (hxf : w.cell? ⟨gf, 0, none⟩ = some (.slice A0 l0.length c0)) (hi : ∀ i ∈ l2, 0 ≤ i ∧ i < l1.length) (hb : ∀ i, (rd_L2 l1 i).length ≤ 1000000) (hl : l2.length ≤ 1000) :
    Calls Try.prog 68 #[.slice A2 l2.length c2, .func (.func 70) #[] #[.pointer (some ⟨gl, 0, none⟩), .pointer (some ⟨gf, 0, none⟩)]] w fun e w' => ∃ v0_ : Value, e = .returned v0_ ∧ Kd.R (Kd.slice 5 (Kd.int .u8)) 22 w' w.heap.size (fun _ => True) v0_ (l2.map (passOf l0 l1)) ∧ Below w.heap.size w w' := by
  have HR0 := Aside0.mk hr0
  have HR1 := Aside0.mk hr1
  have HR2 := Aside0.mk hr2
  have HC0 := Aside0.mk hc0
  have HXL := Aside0.mk hxl
  have HXF := Aside0.mk hxf
  have HI := Aside0.mk hi
  have HBB := Aside0.mk hb
  have HL := Aside0.mk hl
  clear hr0 hr1 hr2 hc0 hxl hxf hi hb hl
  have HB := Aside0.mk (Below.refl w.heap.size w)
  go_enter Try.func68, Try.ntmps68
  go_wp2_with fail
  go_loopg [5, 10] l2.length (fun kq v5 v10 w' => ∃ j : Nat, v10 = .int .i64 (j : Int) ∧ Aside0 (j + kq = l2.length) ∧ Aside0 (Kd.R (Kd.slice 5 (Kd.int .u8)) 22 w' w.heap.size (fun _ => True) v5 ((l2.take j).map (passOf l0 l1))) ∧ Aside0 (Below w.heap.size w w'))
  case atStart => exact ⟨0, rfl, ⟨by simp⟩, ⟨Kd.R_nil _ _ _ _ _⟩, ⟨HB.out⟩⟩
  case round =>
    clear HB
    obtain ⟨j, rfl, HJ, HO, HB⟩ := hrel
    cases gk with
    | zero =>
      have hj : j = l2.length := by have := HJ.out; omega
      subst hj
      have c1 : decide ((l2.length : Int) < l2.length) = false := decide_eq_false (by omega)
      rw [List.take_length] at HO
      go_wp2
      go_ret
      exact ⟨_, rfl, (by (with_reducible repeat (first | apply Kd.R_alloc | apply Kd.R_drewN | apply Kd.R_drew)); exact HO.out), (by repeat (first | (with_reducible first | exact HB.out | apply below_alloc | apply pw_below_drewN | apply below_drew1) | exact HB.out))⟩
    | succ k1 =>
      have hj : j < l2.length := by have := HJ.out; omega
      have c1 : decide ((j : Int) < l2.length) = true := decide_eq_true (by omega)
      have c2 : ((0 : Int) ≤ (j : Int)) = True := eq_true (by omega)
      have c3 : ((j : Int) < l2.length) = True := eq_true (by omega)
      obtain ⟨ad, hA, hx⟩ := Kd.at_int (Kd.C_below HR2.out HB.out) (j : Int) (by omega) (by omega)
      subst hA
      rw [show (j : Int).toNat = j from rfl] at hx
      have HT := Aside0.mk (show l2.take (j + 1) = l2.take j ++ [rd l2 j] by rw [List.take_succ_eq_append_getElem hj]; simp [rd, List.getD, hj])
      have HM := Aside0.mk (HI.out (rd l2 j) (by have : rd l2 j = l2[j] := by { simp [rd, List.getD, hj] }; rw [this]; exact List.getElem_mem hj))
      generalize rd l2 j = i at HT HM hx
      have HX := Aside0.mk (show ((l2.take j).map (passOf l0 l1)).length ≤ 1000 by rw [List.length_map, List.length_take]; have := HL.out; omega)
      have hw1 : wrap64 ((j : Int) + 1) = ((j + 1 : Nat) : Int) := by rw [IntWalk.wrap64_in _ (by have := HL.out; omega)]; simp
      have HCL := Aside0.mk (closure70 gl gf A0 c0 l0 A1 _ l1 i wr (Kd.C_below HR0.out HB.out) HC0.out (Kd.C_below HR1.out HB.out) ((HB.out.cell (World.block_lt_of_cell? w _ HXL.out)).trans HXL.out) ((HB.out.cell (World.block_lt_of_cell? w _ HXF.out)).trans HXF.out) HM.out.1 HM.out.2 (HBB.out i))
      go_wp2_with (first
      | ((with_reducible refine HCL.out.mono ?_); rintro e w' ⟨ve, rfl, he, hb⟩; obtain ⟨_, hown⟩ := Kd.R_own HO.out; have n2_ := Aside0.mk (Kd.R_lower (Kd.R_mono (ok' := fun k_ => some k_ ≠ (u5 : Value).ownBlock) (Kd.R_new he hown) (fun _ hk => hk.2)) (below_size HB.out)); clear hown; have n0_ := Aside0.mk (Kd.R_below HO.out hb); have n1_ := Aside0.mk (below_step HB.out hb); clear HO HB HCL; have HO := n0_; have HB := n1_; have HE := n2_; clear n0_ n1_ n2_ hb he; obtain ⟨Ae, ce, ee⟩ := Kd.R_slice HE.out; subst ee)
      | ((with_reducible refine gate_builtin (b := .append) (xs := #[.tmp 14, .tmp 18]) rfl ?_); at_builtin; refine Kd.R_append (Kd.slice 5 (Kd.int .u8)) (w0 := w) w.heap.size rfl (.tmp 14) (.tmp 18) 23 22 (.slice none 0 0) 24 rfl Try.underlying23 info22 rfl (by decide) (by omega) u5 ((l2.take j).map (passOf l0 l1)) (passOf l0 l1 i) [(.slice Ae (passOf l0 l1 i).length ce)] (fun _ => True) (fun k_ => some k_ ≠ (u5 : Value).ownBlock) rfl (by first | rfl | (show Value.slice _ 1 1 = _; simp)) ?aP (fun _ hk => ⟨trivial, hk⟩) ?aF ?aO ?aB ?aS ?aL ?_; (case aP => exact Kd.M_row HE.out); (case aB => exact (by repeat (first | (with_reducible first | exact HB.out | apply below_alloc | apply pw_below_drewN | apply below_drew1) | exact HB.out))); (case aF => exact (fun _ _ => trivial)); (case aO => exact (by (with_reducible repeat (first | apply Kd.R_alloc | apply Kd.R_drewN | apply Kd.R_drew)); exact HO.out)); (case aS => exact (below_size (by repeat (first | (with_reducible first | exact HB.out | apply below_alloc | apply pw_below_drewN | apply below_drew1) | exact HB.out)))); (case aL => have := HX.out; first | omega | (simp; omega) | (simp at *; omega)); intro v2 w8 ho hb hg hat; have n0_ := Aside0.mk (hb); have n1_ := Aside0.mk (ho); clear HB; clear HO; have HB := n0_; have HO2 := n1_; clear n0_ n1_; clear ho hb hg hat))
      go_roundg k1
      case measure => omega
      case rel => exact ⟨j + 1, by rw [hw1], ⟨by have := HJ.out; omega⟩, ⟨by rw [HT.out, List.map_append]; exact HO2.out⟩, ⟨(by repeat (first | (with_reducible first | exact HB.out | apply below_alloc | apply pw_below_drewN | apply below_drew1) | exact HB.out))⟩⟩
end Go.Proofs.Ytookabfmbimnoaa.Lk

namespace Go.Proofs.Ytookabfmbimnoaa.Lk
open Go.RowKit Go.Proofs.YtookabfmbimnoaaW.PrintWords Go.Proofs.YtookabfmbimnoaaW.PrintLast Go.Proofs.YtookabfmbimnoaaW.PrintMore
set_option linter.unusedVariables false
set_option linter.unusedSimpArgs false

theorem arrOf_snd (f : Int) (i : Nat) : ∀ x ∈ arrOf f i, x.2 = i := by
  unfold arrOf
  repeat' split
  all_goals simp
theorem arrList_mem (l : List Int) (n : Nat) : ∀ x ∈ arrList l n, 0 ≤ x.2 ∧ x.2 < n := by
  intro x hx
  simp only [arrList, List.mem_flatMap, List.mem_range] at hx
  obtain ⟨i, hi, hx⟩ := hx
  have := arrOf_snd _ i x hx
  omega
theorem arrivals_mem (l : List Int) (n : Nat) : ∀ i ∈ arrivals l n, 0 ≤ i ∧ i < n := by
  intro i hi
  simp only [arrivals, List.mem_map] at hi
  obtain ⟨x, hx, rfl⟩ := hi
  rw [sortA_merge] at hx
  exact arrList_mem l n x ((List.mergeSort_perm _ _).mem_iff.1 hx)
theorem arrivals_length (l : List Int) (n : Nat) : (arrivals l n).length ≤ 2 * n := by
  rw [arrivals, List.length_map, sortA_length]
  exact arrList_length l n
def passWire (l0 : List Int) (l1 : List (List Int)) : List (List Int) := (arrivals l0 l1.length).map (passOf l0 l1)
theorem rd_L2_le {l1 : List (List Int)} {m : Nat} (h : ∀ b ∈ l1, b.length ≤ m) (i : Int) : (rd_L2 l1 i).length ≤ m := by
  unfold rd_L2
  by_cases hi : i.toNat < l1.length
  · have e : l1.getD i.toNat [] = l1[i.toNat] := by simp [List.getD, hi]
    first | (rw [e]; exact h _ (List.getElem_mem hi)) | (simp [rdOf, List.getD, hi]; exact h _ (List.getElem_mem hi))
  · first | (rw [List.getD_eq_default _ _ (by omega)]; exact Nat.zero_le _) | (simp [rdOf, List.getD, hi])
set_option maxHeartbeats 8000000 in
set_option maxRecDepth 100000 in
theorem PassWire_ok (A0 : Option Addr) (c0 : Nat) (l0 : List Int) (A1 : Option Addr) (c1 : Nat) (l1 : List (List Int)) (w : World) (hr0 : Kd.C (Kd.int .i64) w A0 l0.length l0) (hc0 : l0.length ≤ c0) (hr1 : Kd.C (Kd.slice 5 (Kd.int .u8)) w A1 l1.length l1) (hc1 : l1.length ≤ c1)
    (hf : fatesOk l0 = true) (hn : l1.length ≤ 9) (hd : ∀ b ∈ l1, b.length ≤ 600) :
    Calls Try.prog 53 #[.slice A0 l0.length c0, .slice A1 l1.length c1] w fun e w' => ∃ v0_ : Value, e = .returned v0_ ∧ Kd.R (Kd.slice 5 (Kd.int .u8)) 22 w' w.heap.size (fun _ => True) v0_ (passWire l0 l1) ∧ Below w.heap.size w w' := by
  have HR0 := Aside0.mk hr0
  have HR1 := Aside0.mk hr1
  have HC0 := Aside0.mk hc0
  have HC1 := Aside0.mk hc1
  have HF := Aside0.mk hf
  have HN := Aside0.mk hn
  have HD := Aside0.mk hd
  clear hr0 hr1 hc0 hc1 hf hn hd
  have HX0 := Aside0.mk (show ∃ W : World, W = (w.alloc (.cells #[.slice A0 l0.length c0] 24)).alloc (.cells #[.slice A1 l1.length c1] 23) ∧ Below w.heap.size w W ∧ W.cell? ⟨w.heap.size, 0, none⟩ = some (.slice A0 l0.length c0) ∧ W.cell? ⟨w.heap.size + 1, 0, none⟩ = some (.slice A1 l1.length c1) from ⟨_, rfl, below_alloc (below_alloc (Below.refl _ _) _) _, by simp, by simp⟩)
  go_enter Try.func53, Try.ntmps53
  go_wp2_with fail
  obtain ⟨W, hW, hB, hx0, hx1⟩ := HX0.out
  rw [← hW]
  clear hW HX0
  have HB := Aside0.mk hB
  have HX0 := Aside0.mk hx0
  have HX1 := Aside0.mk hx1
  clear hB hx0 hx1
  refine (canSend_ok A0 c0 l0 l1.length W (Kd.C_below HR0.out HB.out) HC0.out HF.out (by omega) (by have := HN.out; omega)).mono ?_
  rintro e w' ⟨rfl, hb⟩
  have n0_ := Aside0.mk (below_step HB.out hb)
  have n1_ := Aside0.mk ((hb.cell (World.block_lt_of_cell? _ _ HX0.out)).trans HX0.out)
  have n2_ := Aside0.mk ((hb.cell (World.block_lt_of_cell? _ _ HX1.out)).trans HX1.out)
  clear HB HX0 HX1 hb
  have HB := n0_
  have HX0 := n1_
  have HX1 := n2_
  clear n0_ n1_ n2_
  have hx0 := HX0.out
  have hx1 := HX1.out
  clear hx0
  go_wp2_with fail
  have HALL := Aside0.mk (show l1.all (fun b => decide ((b.length : Int) ≤ 600)) = true by rw [List.all_eq_true]; intro b hb; have := HD.out b hb; exact decide_eq_true (by omega))
  refine (all_bytes 67 (fun b => decide ((b.length : Int) ≤ 600)) (enters_of Try.func67 (by kernel_rfl) rfl) A1 c1 l1 _ (Kd.C_below HR1.out HB.out) HC1.out (fun x A c W _ hx hc => (impl_isData.calls A c x _ W hx hc rfl).mono (by rintro e w' ⟨rfl, hd⟩; exact ⟨rfl, hd.below⟩))).mono ?_
  rw [HALL.out]
  rintro e w2 ⟨rfl, hb⟩
  clear hx1
  have n0_ := Aside0.mk (below_step HB.out hb)
  have n1_ := Aside0.mk ((hb.cell (World.block_lt_of_cell? _ _ HX0.out)).trans HX0.out)
  have n2_ := Aside0.mk ((hb.cell (World.block_lt_of_cell? _ _ HX1.out)).trans HX1.out)
  clear HB HX0 HX1 hb
  have HB := n0_
  have HX0 := n1_
  have HX1 := n2_
  clear n0_ n1_ n2_
  have hx0 := HX0.out
  have hx1 := HX1.out
  go_wp2_with fail
  refine (ArrivalsOf_ok A0 c0 l0 l1.length _ (Kd.C_below HR0.out HB.out) HC0.out HF.out HN.out).mono ?_
  rintro e w3 ⟨v3, rfl, ho, hb⟩
  clear hx0 hx1
  have HO := Aside0.mk (Kd.R_lower ho (below_size HB.out))
  clear ho
  have n0_ := Aside0.mk (below_step HB.out hb)
  have n1_ := Aside0.mk ((hb.cell (World.block_lt_of_cell? _ _ HX0.out)).trans HX0.out)
  have n2_ := Aside0.mk ((hb.cell (World.block_lt_of_cell? _ _ HX1.out)).trans HX1.out)
  clear HB HX0 HX1 hb
  have HB := n0_
  have HX0 := n1_
  have HX1 := n2_
  clear n0_ n1_ n2_
  have hx0 := HX0.out
  have hx1 := HX1.out
  clear hx0 hx1
  obtain ⟨A3, c3, e3⟩ := Kd.R_slice HO.out
  subst e3
  go_wp2_with fail
  obtain ⟨hq1, hq2, hq3⟩ := Kd.R_reads' HO.out
  refine (mapped68 (w.heap.size + 1) w.heap.size A0 c0 l0 A1 c1 l1 A3 c3 (arrivals l0 l1.length) _ (Kd.C_below HR0.out HB.out) HC0.out (Kd.C_below HR1.out HB.out) hq3 hq2 HX1.out HX0.out (arrivals_mem _ _) (fun i => Nat.le_trans (rd_L2_le HD.out i) (by omega)) (by have := arrivals_length l0 l1.length; have := HN.out; omega)).mono ?_
  rintro e w4 ⟨v4, rfl, ho, hb⟩
  clear hq1 hq2 hq3 HO
  have HO := Aside0.mk (Kd.R_lower ho (below_size HB.out))
  clear ho
  have n0_ := Aside0.mk (below_step HB.out hb)
  have n1_ := Aside0.mk ((hb.cell (World.block_lt_of_cell? _ _ HX0.out)).trans HX0.out)
  have n2_ := Aside0.mk ((hb.cell (World.block_lt_of_cell? _ _ HX1.out)).trans HX1.out)
  clear HB HX0 HX1 hb
  have HB := n0_
  have HX0 := n1_
  have HX1 := n2_
  clear n0_ n1_ n2_
  have hx0 := HX0.out
  have hx1 := HX1.out
  go_wp2_with fail
  go_ret
  exact ⟨_, rfl, HO.out, HB.out⟩
set_option maxHeartbeats 8000000 in
set_option maxRecDepth 100000 in
/-- pass: the wire's fates lie in the box g's first cell, how many were sent in its second. -/
theorem pass_ok (g : Nat) (A0 : Option Addr) (c0 : Nat) (l0 : List Int) (s : Nat) (A1 : Option Addr) (c1 : Nat) (l1 : List (List Int)) (w : World) (hr0 : Kd.C (Kd.int .i64) w A0 l0.length l0) (hc0 : l0.length ≤ c0) (hr1 : Kd.C (Kd.slice 5 (Kd.int .u8)) w A1 l1.length l1) (hc1 : l1.length ≤ c1)
    (hg : w.heap[g]? = some (.cells #[.slice A0 l0.length c0, .int .i64 s] 52 (0, 0)))
    (hf : fatesOk l0 = true) (hn : l1.length ≤ 9) (hs : s ≤ 100000) (hd : ∀ b ∈ l1, b.length ≤ 600) :
    Calls Try.prog 33 #[.pointer (some ⟨g, 0, none⟩), .slice A1 l1.length c1] w fun e w' => ∃ (v0_ : Value) (w2 : World), e = .returned v0_ ∧ Kd.R (Kd.slice 5 (Kd.int .u8)) 22 w2 w.heap.size (fun _ => True) v0_ (passWire (l0.drop s) l1) ∧ Below w.heap.size w w2 ∧ w' = w2.setCell ⟨g, 1, none⟩ (.int .i64 ((s + l1.length : Nat) : Int)) := by
  have HR0 := Aside0.mk hr0
  have HC0 := Aside0.mk hc0
  have HF0 := Aside0.mk hf
  have HS := Aside0.mk hs
  have HR1 := Aside0.mk hr1
  have HC1 := Aside0.mk hc1
  have HF := Aside0.mk (show fatesOk (l0.drop s) = true by unfold fatesOk at hf ⊢; simp at hf ⊢; exact ⟨by omega, fun x hx => hf.2 x (List.mem_of_mem_drop hx)⟩)
  have HN := Aside0.mk hn
  have HD := Aside0.mk hd
  have HG := Aside0.mk hg
  have hx0 : w.cell? ⟨g, 0, none⟩ = some (.slice A0 l0.length c0) := by simp [World.cell?, hg]
  have hx1 : w.cell? ⟨g, 1, none⟩ = some (.int .i64 s) := by simp [World.cell?, hg]
  have hw1 : wrap64 ((s : Int) + (l1.length : Int)) = ((s + l1.length : Nat) : Int) := by rw [IntWalk.wrap64_in _ (by omega)]; simp
  have HX0 := Aside0.mk hx0
  have HX1 := Aside0.mk hx1
  have HGL := Aside0.mk (World.block_lt_of_cell? _ _ hx0)
  have HCON := Aside0.mk (fun (W : World) (hc : Kd.C (Kd.int .i64) W A0 l0.length l0) => FatesBehind_ok A0 c0 l0 s W hc hc0 hf (by omega))
  clear hr0 hc0 hr1 hc1 hg hf hn hs hd HF0
  generalize l0.drop s = ld at HF HCON ⊢
  have HB := Aside0.mk (Below.refl w.heap.size w)
  go_enter Try.func33, Try.ntmps33
  go_wp2_with fail
  go_region_held3 (fun W => W.cell? ⟨g, 0, none⟩ = some (.slice A0 l0.length c0) ∧ W.cell? ⟨g, 1, none⟩ = some (.int .i64 s)) (first | go_keep | (exact ⟨(HB.out.cell HGL.out).trans HX0.out, (HB.out.cell HGL.out).trans HX1.out⟩)) (first | (go_at_call 54; (with_reducible refine (HCON.out _ ?s0).mono ?_); (case s0 => repeat (first | exact (Kd.C_below HR0.out (by repeat (first | (with_reducible first | exact HB.out | apply below_alloc | apply pw_below_drewN | apply below_drew1) | exact HB.out))) | (with_reducible refine Kd.C_alloc ?_ _) | (with_reducible refine Kd.C_drewN ?_ _) | (with_reducible refine Kd.C_drew ?_))); rintro e w' ⟨vf, rfl, ho, hb⟩; have n0_ := Aside0.mk (below_step (by repeat (first | (with_reducible first | exact HB.out | apply below_alloc | apply pw_below_drewN | apply below_drew1) | exact HB.out)) hb); have n1_ := Aside0.mk (Kd.R_lower ho (below_size (by repeat (first | (with_reducible first | exact HB.out | apply below_alloc | apply pw_below_drewN | apply below_drew1) | exact HB.out)))); clear HB; have HB := n0_; have HOF := n1_; clear n0_ n1_ ho hb; obtain ⟨Af, cf, ef⟩ := Kd.R_slice HOF.out; subst ef) | (go_at_call 53; (with_reducible refine (PassWire_ok _ _ ld _ _ l1 _ ?s0 ?s1 ?s2 HC1.out HF.out HN.out HD.out).mono ?_); (case s0 => exact (Kd.R_reads' (by (with_reducible repeat (first | apply Kd.R_alloc | apply Kd.R_drewN | apply Kd.R_drew)); exact HOF.out)).2.2); (case s1 => exact (Kd.R_reads' HOF.out).2.1); (case s2 => repeat (first | exact (Kd.C_below HR1.out (by repeat (first | (with_reducible first | exact HB.out | apply below_alloc | apply pw_below_drewN | apply below_drew1) | exact HB.out))) | (with_reducible refine Kd.C_alloc ?_ _) | (with_reducible refine Kd.C_drewN ?_ _) | (with_reducible refine Kd.C_drew ?_))); rintro e w' ⟨vf, rfl, ho, hb⟩; have n0_ := Aside0.mk (below_step (by repeat (first | (with_reducible first | exact HB.out | apply below_alloc | apply pw_below_drewN | apply below_drew1) | exact HB.out)) hb); have n1_ := Aside0.mk (Kd.R_lower ho (below_size (by repeat (first | (with_reducible first | exact HB.out | apply below_alloc | apply pw_below_drewN | apply below_drew1) | exact HB.out)))); clear HB; have HB := n0_; have HO := n1_; clear n0_ n1_ ho hb))
  clear hx0 hx1
  have hx1 := (HB.out.cell HGL.out).trans HX1.out
  have hf1 := (HB.out.frozen (p := ⟨g, 1, none⟩) HGL.out).trans (show w.frozen? ⟨g, 1, none⟩ = false by simp [World.frozen?, HG.out])
  go_wp2_with fail
  go_ret
  exact ⟨_, _, rfl, HO.out, HB.out, rfl⟩
end Go.Proofs.Ytookabfmbimnoaa.Lk

namespace Go.Proofs.Ytookabfmbimnoaa.Lk
open Go.RowKit Go.Proofs.YtookabfmbimnoaaW.PrintWords Go.Proofs.YtookabfmbimnoaaW.PrintLast Go.Proofs.YtookabfmbimnoaaW.PrintMore
set_option linter.unusedVariables false
set_option linter.unusedSimpArgs false

/-- A link in the midst of its run: the data that came, what the sender knows, messages sent there and back, rounds. -/
structure LSt where
  got : List (List Int)
  kn : Nat
  s1 : Nat
  s2 : Nat
  rounds : Nat
def recv1 (list : List (List Int)) (kn : Nat) (fs : List Int) (got : List (List Int)) (j : Int) : List (List Int) :=
  if fateN fs j.toNat = 4 then got else if (kn + j.toNat) % 16 = got.length % 16 then got ++ [list.getD (kn + j.toNat) []] else got
def ackFind (kn w q : Nat) : Nat := match (List.range (w + 1)).find? (fun d => decide ((kn + d) % 16 = q)) with
  | some d => kn + d
  | none => kn
def ack1 (w q : Nat) (gs : List Int) (kn : Nat) (j : Int) : Nat := if fateN gs j.toNat = 4 then kn else ackFind kn w q
def sentN (w len kn : Nat) : Nat := min len (kn + w) - kn
def stepL (w : Nat) (list : List (List Int)) (there back : List Int) (st : LSt) : LSt :=
  let got := (arrivals (there.drop st.s1) (sentN w list.length st.kn)).foldl (recv1 list st.kn (there.drop st.s1)) st.got
  ⟨got, (arrivals (back.drop st.s2) 1).foldl (ack1 w (got.length % 16) (back.drop st.s2)) st.kn, st.s1 + sentN w list.length st.kn, st.s2 + 1, st.rounds + 1⟩
def loopL (w : Nat) (list : List (List Int)) (there back : List Int) : Nat → LSt → LSt
  | 0, st => st
  | m + 1, st => if st.kn < list.length then loopL w list there back m (stepL w list there back st) else st
def runL (w : Nat) (list : List (List Int)) (there back : List Int) (rounds : Nat) : LSt := loopL w list there back rounds ⟨[], 0, 0, 0, 0⟩
def bytesOk (l : List (List Int)) : Bool := l.all fun b => b.all fun x => decide (0 ≤ x) && decide (x ≤ 255)
theorem bytesOk_of {l : List (List Int)} (h : bytesOk l = true) {b : List Int} (hb : b ∈ l) : ∀ x ∈ b, byteOk x := by
  intro x hx
  have := List.all_eq_true.1 (List.all_eq_true.1 h b hb) x hx
  simp at this
  exact this
theorem bytesOk_getD {l : List (List Int)} (h : bytesOk l = true) (i : Nat) : ∀ x ∈ l.getD i [], byteOk x := by
  by_cases hi : i < l.length
  · rw [List.getD_eq_getElem?_getD, List.getElem?_eq_getElem hi]
    exact bytesOk_of h (List.getElem_mem hi)
  · rw [List.getD_eq_getElem?_getD, List.getElem?_eq_none (by omega)]
    intro x hx
    simp at hx
theorem short_getD {l : List (List Int)} (h : l.all shortB = true) (i : Nat) : (l.getD i []).length ≤ 597 := by
  by_cases hi : i < l.length
  · rw [List.getD_eq_getElem?_getD, List.getElem?_eq_getElem hi]
    exact of_decide_eq_true (List.all_eq_true.1 h _ (List.getElem_mem hi))
  · rw [List.getD_eq_getElem?_getD, List.getElem?_eq_none (by omega)]
    exact Nat.zero_le _
theorem ackFind_hit {kn w q d : Nat} (hd : d ≤ w) (h : (kn + d) % 16 = q) (hn : ∀ e, e < d → (kn + e) % 16 ≠ q) : ackFind kn w q = kn + d := by
  unfold ackFind
  have : (List.range (w + 1)).find? (fun d => decide ((kn + d) % 16 = q)) = some d := by
    rw [List.find?_range_eq_some]
    exact ⟨by simpa using h, by simp; omega, fun j hj => by simpa using hn j hj⟩
  rw [this]
theorem ackFind_miss {kn w q : Nat} (hn : ∀ e, e ≤ w → (kn + e) % 16 ≠ q) : ackFind kn w q = kn := by
  unfold ackFind
  have : (List.range (w + 1)).find? (fun d => decide ((kn + d) % 16 = q)) = none := by
    rw [List.find?_eq_none]
    intro x hx
    simp at hx ⊢
    exact hn x (by omega)
  rw [this]
theorem ackFind_le (kn w q : Nat) : kn ≤ ackFind kn w q ∧ ackFind kn w q ≤ kn + w := by
  unfold ackFind
  split
  · rename_i d hd
    have := List.mem_of_find?_eq_some hd
    simp at this
    omega
  · omega
theorem ack1_le (w q : Nat) (gs : List Int) (kn : Nat) (j : Int) : kn ≤ ack1 w q gs kn j ∧ ack1 w q gs kn j ≤ kn + w := by
  unfold ack1
  split
  · omega
  · exact ackFind_le kn w q
theorem acks_le (w q : Nat) (gs : List Int) : ∀ (l : List Int) (kn : Nat), kn ≤ l.foldl (ack1 w q gs) kn ∧ l.foldl (ack1 w q gs) kn ≤ kn + l.length * w
  | [], kn => by simp
  | j :: l, kn => by
    have h1 := ack1_le w q gs kn j
    have h2 := acks_le w q gs l (ack1 w q gs kn j)
    simp only [List.foldl_cons, List.length_cons]
    refine ⟨by omega, ?_⟩
    rw [Nat.succ_mul]
    omega
theorem recv1_le (list : List (List Int)) (kn : Nat) (fs : List Int) (got : List (List Int)) (j : Int) : (recv1 list kn fs got j).length ≤ got.length + 1 := by
  unfold recv1
  repeat' split
  all_goals simp
theorem recvs_le (list : List (List Int)) (kn : Nat) (fs : List Int) : ∀ (l : List Int) (got : List (List Int)), (l.foldl (recv1 list kn fs) got).length ≤ got.length + l.length
  | [], got => by simp
  | j :: l, got => by
    have h1 := recv1_le list kn fs got j
    have h2 := recvs_le list kn fs l (recv1 list kn fs got j)
    simp only [List.foldl_cons, List.length_cons]
    omega
theorem rd_L2_get {l : List (List Int)} {i : Nat} (h : i < l.length) : rd_L2 l (i : Int) = l[i] := by
  show l.getD i [] = _
  rw [List.getD_eq_getElem?_getD, List.getElem?_eq_getElem h]
  rfl
/-- What UnpackLink makes of the arrival of message i. -/
def unOf (list : List (List Int)) (kn : Nat) (fs : List Int) (i : Nat) : Int × Int × List Int × Bool :=
  if fateN fs i = 4 then (0, 0, [], false) else (1, (((kn + i) % 16 : Nat) : Int), list.getD (kn + i) [], true)
def unBack (q : Nat) (gs : List Int) (i : Nat) : Int × Int × List Int × Bool :=
  if fateN gs i = 4 then (0, 0, [], false) else (2, (q : Int), [], true)

def impl_packs (list : List (List Int)) (kn n : Nat) : List (List Int) := (List.range n).map fun i => impl_packv 1 (((kn + i) % 16 : Nat) : Int) (list.getD (kn + i) [])
theorem impl_packs_length (list : List (List Int)) (kn n : Nat) : (impl_packs list kn n).length = n := by simp [impl_packs]
theorem impl_packs_succ (list : List (List Int)) (kn n : Nat) : impl_packs list kn (n + 1) = impl_packs list kn n ++ [impl_packv 1 (((kn + n) % 16 : Nat) : Int) (list.getD (kn + n) [])] := by simp [impl_packs, List.range_succ]
theorem impl_packs_short {list : List (List Int)} (h : list.all shortB = true) (kn n : Nat) : ∀ b ∈ impl_packs list kn n, b.length ≤ 600 := by
  intro b hb
  simp only [impl_packs, List.mem_map, List.mem_range] at hb
  obtain ⟨i, _, rfl⟩ := hb
  have := short_getD h (kn + i)
  rw [impl_packv_length]
  omega
theorem impl_unOf {list : List (List Int)} (hs : list.all shortB = true) (hb : bytesOk list = true) (kn n : Nat) (fs : List Int) (i : Int) (h0 : 0 ≤ i) (h1 : i < n) : impl_UnpackLink.f 700 (passOf fs (impl_packs list kn n) i) = some (unOf list kn fs i.toNat) := by
  obtain ⟨m, rfl⟩ := Int.eq_ofNat_of_zero_le h0
  have hm : m < (impl_packs list kn n).length := by rw [impl_packs_length]; omega
  have hp : rd_L2 (impl_packs list kn n) (m : Int) = impl_packv 1 (((kn + m) % 16 : Nat) : Int) (list.getD (kn + m) []) := by rw [rd_L2_get hm]; simp [impl_packs]
  unfold passOf unOf
  rw [hp, Int.toNat_natCast]
  split
  · exact impl_unflip 1 _ _ (.inl rfl) (by omega) (by omega) (short_getD hs _) (bytesOk_getD hb _)
  · exact impl_unpack 1 _ _ (.inl rfl) (by omega) (by omega) (short_getD hs _) (bytesOk_getD hb _)
theorem impl_unBack (q : Nat) (hq : q < 16) (gs : List Int) (i : Int) (h0 : 0 ≤ i) (h1 : i < 1) : impl_UnpackLink.f 700 (passOf gs [impl_packv 2 (q : Int) []] i) = some (unBack q gs i.toNat) := by
  obtain rfl : i = 0 := by omega
  unfold passOf unBack
  rw [show rd_L2 [impl_packv 2 (q : Int) []] 0 = impl_packv 2 (q : Int) [] from rfl]
  split
  · exact impl_unflip 2 _ _ (.inr ⟨rfl, rfl⟩) (by omega) (by omega) (by simp) (fun x hx => by simp at hx)
  · exact impl_unpack 2 _ _ (.inr ⟨rfl, rfl⟩) (by omega) (by omega) (by simp) (fun x hx => by simp at hx)

def spec_packs (list : List (List Int)) (kn n : Nat) : List (List Int) := (List.range n).map fun i => spec_packv 1 (((kn + i) % 16 : Nat) : Int) (list.getD (kn + i) [])
theorem spec_packs_length (list : List (List Int)) (kn n : Nat) : (spec_packs list kn n).length = n := by simp [spec_packs]
theorem spec_packs_succ (list : List (List Int)) (kn n : Nat) : spec_packs list kn (n + 1) = spec_packs list kn n ++ [spec_packv 1 (((kn + n) % 16 : Nat) : Int) (list.getD (kn + n) [])] := by simp [spec_packs, List.range_succ]
theorem spec_packs_short {list : List (List Int)} (h : list.all shortB = true) (kn n : Nat) : ∀ b ∈ spec_packs list kn n, b.length ≤ 600 := by
  intro b hb
  simp only [spec_packs, List.mem_map, List.mem_range] at hb
  obtain ⟨i, _, rfl⟩ := hb
  have := short_getD h (kn + i)
  rw [spec_packv_length]
  omega
theorem spec_unOf {list : List (List Int)} (hs : list.all shortB = true) (hb : bytesOk list = true) (kn n : Nat) (fs : List Int) (i : Int) (h0 : 0 ≤ i) (h1 : i < n) : spec_UnpackLink.f 700 (passOf fs (spec_packs list kn n) i) = some (unOf list kn fs i.toNat) := by
  obtain ⟨m, rfl⟩ := Int.eq_ofNat_of_zero_le h0
  have hm : m < (spec_packs list kn n).length := by rw [spec_packs_length]; omega
  have hp : rd_L2 (spec_packs list kn n) (m : Int) = spec_packv 1 (((kn + m) % 16 : Nat) : Int) (list.getD (kn + m) []) := by rw [rd_L2_get hm]; simp [spec_packs]
  unfold passOf unOf
  rw [hp, Int.toNat_natCast]
  split
  · exact spec_unflip 1 _ _ (.inl rfl) (by omega) (by omega) (short_getD hs _) (bytesOk_getD hb _)
  · exact spec_unpack 1 _ _ (.inl rfl) (by omega) (by omega) (short_getD hs _) (bytesOk_getD hb _)
theorem spec_unBack (q : Nat) (hq : q < 16) (gs : List Int) (i : Int) (h0 : 0 ≤ i) (h1 : i < 1) : spec_UnpackLink.f 700 (passOf gs [spec_packv 2 (q : Int) []] i) = some (unBack q gs i.toNat) := by
  obtain rfl : i = 0 := by omega
  unfold passOf unBack
  rw [show rd_L2 [spec_packv 2 (q : Int) []] 0 = spec_packv 2 (q : Int) [] from rfl]
  split
  · exact spec_unflip 2 _ _ (.inr ⟨rfl, rfl⟩) (by omega) (by omega) (by simp) (fun x hx => by simp at hx)
  · exact spec_unpack 2 _ _ (.inr ⟨rfl, rfl⟩) (by omega) (by omega) (by simp) (fun x hx => by simp at hx)
end Go.Proofs.Ytookabfmbimnoaa.Lk

namespace Go.Proofs.Ytookabfmbimnoaa.Lk
open Go.RowKit Go.Proofs.YtookabfmbimnoaaW.PrintWords Go.Proofs.YtookabfmbimnoaaW.PrintLast Go.Proofs.YtookabfmbimnoaaW.PrintMore
set_option linter.unusedVariables false
set_option linter.unusedSimpArgs false

theorem bucket_perm : ∀ (T : Nat) (xs : List (Int × Int)), (∀ x ∈ xs, 0 ≤ x.1 ∧ x.1 < T) → ((List.range T).flatMap fun (t : Nat) => xs.filter fun x => decide (x.1 = (t : Int))).Perm xs
  | 0, xs, h => by
    have : xs = [] := by
      cases xs with
      | nil => rfl
      | cons x xs => exact absurd (h x (by simp)) (by omega)
    subst this
    simp
  | T + 1, xs, h => by
    have ih := bucket_perm T (xs.filter fun x => decide (x.1 < (T : Int))) (fun x hx => by
      have h1 := List.mem_filter.1 hx
      have h2 := h x h1.1
      have h3 : x.1 < (T : Int) := by simpa using h1.2
      omega)
    have e1 : ((List.range T).flatMap fun (t : Nat) => (xs.filter fun x => decide (x.1 < (T : Int))).filter fun x => decide (x.1 = (t : Int))) = ((List.range T).flatMap fun (t : Nat) => xs.filter fun x => decide (x.1 = (t : Int))) := by
      rw [List.flatMap_def, List.flatMap_def]
      congr 1
      refine List.map_congr_left (fun t ht => ?_)
      have ht' := List.mem_range.1 ht
      rw [List.filter_filter]
      refine List.filter_congr (fun x hx => ?_)
      by_cases hxt : x.1 = (t : Int)
      · have : x.1 < (T : Int) := by omega
        simp [hxt, this]
        omega
      · simp [hxt]
    rw [e1] at ih
    have e2 : (xs.filter fun x => decide (x.1 = ((T : Nat) : Int))) = xs.filter fun x => !decide (x.1 < (T : Int)) := by
      refine List.filter_congr (fun x hx => ?_)
      have := h x hx
      by_cases hxt : x.1 = (T : Int)
      · simp [hxt]
      · have : x.1 < (T : Int) := by omega
        simp [hxt, this]
    rw [List.range_succ, List.flatMap_append, List.flatMap_cons, List.flatMap_nil, List.append_nil, e2]
    exact (List.Perm.append_right _ ih).trans (List.filter_append_perm _ _)
def leA (x y : Int × Int) : Prop := x.1 < y.1 ∨ (x.1 = y.1 ∧ x.2 ≤ y.2)
theorem bucket_sorted (T : Nat) (xs : List (Int × Int)) (h : xs.Pairwise fun x y => x.2 ≤ y.2) : ((List.range T).flatMap fun (t : Nat) => xs.filter fun x => decide (x.1 = (t : Int))).Pairwise leA := by
  rw [List.pairwise_flatMap]
  refine ⟨fun t _ => ?_, ?_⟩
  · have h1 := h.filter (fun x => decide (x.1 = (t : Int)))
    refine List.Pairwise.imp_of_mem ?_ h1
    intro x y hx hy hxy
    have h2 : x.1 = (t : Int) := by simpa using (List.mem_filter.1 hx).2
    have h3 : y.1 = (t : Int) := by simpa using (List.mem_filter.1 hy).2
    exact .inr ⟨by rw [h2, h3], hxy⟩
  · refine List.Pairwise.imp ?_ (List.pairwise_lt_range)
    intro a b hab x hx y hy
    have h2 : x.1 = (a : Int) := by simpa using (List.mem_filter.1 hx).2
    have h3 : y.1 = (b : Int) := by simpa using (List.mem_filter.1 hy).2
    exact .inl (by omega)
theorem sortA_bucket (T : Nat) (xs : List (Int × Int)) (h0 : ∀ x ∈ xs, 0 ≤ x.1 ∧ x.1 < T) (h : xs.Pairwise fun x y => x.2 ≤ y.2) : ((List.range T).flatMap fun (t : Nat) => xs.filter fun x => decide (x.1 = (t : Int))) = sortA xs := by
  have hp := bucket_perm T xs h0
  have hs := bucket_sorted T xs h
  generalize ((List.range T).flatMap fun (t : Nat) => xs.filter fun x => decide (x.1 = (t : Int))) = ys at hp hs
  have hl := hp.length_eq
  have h2 := Go.Sort.sorted_unique_holds swo_cmpA (fun x y hx hy => by
    rw [lt_cmpA] at hx hy
    simp only [decide_eq_false_iff_not] at hx hy
    exact Prod.ext (by omega) (by omega)) xs.toArray ys.toArray ⟨by simpa using hl, fun i hi => by
      rcases hi with hi | hi
      · omega
      · have hi' : xs.length ≤ i := by simpa using hi
        simp [Array.getElem!_eq_getD, Array.getD, hl, Nat.not_lt.2 hi'], by have ht : ys.take xs.length = ys := (by rw [← hl]; exact List.take_length); simpa [ht] using hp⟩ (fun i j _ hij hj => by
      have hj' : j < ys.length := by rw [hl]; simpa using hj
      have h3 := List.pairwise_iff_getElem.1 hs i j (by omega) hj' hij
      rw [lt_cmpA]
      have ei : ys.toArray[i]! = ys[i] := by simp [Array.getElem!_eq_getD, Array.getD, show i < ys.length by omega]
      have ej : ys.toArray[j]! = ys[j] := by simp [Array.getElem!_eq_getD, Array.getD, hj']
      rw [ei, ej]
      rcases h3 with h3 | h3 <;> exact decide_eq_false (by omega))
  rw [sortA_merge]
  simpa using h2
theorem arrOf_time (f : Int) (i : Nat) : ∀ x ∈ arrOf f i, 0 ≤ x.1 ∧ x.1 ≤ 2 * (i : Int) + 3 ∧ x.2 = i := by
  unfold arrOf
  repeat' split
  all_goals simp
  all_goals omega
theorem arrList_time (l : List Int) (n : Nat) : ∀ x ∈ arrList l n, 0 ≤ x.1 ∧ x.1 < ((2 * n + 3 : Nat) : Int) := by
  intro x hx
  simp only [arrList, List.mem_flatMap, List.mem_range] at hx
  obtain ⟨i, hi, hx⟩ := hx
  have := arrOf_time _ i x hx
  omega
theorem arrList_index (l : List Int) (n : Nat) : (arrList l n).Pairwise fun x y => x.2 ≤ y.2 := by
  unfold arrList
  rw [List.pairwise_flatMap]
  refine ⟨fun i _ => ?_, ?_⟩
  · refine List.pairwise_of_forall_mem_list (fun x hx y hy => ?_)
    have := arrOf_time _ i x hx
    have := arrOf_time _ i y hy
    omega
  · refine List.Pairwise.imp ?_ List.pairwise_lt_range
    intro a b hab x hx y hy
    have := arrOf_time _ a x hx
    have := arrOf_time _ b y hy
    omega
def atN (f : Int) (i : Nat) : Int := if f = 1 then -1 else if f = 3 then 2 * (i : Int) + 3 else 2 * (i : Int)
def cellOf (l : List Int) (t i : Nat) : List Int := if atN (fateN l i) i = (t : Int) then (if fateN l i = 2 then [(i : Int), (i : Int)] else [(i : Int)]) else []
theorem cellOf_arr (l : List Int) (t i : Nat) : cellOf l t i = ((arrOf (fateN l i) i).filter fun x => decide (x.1 = (t : Int))).map (·.2) := by
  unfold cellOf atN arrOf
  generalize fateN l i = f
  by_cases h1 : f = 1
  · subst h1
    rw [if_pos rfl, if_pos rfl, if_neg (by omega)]
    rfl
  by_cases h2 : f = 2
  · subst h2
    by_cases h : 2 * (i : Int) = t <;> simp [h]
  by_cases h3 : f = 3
  · subst h3
    by_cases h : 2 * (i : Int) + 3 = t <;> simp [h]
  · by_cases h : 2 * (i : Int) = t <;> simp [h1, h2, h3, h]
theorem scan_arrivals (l : List Int) (n : Nat) : ((List.range (2 * n + 3)).flatMap fun (t : Nat) => (List.range n).flatMap fun i => cellOf l t i) = arrivals l n := by
  unfold arrivals
  rw [← sortA_bucket (2 * n + 3) (arrList l n) (arrList_time l n) (arrList_index l n), List.map_flatMap]
  rw [List.flatMap_def, List.flatMap_def]
  congr 1
  refine List.map_congr_left (fun t _ => ?_)
  unfold arrList
  rw [List.filter_flatMap, List.map_flatMap, List.flatMap_def, List.flatMap_def]
  congr 1
  exact List.map_congr_left (fun i _ => cellOf_arr l t i)
theorem specFate_fateN (l : List Int) (i : Nat) : spec_l4Fate.f l (i : Int) = some (fateN l i) := by
  unfold spec_l4Fate.f fateN
  by_cases h : i < l.length
  · rw [if_pos (by omega), if_pos (by omega), if_pos h]
  · rw [if_neg (by omega), if_neg h]
theorem specAt (l : List Int) (i : Nat) (hi : i ≤ 1000) : spec_l4At.f l (i : Int) = some (atN (fateN l i) i) := by
  unfold spec_l4At.f atN
  rw [specFate_fateN, Option.bind_some, w64 (2 * (i : Int)) (by omega), w64 _ (by omega)]
  split
  · rfl
  · split <;> rfl
theorem cellOf_length (l : List Int) (t i : Nat) : (cellOf l t i).length ≤ 2 := by
  unfold cellOf
  repeat' split
  all_goals simp
theorem specL1 (l : List Int) (n t : Nat) (hn : n ≤ 60) (ht : t ≤ 1000) : ∀ (m i k : Nat) (acc : List Int), i + m = n → acc.length + 2 * m ≤ 100000 →
    spec_ArrivalsOf.l1 (k + m + 1) l (n : Int) acc (t : Int) (i : Int) = spec_ArrivalsOf.l0 k l (n : Int) (acc ++ (List.range' i m).flatMap fun j => cellOf l t j) ((t + 1 : Nat) : Int)
  | 0, i, k, acc, hi, ha => by
    rw [Nat.add_zero, spec_ArrivalsOf.l1, if_neg (by omega), w64 _ (by omega)]
    simp
  | m + 1, i, k, acc, hi, ha => by
    have ih := specL1 l n t hn ht m (i + 1) k (acc ++ cellOf l t i) (by omega) (by have := cellOf_length l t i; simp; omega)
    have e : wrap64 ((i : Int) + 1) = ((i + 1 : Nat) : Int) := by rw [w64 _ (by omega)]; simp
    have hr : (List.range' i (m + 1)).flatMap (fun j => cellOf l t j) = cellOf l t i ++ (List.range' (i + 1) m).flatMap fun j => cellOf l t j := by rw [List.range'_succ, List.flatMap_cons]
    rw [hr, ← List.append_assoc, ← ih, show k + (m + 1) + 1 = (k + m + 1) + 1 by omega, spec_ArrivalsOf.l1, if_pos (by omega), specAt l i (by omega), Option.bind_some, e]
    unfold cellOf
    by_cases h : atN (fateN l i) i = (t : Int)
    · rw [if_pos h, if_pos h, if_pos (by omega), Option.bind_some, specFate_fateN, Option.bind_some]
      by_cases h2 : fateN l i = 2
      · rw [if_pos h2, if_pos h2, if_pos (by simp; omega), List.append_assoc]
        rfl
      · rw [if_neg h2, if_neg h2]
    · rw [if_neg h, if_neg h, List.append_nil]
theorem specL0 (l : List Int) (n : Nat) (hn : n ≤ 60) : ∀ (q t k : Nat) (acc : List Int), t + q = 2 * n + 3 → acc.length + 2 * n * q ≤ 100000 → q * (n + 2) + 1 ≤ k →
    spec_ArrivalsOf.l0 k l (n : Int) acc (t : Int) = some (acc ++ (List.range' t q).flatMap fun (t : Nat) => (List.range n).flatMap fun j => cellOf l t j)
  | q, t, 0, acc, ht, ha, hk => by omega
  | 0, t, k + 1, acc, ht, ha, hk => by
    rw [spec_ArrivalsOf.l0, if_neg (by rw [w64 (2 * (n : Int)) (by omega), w64 _ (by omega)]; omega)]
    simp
  | q + 1, t, k + 1, acc, ht, ha, hk => by
    have hk2 : (q + 1) * (n + 2) = q * (n + 2) + (n + 2) := Nat.succ_mul _ _
    have ha2 : 2 * n * (q + 1) = 2 * n * q + 2 * n := Nat.mul_succ _ _
    have hfl : ((List.range n).flatMap fun j => cellOf l t j).length ≤ 2 * n := by
      have : ∀ (xs : List Nat), (xs.flatMap fun j => cellOf l t j).length ≤ 2 * xs.length := by
        intro xs
        induction xs with
        | nil => simp
        | cons x xs ih =>
          have := cellOf_length l t x
          rw [List.flatMap_cons, List.length_append, List.length_cons]
          omega
      have h := this (List.range n)
      rwa [List.length_range] at h
    have ih := specL0 l n hn q (t + 1) (k - n - 1) (acc ++ (List.range n).flatMap fun j => cellOf l t j) (by omega) (by rw [List.length_append]; omega) (by omega)
    rw [spec_ArrivalsOf.l0, if_pos (by rw [w64 (2 * (n : Int)) (by omega), w64 _ (by omega)]; omega)]
    have h1 := specL1 l n t hn (by omega) n 0 (k - n - 1) acc (by omega) (by omega)
    rw [show k - n - 1 + n + 1 = k by omega] at h1
    rw [show ((0 : Nat) : Int) = 0 from rfl, ← List.range_eq_range'] at h1
    rw [h1, ih, List.append_assoc, List.range'_succ, List.flatMap_cons]
theorem specFates0 (l : List Int) (hl : l.length ≤ 200) (hv : l.all fateOk = true) : ∀ (m i k : Nat), i + m = l.length → m + 1 ≤ k → spec_FatesValid.l0 k l (i : Int) = some true
  | m, i, 0, hi, hk => by omega
  | 0, i, k + 1, hi, hk => by rw [spec_FatesValid.l0, if_neg (by omega), decide_eq_true (by omega)]
  | m + 1, i, k + 1, hi, hk => by
    have e : wrap64 ((i : Int) + 1) = ((i + 1 : Nat) : Int) := by rw [w64 _ (by omega)]; simp
    have hil : i < l.length := by omega
    have hr : rd l (i : Int) = l[i] := by
      show l.getD _ 0 = _
      rw [List.getD_eq_getElem?_getD, Int.toNat_natCast, List.getElem?_eq_getElem hil]
      rfl
    have hf := List.all_eq_true.1 hv _ (List.getElem_mem hil)
    unfold fateOk at hf
    simp only [Bool.and_eq_true, decide_eq_true_eq] at hf
    have e2 : spec_l1In.f l[i] 0 4 = some true := by unfold spec_l1In.f; rw [if_pos (by omega), decide_eq_true hf.2]
    rw [spec_FatesValid.l0, if_pos (by omega), if_pos (by omega), hr, e2, Option.bind_some, if_pos rfl, e]
    exact specFates0 l hl hv m (i + 1) k (by omega) (by omega)
theorem specFates (l : List Int) (h : fatesOk l = true) (k : Nat) (hk : 201 ≤ k) : spec_FatesValid.f k l = some true := by
  unfold fatesOk at h
  simp only [Bool.and_eq_true, decide_eq_true_eq] at h
  exact specFates0 l h.1 h.2 l.length 0 k (by omega) (by omega)
theorem specArrivals (l : List Int) (n : Nat) (hn : n ≤ 9) (h : fatesOk l = true) : spec_ArrivalsOf.f 700 l (n : Int) = some (arrivals l n) := by
  have e : spec_l1In.f (n : Int) 0 60 = some true := by unfold spec_l1In.f; rw [if_pos (by omega), decide_eq_true (by omega)]
  have hk : (2 * n + 3) * (n + 2) ≤ 21 * 11 := Nat.mul_le_mul (by omega) (by omega)
  have hk2 : 2 * n * (2 * n + 3) ≤ 18 * 21 := Nat.mul_le_mul (by omega) (by omega)
  have h0 := specL0 l n (by omega) (2 * n + 3) 0 699 [] (by omega) (by simp; omega) (by omega)
  rw [← List.range_eq_range', scan_arrivals, List.nil_append] at h0
  unfold spec_ArrivalsOf.f
  rw [Option.bind_some, specFates l h 700 (by omega), Option.bind_some, if_pos rfl, e, Option.bind_some, spec_ArrivalsOf.j0, if_neg (by simp)]
  exact h0
theorem specFlip (b : List Int) (hb : b ≠ []) (hl : b.length ≤ 1000) : spec_l1Flip.f b 0 = some (flip0 b) := by
  have hpos : 0 < b.length := List.length_pos_iff.2 hb
  have e1 : wrap64 (Int.tdiv 0 8) = 0 := by rw [show Int.tdiv 0 8 = 0 by decide]; exact w64 0 (by omega)
  have e2 : wrap64 (7 - Int.tmod 0 8) = 7 := by rw [show Int.tmod 0 8 = 0 by decide]; exact w64 _ (by omega)
  unfold spec_l1Flip.f
  rw [Option.bind_some, if_pos (by simp; omega), Option.bind_some, List.nil_append, e1, e2, if_pos (by omega), if_pos (by omega), if_pos (by omega), show shl .u8 1 7 = 128 from by decide]
  rw [show (0 : Int).toNat = 0 from rfl, flip0_set]
theorem specList0 (l : List (List Int)) (hl : l.length ≤ 60) (hd : ∀ b ∈ l, b.length ≤ 600) : ∀ (m i k : Nat), i + m = l.length → m + 1 ≤ k → spec_l4List.l0 k l (i : Int) = some true
  | m, i, 0, hi, hk => by omega
  | 0, i, k + 1, hi, hk => by rw [spec_l4List.l0, if_neg (by omega), decide_eq_true (by omega)]
  | m + 1, i, k + 1, hi, hk => by
    have e : wrap64 ((i : Int) + 1) = ((i + 1 : Nat) : Int) := by rw [w64 _ (by omega)]; simp
    have hil : i < l.length := by omega
    have h2 := hd _ (List.getElem_mem hil)
    rw [spec_l4List.l0, if_pos (by omega), if_pos (by omega), rd_L2_get hil]
    unfold spec_l1Data.f
    rw [Option.bind_some, decide_eq_true (by omega), if_pos rfl, e]
    exact specList0 l hl hd m (i + 1) k (by omega) (by omega)
theorem specPW0 (fs : List Int) (pks : List (List Int)) (idx : List Int) (hi : ∀ i ∈ idx, 0 ≤ i ∧ i < pks.length) (hd : ∀ b ∈ pks, b.length ≤ 600) (hI : idx.length ≤ 100000) : ∀ (m j k : Nat) (acc : List (List Int)), j + m = idx.length → acc.length + m ≤ 100000 → m + 1 ≤ k → spec_PassWire.l0 k fs pks acc idx (j : Int) = some (acc ++ (idx.drop j).map (passOf fs pks))
  | m, j, 0, acc, hj, ha, hk => by omega
  | 0, j, k + 1, acc, hj, ha, hk => by
    rw [spec_PassWire.l0, if_neg (by omega), List.drop_eq_nil_of_le (by omega)]
    simp
  | m + 1, j, k + 1, acc, hj, ha, hk => by
    have e : wrap64 ((j : Int) + 1) = ((j + 1 : Nat) : Int) := by rw [w64 _ (by omega)]; simp
    have hjl : j < idx.length := by omega
    have hr : rd idx (j : Int) = idx[j] := by
      show idx.getD _ 0 = _
      rw [List.getD_eq_getElem?_getD, Int.toNat_natCast, List.getElem?_eq_getElem hjl]
      rfl
    have hx := hi _ (List.getElem_mem hjl)
    have hlen := rd_L2_le hd idx[j]
    have hf : spec_l4Fate.f fs idx[j] = some (fateN fs idx[j].toNat) := by
      have := specFate_fateN fs idx[j].toNat
      rwa [Int.toNat_of_nonneg hx.1] at this
    have hdrop : idx.drop j = idx[j] :: idx.drop (j + 1) := List.drop_eq_getElem_cons hjl
    have ih := specPW0 fs pks idx hi hd hI m (j + 1) k (acc ++ [passOf fs pks idx[j]]) (by omega) (by simp; omega) (by omega)
    rw [spec_PassWire.l0, if_pos (by omega), Option.bind_some, if_pos (by omega), hr, if_pos hx.1, if_pos hx.2, if_pos (by simp; omega), Option.bind_some, hf, Option.bind_some, List.nil_append, e, hdrop, List.map_cons]
    rw [show acc ++ passOf fs pks idx[j] :: (idx.drop (j + 1)).map (passOf fs pks) = (acc ++ [passOf fs pks idx[j]]) ++ (idx.drop (j + 1)).map (passOf fs pks) by simp]
    rw [← ih]
    unfold passOf
    by_cases h4 : fateN fs idx[j].toNat = 4
    · rw [if_pos h4, if_pos h4]
      by_cases hb : rd_L2 pks idx[j] = []
      · rw [hb, if_neg (by simp), if_pos (by omega)]
        rfl
      · have hpos : 0 < (rd_L2 pks idx[j]).length := List.length_pos_iff.2 hb
        rw [if_pos (by omega), specFlip _ hb (by omega), Option.bind_some, if_pos (by omega)]
    · rw [if_neg h4, if_neg h4, if_pos (by omega)]
theorem specPass (fs : List Int) (pks : List (List Int)) (hn : pks.length ≤ 9) (hf : fatesOk fs = true) (hd : ∀ b ∈ pks, b.length ≤ 600) : spec_PassWire.f 700 fs pks = some (passWire fs pks) := by
  have h1 : spec_l4List.f 700 pks = some true := specList0 pks (by omega) hd pks.length 0 700 (by omega) (by omega)
  have hal := arrivals_length fs pks.length
  have h2 := specPW0 fs pks (arrivals fs pks.length) (arrivals_mem fs pks.length) hd (by omega) (arrivals fs pks.length).length 0 700 [] (by omega) (by simp; omega) (by omega)
  unfold spec_PassWire.f passWire
  rw [Option.bind_some, h1, Option.bind_some, if_pos rfl, specArrivals fs pks.length hn hf, Option.bind_some]
  exact h2
theorem specBehind (l : List Int) (n : Nat) (hl : l.length ≤ 100000) : spec_l4Behind.f l (n : Int) = some (l.drop n) := by
  unfold spec_l4Behind.f
  rw [Option.bind_some]
  by_cases h : (l.length : Int) < (n : Int)
  · have hm : mn (n : Int) (l.length : Int) = (l.length : Int) := if_pos h
    rw [hm, if_pos (by omega), if_pos (by omega), if_pos (by simp), List.nil_append, Int.toNat_natCast, List.drop_eq_nil_of_le (Nat.le_refl _), List.drop_eq_nil_of_le (by omega)]
  · have hm : mn (n : Int) (l.length : Int) = (n : Int) := if_neg h
    rw [hm, if_pos (by omega), if_pos (by omega), if_pos (by simp; omega), List.nil_append, Int.toNat_natCast]
end Go.Proofs.Ytookabfmbimnoaa.Lk

namespace Go.Proofs.Ytookabfmbimnoaa.Lk
open Go.RowKit Go.Proofs.YtookabfmbimnoaaW.PrintWords Go.Proofs.YtookabfmbimnoaaW.PrintLast Go.Proofs.YtookabfmbimnoaaW.PrintMore
set_option linter.unusedVariables false
set_option linter.unusedSimpArgs false

structure BoxL (w : World) (g0 G : Nat) (vg : Value) (r s1 s2 : Nat) (f1 f2 : Value) : Prop where
  b0 : w.heap[g0]? = some (.cells #[.slice none 0 0, .int .i64 0, .int .i64 0, .bool false] 28 (0, 0))
  b1 : w.heap[G]? = some (.cells #[vg, .int .i64 r, .int .i64 0, .bool false] 28 (0, 0))
  b2 : w.heap[G + 1]? = some (.cells #[f1, .int .i64 s1] 52 (0, 0))
  b3 : w.heap[G + 1 + 1]? = some (.cells #[f2, .int .i64 s2] 52 (0, 0))
theorem heap_lt {w : World} {g : Nat} {o : Obj} (h : w.heap[g]? = some o) : g < w.heap.size := (Array.getElem?_eq_some_iff.1 h).1
theorem heap_set {w : World} {g j t : Nat} {cs : Array Value} {v : Value} (h : w.heap[g]? = some (.cells cs t (0, 0))) : (w.setCell ⟨g, j, none⟩ v).heap[g]? = some (.cells (cs.setIfInBounds j v) t (0, 0)) := by
  simp [World.setCell, Array.getElem?_modify, h]
namespace BoxL
variable {w w2 : World} {g0 G : Nat} {vg : Value} {r s1 s2 : Nat} {f1 f2 : Value}
theorem below (h : BoxL w g0 G vg r s1 s2 f1 f2) (hb : Below w.heap.size w w2) : BoxL w2 g0 G vg r s1 s2 f1 f2 :=
  ⟨(hb.block _ (heap_lt h.b0)).trans h.b0, (hb.block _ (heap_lt h.b1)).trans h.b1, (hb.block _ (heap_lt h.b2)).trans h.b2, (hb.block _ (heap_lt h.b3)).trans h.b3⟩
theorem grown (h : BoxL w g0 G vg r s1 s2 f1 f2) {row : Option Nat} (hg : w.grownBy w2 row) (hr : ∀ k, row = some k → ∃ cells, w.heap[k]? = some (.cells cells 22 (0, 0))) : BoxL w2 g0 G vg r s1 s2 f1 f2 := by
  have key : ∀ (g : Nat) (cs : Array Value) (t : Nat), w.heap[g]? = some (.cells cs t (0, 0)) → t ≠ 22 → w2.heap[g]? = some (.cells cs t (0, 0)) := by
    intro g cs t hg0 ht
    refine (hg.block g (heap_lt hg0) (fun e => ?_)).trans hg0
    obtain ⟨c2, h2⟩ := hr g e.symm
    rw [hg0] at h2
    injection h2 with h2
    injection h2 with _ h2
    exact ht h2
  exact ⟨key _ _ _ h.b0 (by decide), key _ _ _ h.b1 (by decide), key _ _ _ h.b2 (by decide), key _ _ _ h.b3 (by decide)⟩
theorem other {g : Nat} {o : Obj} (h : w.heap[g]? = some o) (g' : Nat) (hne : g' ≠ g) (j : Nat) (v : Value) : (w.setCell ⟨g', j, none⟩ v).heap[g]? = some o := (Below.heap_setCell w ⟨g', j, none⟩ v g (fun e => hne e.symm)).trans h
theorem setR (h : BoxL w g0 G vg r s1 s2 f1 f2) (h0 : g0 < G) (r' : Nat) : BoxL (w.setCell ⟨G, 1, none⟩ (.int .i64 (r' : Int))) g0 G vg r' s1 s2 f1 f2 :=
  ⟨other h.b0 G (by omega) _ _, by rw [heap_set h.b1]; rfl, other h.b2 G (by omega) _ _, other h.b3 G (by omega) _ _⟩
theorem setG (h : BoxL w g0 G vg r s1 s2 f1 f2) (h0 : g0 < G) (v' : Value) : BoxL (w.setCell ⟨G, 0, none⟩ v') g0 G v' r s1 s2 f1 f2 :=
  ⟨other h.b0 G (by omega) _ _, by rw [heap_set h.b1]; rfl, other h.b2 G (by omega) _ _, other h.b3 G (by omega) _ _⟩
theorem setS1 (h : BoxL w g0 G vg r s1 s2 f1 f2) (h0 : g0 < G) (s' : Nat) : BoxL (w.setCell ⟨G + 1, 1, none⟩ (.int .i64 (s' : Int))) g0 G vg r s' s2 f1 f2 :=
  ⟨other h.b0 (G + 1) (by omega) _ _, other h.b1 (G + 1) (by omega) _ _, by rw [heap_set h.b2]; rfl, other h.b3 (G + 1) (by omega) _ _⟩
theorem setS2 (h : BoxL w g0 G vg r s1 s2 f1 f2) (h0 : g0 < G) (s' : Nat) : BoxL (w.setCell ⟨G + 1 + 1, 1, none⟩ (.int .i64 (s' : Int))) g0 G vg r s1 s' f1 f2 :=
  ⟨other h.b0 (G + 1 + 1) (by omega) _ _, other h.b1 (G + 1 + 1) (by omega) _ _, other h.b2 (G + 1 + 1) (by omega) _ _, by rw [heap_set h.b3]; rfl⟩
theorem cells (h : BoxL w g0 G vg r s1 s2 f1 f2) : w.cell? ⟨G, 0, none⟩ = some vg ∧ w.cell? ⟨G, 1, none⟩ = some (.int .i64 r) ∧ w.frozen? ⟨G, 0, none⟩ = false ∧ w.frozen? ⟨G, 1, none⟩ = false := by
  refine ⟨?_, ?_, ?_, ?_⟩ <;> simp [World.cell?, World.frozen?, h.b1]
/-- Every cell of the run's box and of the result's. -/
theorem cellsG (h : BoxL w g0 G vg r s1 s2 f1 f2) : (w.cell? ⟨G, 0, none⟩ = some vg ∧ w.cell? ⟨G, 1, none⟩ = some (.int .i64 r) ∧ w.cell? ⟨G, 2, none⟩ = some (.int .i64 0) ∧ w.cell? ⟨G, 3, none⟩ = some (.bool false)) ∧ w.frozen? ⟨G, 0, none⟩ = false ∧ w.frozen? ⟨G, 1, none⟩ = false ∧ w.frozen? ⟨G, 2, none⟩ = false ∧ w.frozen? ⟨G, 3, none⟩ = false := by
  refine ⟨⟨?_, ?_, ?_, ?_⟩, ?_, ?_, ?_, ?_⟩ <;> simp [World.cell?, World.frozen?, h.b1]
theorem cells0 (h : BoxL w g0 G vg r s1 s2 f1 f2) : (w.cell? ⟨g0, 0, none⟩ = some (.slice none 0 0) ∧ w.cell? ⟨g0, 1, none⟩ = some (.int .i64 0) ∧ w.cell? ⟨g0, 2, none⟩ = some (.int .i64 0) ∧ w.cell? ⟨g0, 3, none⟩ = some (.bool false)) ∧ w.frozen? ⟨g0, 0, none⟩ = false ∧ w.frozen? ⟨g0, 1, none⟩ = false ∧ w.frozen? ⟨g0, 2, none⟩ = false ∧ w.frozen? ⟨g0, 3, none⟩ = false := by
  refine ⟨⟨?_, ?_, ?_, ?_⟩, ?_, ?_, ?_, ?_⟩ <;> simp [World.cell?, World.frozen?, h.b0]
theorem cellsS (h : BoxL w g0 G vg r s1 s2 f1 f2) : w.cell? ⟨G + 1, 1, none⟩ = some (.int .i64 s1) ∧ w.cell? ⟨G + 1 + 1, 1, none⟩ = some (.int .i64 s2) := by
  refine ⟨?_, ?_⟩ <;> simp [World.cell?, h.b2, h.b3]
end BoxL
end Go.Proofs.Ytookabfmbimnoaa.Lk

namespace Go.Proofs.Ytookabfmbimnoaa.Lk
open Go.RowKit Go.Proofs.YtookabfmbimnoaaW.PrintWords Go.Proofs.YtookabfmbimnoaaW.PrintLast Go.Proofs.YtookabfmbimnoaaW.PrintMore
set_option linter.unusedVariables false
set_option linter.unusedSimpArgs false

/-- A row of fates: it came in, or is of the call's own. -/
def FateRow (w0 w : World) (v : Value) (l : List Int) : Prop :=
  (∃ A c, v = .slice A l.length c ∧ l.length ≤ c ∧ Kd.C (Kd.int .i64) w0 A l.length l) ∨ Kd.R (Kd.int .i64) 3 w w0.heap.size (fun _ => True) v l
theorem FateRow.reads {w0 w : World} {v : Value} {l : List Int} (h : FateRow w0 w v l) (hb : Below w0.heap.size w0 w) : ∃ A c, v = .slice A l.length c ∧ l.length ≤ c ∧ Kd.C (Kd.int .i64) w A l.length l := by
  rcases h with ⟨A, c, rfl, hc, h⟩ | h
  · exact ⟨A, c, rfl, hc, Kd.C_below h hb⟩
  · exact Kd.R_reads h
theorem FateRow.below {w0 w w2 : World} {v : Value} {l : List Int} (h : FateRow w0 w v l) (hb : Below w.heap.size w w2) : FateRow w0 w2 v l := h.imp_right (fun h => Kd.R_below h hb)
theorem FateRow.set {w0 w : World} {v : Value} {l : List Int} (h : FateRow w0 w v l) {g t : Nat} {cells : Array Value} (hb : w.heap[g]? = some (.cells cells t (0, 0))) (ht : t ≠ 3) (j : Nat) (u : Value) : FateRow w0 (w.setCell ⟨g, j, none⟩ u) v l :=
  h.imp_right (fun h => Kd.R_set h hb (by intro q hq; have : q = 3 := by { simpa [Kd.int, Kd.scalar] using hq }; rw [this]; exact fun e => ht e.symm) j u)
theorem FateRow.grown {w0 w w2 : World} {v u : Value} {l : List Int} (h : FateRow w0 w v l) (hg : w.grownBy w2 u.ownBlock) (hr : ∀ k, u.ownBlock = some k → ∃ cells, w.heap[k]? = some (.cells cells 22 (0, 0))) : FateRow w0 w2 v l :=
  h.imp_right (fun h => Kd.R_over' h hr (by decide) hg)
/-- The state in the box g. -/
structure SBox (w0 w : World) (g : Nat) (l2 l3 : List Int) (st : LSt) : Prop where
  box : ∃ vg vt vb, w.heap[g]? = some (.cells #[vg, .int .i64 st.rounds, .int .i64 ((st.s1 : Int) + st.s2), .bool false, .int .i64 st.kn, vt, vb] 76 (0, 0)) ∧ Kd.S (Kd.slice 5 (Kd.int .u8)) 22 w w0.heap.size (fun _ => True) vg st.got ∧ FateRow w0 w vt (l2.drop st.s1) ∧ FateRow w0 w vb (l3.drop st.s2)
  ge : w0.heap.size ≤ g
  below : Below w0.heap.size w0 w
/-- The box's cells. -/
theorem cells76 {w : World} {g : Nat} {a0 a1 a2 a3 a4 a5 a6 : Value} (h : w.heap[g]? = some (.cells #[a0, a1, a2, a3, a4, a5, a6] 76 (0, 0))) :
    (w.cell? ⟨g, 0, none⟩ = some a0 ∧ w.cell? ⟨g, 1, none⟩ = some a1 ∧ w.cell? ⟨g, 2, none⟩ = some a2 ∧ w.cell? ⟨g, 3, none⟩ = some a3 ∧ w.cell? ⟨g, 4, none⟩ = some a4 ∧ w.cell? ⟨g, 5, none⟩ = some a5 ∧ w.cell? ⟨g, 6, none⟩ = some a6) ∧ (w.frozen? ⟨g, 0, none⟩ = false ∧ w.frozen? ⟨g, 1, none⟩ = false ∧ w.frozen? ⟨g, 2, none⟩ = false ∧ w.frozen? ⟨g, 3, none⟩ = false ∧ w.frozen? ⟨g, 4, none⟩ = false ∧ w.frozen? ⟨g, 5, none⟩ = false ∧ w.frozen? ⟨g, 6, none⟩ = false) := by
  refine ⟨⟨?_, ?_, ?_, ?_, ?_, ?_, ?_⟩, ?_, ?_, ?_, ?_, ?_, ?_, ?_⟩ <;> simp [World.cell?, World.frozen?, h]
theorem grown76 {w w2 : World} {g t : Nat} {cs : Array Value} {row : Option Nat} (h : w.heap[g]? = some (.cells cs t (0, 0))) (ht : t ≠ 22) (hg : w.grownBy w2 row) (hr : ∀ k, row = some k → ∃ cells, w.heap[k]? = some (.cells cells 22 (0, 0))) : w2.heap[g]? = some (.cells cs t (0, 0)) := by
  refine (hg.block g (heap_lt h) (fun e => ?_)).trans h
  obtain ⟨c2, h2⟩ := hr g e.symm
  rw [h] at h2
  injection h2 with h2
  injection h2 with _ h2
  exact ht h2
end Go.Proofs.Ytookabfmbimnoaa.Lk

namespace Go.Proofs.Ytookabfmbimnoaa.Lk
open Go.RowKit Go.Proofs.YtookabfmbimnoaaW.PrintWords Go.Proofs.YtookabfmbimnoaaW.PrintLast Go.Proofs.YtookabfmbimnoaaW.PrintMore
set_option linter.unusedVariables false
set_option linter.unusedSimpArgs false

/-- What must be so of the state ahead of a round. -/
structure StPre (st : LSt) (win : Nat) (l1 : List (List Int)) : Prop where
  kn : st.kn < l1.length
  len : l1.length ≤ 60
  win1 : 1 ≤ win
  win8 : win ≤ 8
  r : st.rounds ≤ 400
  s1 : st.s1 ≤ 8 * 400
  s2 : st.s2 ≤ 400
  got : st.got.length ≤ 16 * 401
set_option maxHeartbeats 8000000 in
set_option maxRecDepth 100000 in
theorem send_ok (g win : Nat) (A1 : Option Addr) (c1 : Nat) (l1 : List (List Int)) (l2 l3 : List Int) (st : LSt) (w0 w : World)
    (hr1 : Kd.C (Kd.slice 5 (Kd.int .u8)) w0 A1 l1.length l1) (hc1 : l1.length ≤ c1) (hb : SBox w0 w g l2 l3 st) (hp : StPre st win l1) (hf2 : fatesOk l2 = true) (hsh : l1.all shortB = true) (hbo : bytesOk l1 = true) :
    Calls Try.prog 57 #[.pointer (some ⟨g, 0, none⟩), .int .i64 (win : Int), .slice A1 l1.length c1] w fun e w' => e = .returned (.tuple #[]) ∧ SBox w0 w' g l2 l3 { st with got := (arrivals (l2.drop st.s1) (sentN win l1.length st.kn)).foldl (recv1 l1 st.kn (l2.drop st.s1)) st.got, s1 := st.s1 + sentN win l1.length st.kn } := by
  have HR1 := Aside0.mk hr1
  have HC1 := Aside0.mk hc1
  have HP := Aside0.mk hp
  have HF2 := Aside0.mk hf2
  have HSH := Aside0.mk hsh
  have HBO := Aside0.mk hbo
  obtain ⟨⟨vg, vt, vb, hx, hS, hT, hV⟩, hge, hbel⟩ := hb
  have HX := Aside0.mk hx
  have HS := Aside0.mk hS
  have HT := Aside0.mk hT
  have HV3 := Aside0.mk hV
  have HGE := Aside0.mk hge
  have HB0 := Aside0.mk hbel
  have hlt := hp.kn
  have HLD := Aside0.mk (show (l2.drop st.s1).length ≤ 200 by rw [List.length_drop]; unfold fatesOk at hf2; simp at hf2; omega)
  have HFD := Aside0.mk (show fatesOk (l2.drop st.s1) = true by unfold fatesOk at hf2 ⊢; simp at hf2 ⊢; exact ⟨by omega, fun x hx => hf2.2 x (List.mem_of_mem_drop hx)⟩)
  clear hr1 hc1 hp hf2 hsh hbo hx hS hT hV hge hbel
  have hDDA : ∀ n, (l2.drop st.s1).drop n = l2.drop (st.s1 + n) := fun n => List.drop_drop
  have HDDA := Aside0.mk hDDA
  clear hDDA
  obtain ⟨At, ct, et, hct, hCt⟩ := HT.out.reads HB0.out
  subst et
  have HCT := Aside0.mk hct
  have HRT := Aside0.mk hCt
  clear hct hCt HT
  generalize l2.drop st.s1 = fs at *
  have HN := Aside0.mk (show sentN win l1.length st.kn = min l1.length (st.kn + win) - st.kn from rfl)
  have HNL := Aside0.mk (show sentN win l1.length st.kn ≤ 8 by unfold sentN; have := HP.out.win8; omega)
  generalize sentN win l1.length st.kn = n at HN HNL ⊢
  obtain ⟨got2, hgot2⟩ : ∃ x, x = (arrivals fs n).foldl (recv1 l1 st.kn fs) st.got := ⟨_, rfl⟩
  rw [← hgot2]
  have HGOT2 := Aside0.mk hgot2
  clear hgot2
  have HB := Aside0.mk (Below.refl w.heap.size w)
  go_enter Try.func57, Try.ntmps57
  go_wp2_with (first
      | ((with_reducible refine gate_dst (N := 16) rfl ?_); refine Kd.R_lit (Kd.slice 5 (Kd.int .u8)) _ 22 ?hg (N := 16) ?hd (xs := ([] : List _)) (inner := []) (ok := fun _ => True) (okp := fun _ => True) ?hr ?hp (fun _ hk => hk) trivial (Below.refl _ _) (Nat.le_refl _) (by simp) ?_; (case hd => rfl); (case hg => rfl); (case hr => first | (go_simp; done) | (go_simp; rfl)); (case hp => exact (Reps.none _ _)); intro v0 w6 ho7 hb hg_ hnew_; clear hg_ hnew_; have n0_ := Aside0.mk (Kd.R_lower ho7 (below_size (by repeat (first | (with_reducible first | exact HB.out | apply below_alloc | apply pw_below_drewN | apply below_drew1) | exact HB.out)))); have n1_ := Aside0.mk (below_step (by repeat (first | (with_reducible first | exact HB.out | apply below_alloc | apply pw_below_drewN | apply below_drew1) | exact HB.out)) hb); clear HB; have HO0 := n0_; have HB := n1_; clear n0_ n1_; clear hb ho7; obtain ⟨⟨x0, x1, x2, x3, x4, x5, x6⟩, y0, y1, y2, y3, y4, y5, y6⟩ := cells76 (blk_below HX.out HB.out)))
  go_loopg [6, 7] n (fun kq v6 v7 w' => ∃ i : Nat, v7 = .int .i64 ((st.kn + i : Nat) : Int) ∧ Aside0 (i + kq = n) ∧ Aside0 (Kd.R (Kd.slice 5 (Kd.int .u8)) 22 w' w.heap.size (fun _ => True) v6 (spec_packs l1 st.kn i)) ∧ Aside0 (Below w.heap.size w w'))
  case atStart => exact ⟨0, rfl, ⟨by simp⟩, ⟨(by (with_reducible repeat (first | apply Kd.R_alloc | apply Kd.R_drewN | apply Kd.R_drew)); exact HO0.out)⟩, ⟨(by repeat (first | (with_reducible first | exact HB.out | apply below_alloc | apply pw_below_drewN | apply below_drew1) | exact HB.out))⟩⟩
  case round =>
    clear HB HO0 x0 x1 x2 x3 x4 x5 x6 y0 y1 y2 y3 y4 y5 y6
    obtain ⟨i, rfl, HI, HO, HB⟩ := hrel
    obtain ⟨⟨x0, x1, x2, x3, x4, x5, x6⟩, y0, y1, y2, y3, y4, y5, y6⟩ := cells76 (blk_below HX.out HB.out)
    have hwk : wrap64 ((st.kn : Int) + win) = (st.kn : Int) + win := w64 _ (by have := HP.out.len; have := HP.out.win8; omega)
    cases gk with
    | zero =>
      obtain rfl : i = n := by have := HI.out; omega
      by_cases hA : st.kn + i < l1.length
      · have hkw : ¬ i < win := by have := HN.out; omega
        have t1 : decide (((st.kn + i : Nat) : Int) < l1.length) = true := decide_eq_true (by omega)
        have t2 : decide ((st.kn : Int) + i < l1.length) = true := decide_eq_true (by omega)
        have t3 : decide (st.kn + i < l1.length) = true := decide_eq_true (by omega)
        have t4 : decide (i < win) = false := decide_eq_false (by omega)
        have t4b : decide ((i : Int) < win) = false := decide_eq_false (by omega)
        have t4c : decide ((st.kn : Int) + i < (st.kn : Int) + win) = false := decide_eq_false (by omega)
        have t4d : decide (((st.kn + i : Nat) : Int) < (st.kn : Int) + win) = false := decide_eq_false (by omega)
        clear hA hkw
        obtain ⟨A6, c6, e6⟩ := Kd.R_slice HO.out
        subst e6
        obtain ⟨hq1, hq2, hq3⟩ := Kd.R_reads' HO.out
        have HPL := Aside0.mk (spec_packs_length l1 st.kn i)
        have HSHORT := Aside0.mk (spec_packs_short HSH.out st.kn i)
        have HUN := Aside0.mk (fun (x : Int) (h0 : 0 ≤ x) (h1 : x < i) => spec_unOf HSH.out HBO.out st.kn i fs x h0 h1)
        generalize spec_packs l1 st.kn i = pks at hq1 hq2 hq3 HSHORT HPL HUN HO ⊢
        have HPASS := Aside0.mk (specPass fs pks (by have := HPL.out; have := HNL.out; omega) HFD.out HSHORT.out)
        have HQ2 := Aside0.mk hq2
        have HQ3 := Aside0.mk hq3
        clear hq1 hq2 hq3 HO
        go_wp2_with fail
        refine (spec_PassWire.calls 700 At ct fs A6 c6 pks _ _ (Kd.C_below HRT.out HB.out) HCT.out HQ3.out HQ2.out HPASS.out).mono ?_
        rintro e w' ⟨v10, rfl, ho, hb⟩
        have HV := Aside0.mk (Kd.R_lower (Kd.S_R (Kd.S_new' ho (Kd.S_lt (Kd.S_below HS.out HB.out)))) (Nat.le_trans HB0.out.size HB.out.size))
        replace HB := Aside0.mk (below_step HB.out hb)
        clear x0 x1 x2 x3 x4 x5 x6 y0 y1 y2 y3 y4 y5 y6 hb ho
        obtain ⟨⟨x0, x1, x2, x3, x4, x5, x6⟩, y0, y1, y2, y3, y4, y5, y6⟩ := cells76 (blk_below HX.out HB.out)
        go_wp2_with fail
        refine (spec_l4Behind.calls At ct fs (pks.length : Int) _ _ (Kd.C_below HRT.out HB.out) HCT.out (specBehind fs pks.length (by have := HLD.out; omega))).mono ?_
        rintro e w2 ⟨vt2, rfl, ho, hb⟩
        have HV2 := Aside0.mk (Kd.R_below HV.out hb)
        have HT2 := Aside0.mk (Kd.R_lower ho (Nat.le_trans HB0.out.size HB.out.size))
        replace HB := Aside0.mk (below_step HB.out hb)
        clear x0 x1 x2 x3 x4 x5 x6 y0 y1 y2 y3 y4 y5 y6 hb ho HV
        obtain ⟨⟨x0, x1, x2, x3, x4, x5, x6⟩, y0, y1, y2, y3, y4, y5, y6⟩ := cells76 (blk_below HX.out HB.out)
        rw [HPL.out, HDDA.out] at HT2
        have hlen2 := Kd.R_slice HT2.out
        generalize hfs2 : l2.drop (st.s1 + i) = fs2 at HT2 hlen2
        have HFS2 := Aside0.mk hfs2
        clear hfs2
        obtain ⟨At2, ct2, et2⟩ := hlen2
        subst et2
        have hw2 : wrap64 ((st.s1 : Int) + (st.s2 : Int) + (pks.length : Int)) = (st.s1 : Int) + st.s2 + i := by rw [HPL.out]; exact w64 _ (by have := HP.out.s1; have := HP.out.s2; have := HNL.out; omega)
        have hw3 : wrap64 ((st.s1 : Int) + (st.s2 : Int) + (i : Int)) = (st.s1 : Int) + st.s2 + i := w64 _ (by have := HP.out.s1; have := HP.out.s2; have := HNL.out; omega)
        obtain ⟨A10, c10, e10⟩ := Kd.R_slice HV2.out
        subst e10
        go_wp2_with fail
        obtain ⟨wB, hwB⟩ : ∃ W : World, W = (w2.setCell ⟨g, 5, none⟩ (.slice At2 fs2.length ct2)).setCell ⟨g, 2, none⟩ (.int .i64 ((st.s1 : Int) + st.s2 + i)) := ⟨_, rfl⟩
        rw [← hwB]
        have hX2 := blk_below HX.out HB.out
        have hX3 := heap_set (j := 5) (v := .slice At2 fs2.length ct2) hX2
        have n1_ := Aside0.mk (show wB.heap[g]? = some (.cells #[vg, .int .i64 st.rounds, .int .i64 (((st.s1 + i : Nat) : Int) + st.s2), .bool false, .int .i64 st.kn, .slice At2 fs2.length ct2, vb] 76 (0, 0)) by
          rw [hwB, heap_set hX3, show ((st.s1 + i : Nat) : Int) + st.s2 = (st.s1 : Int) + st.s2 + i by omega]
          rfl)
        have n2_ := Aside0.mk (show Kd.S (Kd.slice 5 (Kd.int .u8)) 22 wB w0.heap.size (fun _ => True) vg st.got by
          rw [hwB]
          exact Kd.S_set (Kd.S_set (Kd.S_below HS.out HB.out) hX2 (by decide) _ _) hX3 (by decide) _ _)
        have n3_ := Aside0.mk (show Kd.R (Kd.int .i64) 3 wB w0.heap.size (fun _ => True) (.slice At2 fs2.length ct2) fs2 by
          rw [hwB]
          exact Kd.R_set (Kd.R_set HT2.out hX2 (by decide) _ _) hX3 (by decide) _ _)
        have n4_ := Aside0.mk (show FateRow w0 wB vb (l3.drop st.s2) by
          rw [hwB]
          exact ((HV3.out.below HB.out).set hX2 (by decide) _ _).set hX3 (by decide) _ _)
        have n5_ := Aside0.mk (show Kd.R (Kd.slice 5 (Kd.int .u8)) 22 wB w0.heap.size (fun k => True ∧ some k ≠ vg.ownBlock) (.slice A10 (passWire fs pks).length c10) (passWire fs pks) by
          rw [hwB]
          exact Kd.R_set (Kd.R_set HV2.out hX2 (by decide) _ _) hX3 (by decide) _ _)
        have n6_ := Aside0.mk (show Below w0.heap.size w0 wB by
          rw [hwB]
          exact below_set (below_set (below_step HB0.out HB.out) HGE.out) HGE.out)
        clear hw2 hw3 hwB hX2 hX3 HS HT2 HV3 HV2 HB HX HB0 x0 x1 x2 x3 x4 x5 x6 y0 y1 y2 y3 y4 y5 y6
        have HX := n1_
        have HS := n2_
        have HT := n3_
        have HV3 := n4_
        have HV := n5_
        have HB := n6_
        clear n1_ n2_ n3_ n4_ n5_ n6_
        have HAR := Aside0.mk (show passWire fs pks = (arrivals fs i).map (passOf fs pks) by unfold passWire; rw [HPL.out])
        have HAM := Aside0.mk (arrivals_mem fs i)
        have HAL := Aside0.mk (arrivals_length fs i)
        have HLEN := Aside0.mk (show (passWire fs pks).length = (arrivals fs i).length by rw [HAR.out, List.length_map])
        generalize passWire fs pks = arr at HV HAR HLEN ⊢
        generalize arrivals fs i = ar at HAR HAM HAL HGOT2 HLEN
        go_loopg [11] ar.length (fun kq v11 w' => ∃ (j : Nat) (vg' : Value) (got' : List (List Int)), v11 = .int .i64 (j : Int) ∧ Aside0 (j + kq = ar.length) ∧ Aside0 ((ar.drop j).foldl (recv1 l1 st.kn fs) got' = got2) ∧ Aside0 (got'.length ≤ st.got.length + j) ∧ Aside0 (w'.heap[g]? = some (.cells #[vg', .int .i64 st.rounds, .int .i64 (((st.s1 + i : Nat) : Int) + st.s2), .bool false, .int .i64 st.kn, .slice At2 fs2.length ct2, vb] 76 (0, 0))) ∧ Aside0 (Kd.S (Kd.slice 5 (Kd.int .u8)) 22 w' w0.heap.size (fun _ => True) vg' got') ∧ Aside0 (Kd.R (Kd.int .i64) 3 w' w0.heap.size (fun _ => True) (.slice At2 fs2.length ct2) fs2) ∧ Aside0 (FateRow w0 w' vb (l3.drop st.s2)) ∧ Aside0 (Kd.R (Kd.slice 5 (Kd.int .u8)) 22 w' w0.heap.size (fun k => True ∧ some k ≠ vg'.ownBlock) (.slice A10 arr.length c10) arr) ∧ Aside0 (Below w0.heap.size w0 w'))
        case atStart => exact ⟨0, vg, st.got, rfl, ⟨by simp⟩, ⟨HGOT2.out.symm⟩, ⟨Nat.le_refl _⟩, HX, HS, HT, HV3, HV, HB⟩
        case round =>
          clear HX HS HT HV3 HV HB
          obtain ⟨j, vg', got', rfl, HJ, HG2, HGL, HX, HS, HT, HV3, HV, HB⟩ := hrel
          obtain ⟨⟨x0, x1, x2, x3, x4, x5, x6⟩, y0, y1, y2, y3, y4, y5, y6⟩ := cells76 HX.out
          cases gk with
          | zero =>
            obtain rfl : ar.length = j := by have := HJ.out; omega
            have c1 : decide ((ar.length : Int) < arr.length) = false := decide_eq_false (by have := HLEN.out; omega)
            have c1n : decide (ar.length < arr.length) = false := decide_eq_false (by have := HLEN.out; omega)
            rw [List.drop_length] at HG2
            obtain rfl : got' = got2 := HG2.out
            go_wp2_with fail
            go_end0
            exact ⟨rfl, ⟨vg', _, vb, HX.out, HS.out, .inr (by show Kd.R _ _ _ _ _ _ (l2.drop (st.s1 + i)); rw [HFS2.out]; exact HT.out), HV3.out⟩, HGE.out, HB.out⟩
          | succ k3 =>
            have hj : j < ar.length := by have := HJ.out; omega
            have c1 : decide ((j : Int) < arr.length) = true := decide_eq_true (by have := HLEN.out; omega)
            have c1n : decide (j < arr.length) = true := decide_eq_true (by have := HLEN.out; omega)
            have c2 : (0 ≤ (j : Int)) = True := eq_true (by omega)
            have c3 : ((j : Int) < arr.length) = True := eq_true (by have := HLEN.out; omega)
            have c3n : (j < arr.length) = True := eq_true (by have := HLEN.out; omega)
            have hja : j < arr.length := by have := HLEN.out; omega
            obtain ⟨ad, Ab, cb, hA, hx, hcap, hrr⟩ := at_L2 (Kd.R_reads' HV.out).2.2 (j : Int) (by omega) (by omega)
            subst hA
            have HD := Aside0.mk (show ar.drop j = ar[j] :: ar.drop (j + 1) from List.drop_eq_getElem_cons hj)
            have ha := HAM.out ar[j] (List.getElem_mem hj)
            have hu := HUN.out ar[j] ha.1 ha.2
            have hpj : rd_L2 arr (j : Int) = passOf fs pks ar[j] := by rw [rd_L2_get hja]; simp [HAR.out]
            rw [hpj, Int.toNat_natCast] at hx
            rw [hpj] at hcap hrr
            generalize passOf fs pks ar[j] = pj at hx hcap hrr hu
            generalize ar[j] = idx at HD ha hu
            have HU := Aside0.mk hu
            have HRB := Aside0.mk hrr
            have HCB := Aside0.mk hcap
            clear hu hrr hcap ha hpj hj hja
            have hw1 : wrap64 ((j : Int) + 1) = ((j + 1 : Nat) : Int) := by rw [w64 _ (by have := HJ.out; have := HAL.out; have := HNL.out; omega)]; simp
            obtain ⟨Ag, cg, eg⟩ := Kd.S_slice HS.out
            subst eg
            have hrem : Int.tmod (got'.length : Int) 16 = ((got'.length % 16 : Nat) : Int) := by rw [Int.tmod_eq_emod_of_nonneg (by omega)]; simp
            have hrem2 : Int.tmod (got'.length : Int) 16 = (got'.length : Int) % 16 := by rw [Int.tmod_eq_emod_of_nonneg (by omega)]
            by_cases hf : fateN fs idx.toNat = 4
            · have HREC := Aside0.mk (show recv1 l1 st.kn fs got' idx = got' by unfold recv1; rw [if_pos hf])
              unfold unOf at HU
              rw [if_pos hf] at HU
              clear hf
              go_wp2_with (go_at_call 76; (with_reducible refine (spec_UnpackLink.calls 700 _ _ pj _ _ _ _ _ ?s0 ?s1 HU.out).mono ?_); (case s0 => exact HRB.out); (case s1 => exact HCB.out); rintro e w' ⟨ve, rfl, he, hb⟩; have n0_ := Aside0.mk (Kd.S_below HS.out hb); have n1_ := Aside0.mk (Kd.R_below HV.out hb); have n2_ := Aside0.mk (HB.out.trans (hb.mono HB.out.size)); have n3_ := Aside0.mk (blk_below HX.out hb); have n6_ := Aside0.mk (Kd.R_below HT.out hb); have n7_ := Aside0.mk (HV3.out.below hb); clear HS HV HB HX HT HV3; have HS := n0_; have HV := n1_; have HB := n2_; have HX := n3_; have HT := n6_; have HV3 := n7_; clear x0 x1 x2 x3 x4 x5 x6 y0 y1 y2 y3 y4 y5 y6; obtain ⟨⟨x0, x1, x2, x3, x4, x5, x6⟩, y0, y1, y2, y3, y4, y5, y6⟩ := cells76 HX.out; clear n0_ n1_ n2_ n3_ n6_ n7_ he hb)
              go_roundg k3
              case measure => omega
              case rel => exact ⟨j + 1, _, got', by rw [hw1], ⟨by have := HJ.out; omega⟩, ⟨by have := HG2.out; rw [HD.out, List.foldl_cons, HREC.out] at this; exact this⟩, ⟨by have := HGL.out; omega⟩, HX, HS, HT, HV3, HV, HB⟩
            · unfold unOf at HU
              rw [if_neg hf] at HU
              by_cases hq : (st.kn + idx.toNat) % 16 = got'.length % 16
              · have HREC := Aside0.mk (show recv1 l1 st.kn fs got' idx = got' ++ [l1.getD (st.kn + idx.toNat) []] by unfold recv1; rw [if_neg hf, if_pos hq])
                rw [hq] at HU
                generalize l1.getD (st.kn + idx.toNat) [] = d at HREC HU
                clear hq hf
                have e6 : (((got'.length % 16 : Nat) : Int) == (got'.length : Int) % 16) = true := by simp
                go_wp2_with (first
              | (go_at_call 76; (with_reducible refine (spec_UnpackLink.calls 700 _ _ pj _ _ _ _ _ ?s0 ?s1 HU.out).mono ?_); (case s0 => exact HRB.out); (case s1 => exact HCB.out); rintro e w' ⟨ve, rfl, he, hb⟩; have n4_ := Aside0.mk (fun (k : Nat) (hk : some k = ve.ownBlock) (e : some k = (Value.slice Ag got'.length cg).ownBlock) => (by have h1 := Kd.R_base he k hk.symm; have h2 := Kd.S_lt HS.out k e.symm; omega : False)); have n5_ := Aside0.mk (Kd.R_tight rfl (Kd.R_lower he HB.out.size)); have n0_ := Aside0.mk (Kd.S_elder' HS.out (Kd.R_base he) hb); have n1_ := Aside0.mk (Kd.R_below HV.out hb); have n2_ := Aside0.mk (HB.out.trans (hb.mono HB.out.size)); have n3_ := Aside0.mk (blk_below HX.out hb); have n6_ := Aside0.mk (Kd.R_below HT.out hb); have n7_ := Aside0.mk (HV3.out.below hb); clear HS HV HB HX HT HV3; have HS := n0_; have HV := n1_; have HB := n2_; have HX := n3_; have HT := n6_; have HV3 := n7_; clear x0 x1 x2 x3 x4 x5 x6 y0 y1 y2 y3 y4 y5 y6; obtain ⟨⟨x0, x1, x2, x3, x4, x5, x6⟩, y0, y1, y2, y3, y4, y5, y6⟩ := cells76 HX.out; have HAP := n4_; have HE := n5_; clear n0_ n1_ n2_ n3_ n4_ n5_ n6_ n7_ he hb; obtain ⟨Ae, ce, ee⟩ := Kd.R_slice HE.out; subst ee)
              | ((with_reducible refine gate_builtin (b := .append) (xs := #[.tmp 116, .tmp 118]) rfl ?_); at_builtin; refine Kd.S_append (Kd.slice 5 (Kd.int .u8)) (w0 := w0) w0.heap.size rfl (.tmp 116) (.tmp 118) 23 22 (.slice none 0 0) 24 rfl Try.underlying23 info22 rfl (by decide) (by omega) (.slice Ag got'.length cg) got' d [.slice Ae d.length ce] (fun _ => True) (fun k_ => some k_ = (.slice Ae d.length ce : Value).ownBlock) rfl (by first | rfl | (show Value.slice _ 1 1 = _; simp)) ?aP (fun k_ hk_ => ⟨trivial, fun e_ => HAP.out k_ hk_ e_⟩) ?aF ?aO ?aB ?aS ?aL ?_; (case aP => exact Kd.M_row HE.out); (case aB => exact HB.out); (case aF => exact (fun _ _ => trivial)); (case aO => exact HS.out); (case aS => exact HB.out.size); (case aL => have := HGL.out; have := HP.out.got; have := HAL.out; have := HNL.out; have := HJ.out; omega); intro v1 w1 ho hb hg hat; have n0_ := Aside0.mk (Kd.R_after HV.out hg hat); have n1_ := Aside0.mk (grown76 HX.out (by decide) hg (Kd.S_typed HS.out)); have n2_ := Aside0.mk ho; have n3_ := Aside0.mk hb; have n4_ := Aside0.mk (Kd.R_over' HT.out (Kd.S_typed HS.out) (by decide) hg); have n5_ := Aside0.mk (HV3.out.grown hg (Kd.S_typed HS.out)); clear HV HX HS HB HAP HE HT HV3; have HV := n0_; have HX := n1_; have HSN := n2_; have HB := n3_; have HT := n4_; have HV3 := n5_; clear n0_ n1_ n2_ n3_ n4_ n5_ ho hb hg hat; obtain ⟨A1_, c1_, e1_⟩ := Kd.S_slice HSN.out; subst e1_; clear x0 x1 x2 x3 x4 x5 x6 y0 y1 y2 y3 y4 y5 y6; obtain ⟨⟨x0, x1, x2, x3, x4, x5, x6⟩, y0, y1, y2, y3, y4, y5, y6⟩ := cells76 HX.out))
                go_roundg k3
                case measure => omega
                case rel =>
                  have hl2 : got'.length + 1 = (got' ++ [d]).length := by simp
                  exact ⟨j + 1, .slice A1_ (got' ++ [d]).length c1_, got' ++ [d], by rw [hw1], ⟨by have := HJ.out; omega⟩, ⟨by have := HG2.out; rw [HD.out, List.foldl_cons, HREC.out] at this; exact this⟩, ⟨by have := HGL.out; simp; omega⟩, ⟨by rw [hl2, heap_set HX.out]; rfl⟩, ⟨by rw [hl2]; exact Kd.S_set HSN.out HX.out (by decide) _ _⟩, ⟨by rw [hl2]; exact Kd.R_set HT.out HX.out (by decide) _ _⟩, ⟨by rw [hl2]; exact HV3.out.set HX.out (by decide) _ _⟩, ⟨by rw [hl2]; exact Kd.R_set HV.out HX.out (by decide) _ _⟩, ⟨below_set HB.out HGE.out⟩⟩
              · have HREC := Aside0.mk (show recv1 l1 st.kn fs got' idx = got' by unfold recv1; rw [if_neg hf, if_neg hq])
                have e6 : ((((st.kn + idx.toNat) % 16 : Nat) : Int) == (got'.length : Int) % 16) = false := beq_eq_false_iff_ne.mpr (by omega)
                have e7 : (((st.kn : Int) + (idx.toNat : Int)) % 16 == (got'.length : Int) % 16) = false := beq_eq_false_iff_ne.mpr (by omega)
                generalize idx.toNat = ix at *
                clear hq hf
                go_wp2_with (go_at_call 76; (with_reducible refine (spec_UnpackLink.calls 700 _ _ pj _ _ _ _ _ ?s0 ?s1 HU.out).mono ?_); (case s0 => exact HRB.out); (case s1 => exact HCB.out); rintro e w' ⟨ve, rfl, he, hb⟩; have n0_ := Aside0.mk (Kd.S_below HS.out hb); have n1_ := Aside0.mk (Kd.R_below HV.out hb); have n2_ := Aside0.mk (HB.out.trans (hb.mono HB.out.size)); have n3_ := Aside0.mk (blk_below HX.out hb); have n6_ := Aside0.mk (Kd.R_below HT.out hb); have n7_ := Aside0.mk (HV3.out.below hb); clear HS HV HB HX HT HV3; have HS := n0_; have HV := n1_; have HB := n2_; have HX := n3_; have HT := n6_; have HV3 := n7_; clear x0 x1 x2 x3 x4 x5 x6 y0 y1 y2 y3 y4 y5 y6; obtain ⟨⟨x0, x1, x2, x3, x4, x5, x6⟩, y0, y1, y2, y3, y4, y5, y6⟩ := cells76 HX.out; clear n0_ n1_ n2_ n3_ n6_ n7_ he hb)
                go_roundg k3
                case measure => omega
                case rel => exact ⟨j + 1, _, got', by rw [hw1], ⟨by have := HJ.out; omega⟩, ⟨by have := HG2.out; rw [HD.out, List.foldl_cons, HREC.out] at this; exact this⟩, ⟨by have := HGL.out; omega⟩, HX, HS, HT, HV3, HV, HB⟩
      · have t1 : decide (((st.kn + i : Nat) : Int) < l1.length) = false := decide_eq_false (by omega)
        have t2 : decide ((st.kn : Int) + i < l1.length) = false := decide_eq_false (by omega)
        have t3 : decide (st.kn + i < l1.length) = false := decide_eq_false (by omega)
        clear hA
        obtain ⟨A6, c6, e6⟩ := Kd.R_slice HO.out
        subst e6
        obtain ⟨hq1, hq2, hq3⟩ := Kd.R_reads' HO.out
        have HPL := Aside0.mk (spec_packs_length l1 st.kn i)
        have HSHORT := Aside0.mk (spec_packs_short HSH.out st.kn i)
        have HUN := Aside0.mk (fun (x : Int) (h0 : 0 ≤ x) (h1 : x < i) => spec_unOf HSH.out HBO.out st.kn i fs x h0 h1)
        generalize spec_packs l1 st.kn i = pks at hq1 hq2 hq3 HSHORT HPL HUN HO ⊢
        have HPASS := Aside0.mk (specPass fs pks (by have := HPL.out; have := HNL.out; omega) HFD.out HSHORT.out)
        have HQ2 := Aside0.mk hq2
        have HQ3 := Aside0.mk hq3
        clear hq1 hq2 hq3 HO
        go_wp2_with fail
        refine (spec_PassWire.calls 700 At ct fs A6 c6 pks _ _ (Kd.C_below HRT.out HB.out) HCT.out HQ3.out HQ2.out HPASS.out).mono ?_
        rintro e w' ⟨v10, rfl, ho, hb⟩
        have HV := Aside0.mk (Kd.R_lower (Kd.S_R (Kd.S_new' ho (Kd.S_lt (Kd.S_below HS.out HB.out)))) (Nat.le_trans HB0.out.size HB.out.size))
        replace HB := Aside0.mk (below_step HB.out hb)
        clear x0 x1 x2 x3 x4 x5 x6 y0 y1 y2 y3 y4 y5 y6 hb ho
        obtain ⟨⟨x0, x1, x2, x3, x4, x5, x6⟩, y0, y1, y2, y3, y4, y5, y6⟩ := cells76 (blk_below HX.out HB.out)
        go_wp2_with fail
        refine (spec_l4Behind.calls At ct fs (pks.length : Int) _ _ (Kd.C_below HRT.out HB.out) HCT.out (specBehind fs pks.length (by have := HLD.out; omega))).mono ?_
        rintro e w2 ⟨vt2, rfl, ho, hb⟩
        have HV2 := Aside0.mk (Kd.R_below HV.out hb)
        have HT2 := Aside0.mk (Kd.R_lower ho (Nat.le_trans HB0.out.size HB.out.size))
        replace HB := Aside0.mk (below_step HB.out hb)
        clear x0 x1 x2 x3 x4 x5 x6 y0 y1 y2 y3 y4 y5 y6 hb ho HV
        obtain ⟨⟨x0, x1, x2, x3, x4, x5, x6⟩, y0, y1, y2, y3, y4, y5, y6⟩ := cells76 (blk_below HX.out HB.out)
        rw [HPL.out, HDDA.out] at HT2
        have hlen2 := Kd.R_slice HT2.out
        generalize hfs2 : l2.drop (st.s1 + i) = fs2 at HT2 hlen2
        have HFS2 := Aside0.mk hfs2
        clear hfs2
        obtain ⟨At2, ct2, et2⟩ := hlen2
        subst et2
        have hw2 : wrap64 ((st.s1 : Int) + (st.s2 : Int) + (pks.length : Int)) = (st.s1 : Int) + st.s2 + i := by rw [HPL.out]; exact w64 _ (by have := HP.out.s1; have := HP.out.s2; have := HNL.out; omega)
        have hw3 : wrap64 ((st.s1 : Int) + (st.s2 : Int) + (i : Int)) = (st.s1 : Int) + st.s2 + i := w64 _ (by have := HP.out.s1; have := HP.out.s2; have := HNL.out; omega)
        obtain ⟨A10, c10, e10⟩ := Kd.R_slice HV2.out
        subst e10
        go_wp2_with fail
        obtain ⟨wB, hwB⟩ : ∃ W : World, W = (w2.setCell ⟨g, 5, none⟩ (.slice At2 fs2.length ct2)).setCell ⟨g, 2, none⟩ (.int .i64 ((st.s1 : Int) + st.s2 + i)) := ⟨_, rfl⟩
        rw [← hwB]
        have hX2 := blk_below HX.out HB.out
        have hX3 := heap_set (j := 5) (v := .slice At2 fs2.length ct2) hX2
        have n1_ := Aside0.mk (show wB.heap[g]? = some (.cells #[vg, .int .i64 st.rounds, .int .i64 (((st.s1 + i : Nat) : Int) + st.s2), .bool false, .int .i64 st.kn, .slice At2 fs2.length ct2, vb] 76 (0, 0)) by
          rw [hwB, heap_set hX3, show ((st.s1 + i : Nat) : Int) + st.s2 = (st.s1 : Int) + st.s2 + i by omega]
          rfl)
        have n2_ := Aside0.mk (show Kd.S (Kd.slice 5 (Kd.int .u8)) 22 wB w0.heap.size (fun _ => True) vg st.got by
          rw [hwB]
          exact Kd.S_set (Kd.S_set (Kd.S_below HS.out HB.out) hX2 (by decide) _ _) hX3 (by decide) _ _)
        have n3_ := Aside0.mk (show Kd.R (Kd.int .i64) 3 wB w0.heap.size (fun _ => True) (.slice At2 fs2.length ct2) fs2 by
          rw [hwB]
          exact Kd.R_set (Kd.R_set HT2.out hX2 (by decide) _ _) hX3 (by decide) _ _)
        have n4_ := Aside0.mk (show FateRow w0 wB vb (l3.drop st.s2) by
          rw [hwB]
          exact ((HV3.out.below HB.out).set hX2 (by decide) _ _).set hX3 (by decide) _ _)
        have n5_ := Aside0.mk (show Kd.R (Kd.slice 5 (Kd.int .u8)) 22 wB w0.heap.size (fun k => True ∧ some k ≠ vg.ownBlock) (.slice A10 (passWire fs pks).length c10) (passWire fs pks) by
          rw [hwB]
          exact Kd.R_set (Kd.R_set HV2.out hX2 (by decide) _ _) hX3 (by decide) _ _)
        have n6_ := Aside0.mk (show Below w0.heap.size w0 wB by
          rw [hwB]
          exact below_set (below_set (below_step HB0.out HB.out) HGE.out) HGE.out)
        clear hw2 hw3 hwB hX2 hX3 HS HT2 HV3 HV2 HB HX HB0 x0 x1 x2 x3 x4 x5 x6 y0 y1 y2 y3 y4 y5 y6
        have HX := n1_
        have HS := n2_
        have HT := n3_
        have HV3 := n4_
        have HV := n5_
        have HB := n6_
        clear n1_ n2_ n3_ n4_ n5_ n6_
        have HAR := Aside0.mk (show passWire fs pks = (arrivals fs i).map (passOf fs pks) by unfold passWire; rw [HPL.out])
        have HAM := Aside0.mk (arrivals_mem fs i)
        have HAL := Aside0.mk (arrivals_length fs i)
        have HLEN := Aside0.mk (show (passWire fs pks).length = (arrivals fs i).length by rw [HAR.out, List.length_map])
        generalize passWire fs pks = arr at HV HAR HLEN ⊢
        generalize arrivals fs i = ar at HAR HAM HAL HGOT2 HLEN
        go_loopg [11] ar.length (fun kq v11 w' => ∃ (j : Nat) (vg' : Value) (got' : List (List Int)), v11 = .int .i64 (j : Int) ∧ Aside0 (j + kq = ar.length) ∧ Aside0 ((ar.drop j).foldl (recv1 l1 st.kn fs) got' = got2) ∧ Aside0 (got'.length ≤ st.got.length + j) ∧ Aside0 (w'.heap[g]? = some (.cells #[vg', .int .i64 st.rounds, .int .i64 (((st.s1 + i : Nat) : Int) + st.s2), .bool false, .int .i64 st.kn, .slice At2 fs2.length ct2, vb] 76 (0, 0))) ∧ Aside0 (Kd.S (Kd.slice 5 (Kd.int .u8)) 22 w' w0.heap.size (fun _ => True) vg' got') ∧ Aside0 (Kd.R (Kd.int .i64) 3 w' w0.heap.size (fun _ => True) (.slice At2 fs2.length ct2) fs2) ∧ Aside0 (FateRow w0 w' vb (l3.drop st.s2)) ∧ Aside0 (Kd.R (Kd.slice 5 (Kd.int .u8)) 22 w' w0.heap.size (fun k => True ∧ some k ≠ vg'.ownBlock) (.slice A10 arr.length c10) arr) ∧ Aside0 (Below w0.heap.size w0 w'))
        case atStart => exact ⟨0, vg, st.got, rfl, ⟨by simp⟩, ⟨HGOT2.out.symm⟩, ⟨Nat.le_refl _⟩, HX, HS, HT, HV3, HV, HB⟩
        case round =>
          clear HX HS HT HV3 HV HB
          obtain ⟨j, vg', got', rfl, HJ, HG2, HGL, HX, HS, HT, HV3, HV, HB⟩ := hrel
          obtain ⟨⟨x0, x1, x2, x3, x4, x5, x6⟩, y0, y1, y2, y3, y4, y5, y6⟩ := cells76 HX.out
          cases gk with
          | zero =>
            obtain rfl : ar.length = j := by have := HJ.out; omega
            have c1 : decide ((ar.length : Int) < arr.length) = false := decide_eq_false (by have := HLEN.out; omega)
            have c1n : decide (ar.length < arr.length) = false := decide_eq_false (by have := HLEN.out; omega)
            rw [List.drop_length] at HG2
            obtain rfl : got' = got2 := HG2.out
            go_wp2_with fail
            go_end0
            exact ⟨rfl, ⟨vg', _, vb, HX.out, HS.out, .inr (by show Kd.R _ _ _ _ _ _ (l2.drop (st.s1 + i)); rw [HFS2.out]; exact HT.out), HV3.out⟩, HGE.out, HB.out⟩
          | succ k3 =>
            have hj : j < ar.length := by have := HJ.out; omega
            have c1 : decide ((j : Int) < arr.length) = true := decide_eq_true (by have := HLEN.out; omega)
            have c1n : decide (j < arr.length) = true := decide_eq_true (by have := HLEN.out; omega)
            have c2 : (0 ≤ (j : Int)) = True := eq_true (by omega)
            have c3 : ((j : Int) < arr.length) = True := eq_true (by have := HLEN.out; omega)
            have c3n : (j < arr.length) = True := eq_true (by have := HLEN.out; omega)
            have hja : j < arr.length := by have := HLEN.out; omega
            obtain ⟨ad, Ab, cb, hA, hx, hcap, hrr⟩ := at_L2 (Kd.R_reads' HV.out).2.2 (j : Int) (by omega) (by omega)
            subst hA
            have HD := Aside0.mk (show ar.drop j = ar[j] :: ar.drop (j + 1) from List.drop_eq_getElem_cons hj)
            have ha := HAM.out ar[j] (List.getElem_mem hj)
            have hu := HUN.out ar[j] ha.1 ha.2
            have hpj : rd_L2 arr (j : Int) = passOf fs pks ar[j] := by rw [rd_L2_get hja]; simp [HAR.out]
            rw [hpj, Int.toNat_natCast] at hx
            rw [hpj] at hcap hrr
            generalize passOf fs pks ar[j] = pj at hx hcap hrr hu
            generalize ar[j] = idx at HD ha hu
            have HU := Aside0.mk hu
            have HRB := Aside0.mk hrr
            have HCB := Aside0.mk hcap
            clear hu hrr hcap ha hpj hj hja
            have hw1 : wrap64 ((j : Int) + 1) = ((j + 1 : Nat) : Int) := by rw [w64 _ (by have := HJ.out; have := HAL.out; have := HNL.out; omega)]; simp
            obtain ⟨Ag, cg, eg⟩ := Kd.S_slice HS.out
            subst eg
            have hrem : Int.tmod (got'.length : Int) 16 = ((got'.length % 16 : Nat) : Int) := by rw [Int.tmod_eq_emod_of_nonneg (by omega)]; simp
            have hrem2 : Int.tmod (got'.length : Int) 16 = (got'.length : Int) % 16 := by rw [Int.tmod_eq_emod_of_nonneg (by omega)]
            by_cases hf : fateN fs idx.toNat = 4
            · have HREC := Aside0.mk (show recv1 l1 st.kn fs got' idx = got' by unfold recv1; rw [if_pos hf])
              unfold unOf at HU
              rw [if_pos hf] at HU
              clear hf
              go_wp2_with (go_at_call 76; (with_reducible refine (spec_UnpackLink.calls 700 _ _ pj _ _ _ _ _ ?s0 ?s1 HU.out).mono ?_); (case s0 => exact HRB.out); (case s1 => exact HCB.out); rintro e w' ⟨ve, rfl, he, hb⟩; have n0_ := Aside0.mk (Kd.S_below HS.out hb); have n1_ := Aside0.mk (Kd.R_below HV.out hb); have n2_ := Aside0.mk (HB.out.trans (hb.mono HB.out.size)); have n3_ := Aside0.mk (blk_below HX.out hb); have n6_ := Aside0.mk (Kd.R_below HT.out hb); have n7_ := Aside0.mk (HV3.out.below hb); clear HS HV HB HX HT HV3; have HS := n0_; have HV := n1_; have HB := n2_; have HX := n3_; have HT := n6_; have HV3 := n7_; clear x0 x1 x2 x3 x4 x5 x6 y0 y1 y2 y3 y4 y5 y6; obtain ⟨⟨x0, x1, x2, x3, x4, x5, x6⟩, y0, y1, y2, y3, y4, y5, y6⟩ := cells76 HX.out; clear n0_ n1_ n2_ n3_ n6_ n7_ he hb)
              go_roundg k3
              case measure => omega
              case rel => exact ⟨j + 1, _, got', by rw [hw1], ⟨by have := HJ.out; omega⟩, ⟨by have := HG2.out; rw [HD.out, List.foldl_cons, HREC.out] at this; exact this⟩, ⟨by have := HGL.out; omega⟩, HX, HS, HT, HV3, HV, HB⟩
            · unfold unOf at HU
              rw [if_neg hf] at HU
              by_cases hq : (st.kn + idx.toNat) % 16 = got'.length % 16
              · have HREC := Aside0.mk (show recv1 l1 st.kn fs got' idx = got' ++ [l1.getD (st.kn + idx.toNat) []] by unfold recv1; rw [if_neg hf, if_pos hq])
                rw [hq] at HU
                generalize l1.getD (st.kn + idx.toNat) [] = d at HREC HU
                clear hq hf
                have e6 : (((got'.length % 16 : Nat) : Int) == (got'.length : Int) % 16) = true := by simp
                go_wp2_with (first
              | (go_at_call 76; (with_reducible refine (spec_UnpackLink.calls 700 _ _ pj _ _ _ _ _ ?s0 ?s1 HU.out).mono ?_); (case s0 => exact HRB.out); (case s1 => exact HCB.out); rintro e w' ⟨ve, rfl, he, hb⟩; have n4_ := Aside0.mk (fun (k : Nat) (hk : some k = ve.ownBlock) (e : some k = (Value.slice Ag got'.length cg).ownBlock) => (by have h1 := Kd.R_base he k hk.symm; have h2 := Kd.S_lt HS.out k e.symm; omega : False)); have n5_ := Aside0.mk (Kd.R_tight rfl (Kd.R_lower he HB.out.size)); have n0_ := Aside0.mk (Kd.S_elder' HS.out (Kd.R_base he) hb); have n1_ := Aside0.mk (Kd.R_below HV.out hb); have n2_ := Aside0.mk (HB.out.trans (hb.mono HB.out.size)); have n3_ := Aside0.mk (blk_below HX.out hb); have n6_ := Aside0.mk (Kd.R_below HT.out hb); have n7_ := Aside0.mk (HV3.out.below hb); clear HS HV HB HX HT HV3; have HS := n0_; have HV := n1_; have HB := n2_; have HX := n3_; have HT := n6_; have HV3 := n7_; clear x0 x1 x2 x3 x4 x5 x6 y0 y1 y2 y3 y4 y5 y6; obtain ⟨⟨x0, x1, x2, x3, x4, x5, x6⟩, y0, y1, y2, y3, y4, y5, y6⟩ := cells76 HX.out; have HAP := n4_; have HE := n5_; clear n0_ n1_ n2_ n3_ n4_ n5_ n6_ n7_ he hb; obtain ⟨Ae, ce, ee⟩ := Kd.R_slice HE.out; subst ee)
              | ((with_reducible refine gate_builtin (b := .append) (xs := #[.tmp 116, .tmp 118]) rfl ?_); at_builtin; refine Kd.S_append (Kd.slice 5 (Kd.int .u8)) (w0 := w0) w0.heap.size rfl (.tmp 116) (.tmp 118) 23 22 (.slice none 0 0) 24 rfl Try.underlying23 info22 rfl (by decide) (by omega) (.slice Ag got'.length cg) got' d [.slice Ae d.length ce] (fun _ => True) (fun k_ => some k_ = (.slice Ae d.length ce : Value).ownBlock) rfl (by first | rfl | (show Value.slice _ 1 1 = _; simp)) ?aP (fun k_ hk_ => ⟨trivial, fun e_ => HAP.out k_ hk_ e_⟩) ?aF ?aO ?aB ?aS ?aL ?_; (case aP => exact Kd.M_row HE.out); (case aB => exact HB.out); (case aF => exact (fun _ _ => trivial)); (case aO => exact HS.out); (case aS => exact HB.out.size); (case aL => have := HGL.out; have := HP.out.got; have := HAL.out; have := HNL.out; have := HJ.out; omega); intro v1 w1 ho hb hg hat; have n0_ := Aside0.mk (Kd.R_after HV.out hg hat); have n1_ := Aside0.mk (grown76 HX.out (by decide) hg (Kd.S_typed HS.out)); have n2_ := Aside0.mk ho; have n3_ := Aside0.mk hb; have n4_ := Aside0.mk (Kd.R_over' HT.out (Kd.S_typed HS.out) (by decide) hg); have n5_ := Aside0.mk (HV3.out.grown hg (Kd.S_typed HS.out)); clear HV HX HS HB HAP HE HT HV3; have HV := n0_; have HX := n1_; have HSN := n2_; have HB := n3_; have HT := n4_; have HV3 := n5_; clear n0_ n1_ n2_ n3_ n4_ n5_ ho hb hg hat; obtain ⟨A1_, c1_, e1_⟩ := Kd.S_slice HSN.out; subst e1_; clear x0 x1 x2 x3 x4 x5 x6 y0 y1 y2 y3 y4 y5 y6; obtain ⟨⟨x0, x1, x2, x3, x4, x5, x6⟩, y0, y1, y2, y3, y4, y5, y6⟩ := cells76 HX.out))
                go_roundg k3
                case measure => omega
                case rel =>
                  have hl2 : got'.length + 1 = (got' ++ [d]).length := by simp
                  exact ⟨j + 1, .slice A1_ (got' ++ [d]).length c1_, got' ++ [d], by rw [hw1], ⟨by have := HJ.out; omega⟩, ⟨by have := HG2.out; rw [HD.out, List.foldl_cons, HREC.out] at this; exact this⟩, ⟨by have := HGL.out; simp; omega⟩, ⟨by rw [hl2, heap_set HX.out]; rfl⟩, ⟨by rw [hl2]; exact Kd.S_set HSN.out HX.out (by decide) _ _⟩, ⟨by rw [hl2]; exact Kd.R_set HT.out HX.out (by decide) _ _⟩, ⟨by rw [hl2]; exact HV3.out.set HX.out (by decide) _ _⟩, ⟨by rw [hl2]; exact Kd.R_set HV.out HX.out (by decide) _ _⟩, ⟨below_set HB.out HGE.out⟩⟩
              · have HREC := Aside0.mk (show recv1 l1 st.kn fs got' idx = got' by unfold recv1; rw [if_neg hf, if_neg hq])
                have e6 : ((((st.kn + idx.toNat) % 16 : Nat) : Int) == (got'.length : Int) % 16) = false := beq_eq_false_iff_ne.mpr (by omega)
                have e7 : (((st.kn : Int) + (idx.toNat : Int)) % 16 == (got'.length : Int) % 16) = false := beq_eq_false_iff_ne.mpr (by omega)
                generalize idx.toNat = ix at *
                clear hq hf
                go_wp2_with (go_at_call 76; (with_reducible refine (spec_UnpackLink.calls 700 _ _ pj _ _ _ _ _ ?s0 ?s1 HU.out).mono ?_); (case s0 => exact HRB.out); (case s1 => exact HCB.out); rintro e w' ⟨ve, rfl, he, hb⟩; have n0_ := Aside0.mk (Kd.S_below HS.out hb); have n1_ := Aside0.mk (Kd.R_below HV.out hb); have n2_ := Aside0.mk (HB.out.trans (hb.mono HB.out.size)); have n3_ := Aside0.mk (blk_below HX.out hb); have n6_ := Aside0.mk (Kd.R_below HT.out hb); have n7_ := Aside0.mk (HV3.out.below hb); clear HS HV HB HX HT HV3; have HS := n0_; have HV := n1_; have HB := n2_; have HX := n3_; have HT := n6_; have HV3 := n7_; clear x0 x1 x2 x3 x4 x5 x6 y0 y1 y2 y3 y4 y5 y6; obtain ⟨⟨x0, x1, x2, x3, x4, x5, x6⟩, y0, y1, y2, y3, y4, y5, y6⟩ := cells76 HX.out; clear n0_ n1_ n2_ n3_ n6_ n7_ he hb)
                go_roundg k3
                case measure => omega
                case rel => exact ⟨j + 1, _, got', by rw [hw1], ⟨by have := HJ.out; omega⟩, ⟨by have := HG2.out; rw [HD.out, List.foldl_cons, HREC.out] at this; exact this⟩, ⟨by have := HGL.out; omega⟩, HX, HS, HT, HV3, HV, HB⟩
    | succ k2 =>
      have hi : i < n := by have := HI.out; omega
      have hki : st.kn + i < l1.length := by have := HN.out; omega
      have hkw : i < win := by have := HN.out; omega
      have t1 : decide (((st.kn + i : Nat) : Int) < l1.length) = true := decide_eq_true (by omega)
      have t2 : decide ((st.kn : Int) + i < l1.length) = true := decide_eq_true (by omega)
      have t3 : decide (st.kn + i < l1.length) = true := decide_eq_true (by omega)
      have t4 : decide (i < win) = true := decide_eq_true (by omega)
      have t4b : decide ((i : Int) < win) = true := decide_eq_true (by omega)
      have t4c : decide ((st.kn : Int) + i < (st.kn : Int) + win) = true := decide_eq_true (by omega)
      have t4d : decide (((st.kn + i : Nat) : Int) < (st.kn : Int) + win) = true := decide_eq_true (by omega)
      have t5 : (0 ≤ ((st.kn + i : Nat) : Int)) = True := eq_true (by omega)
      have t6 : (((st.kn + i : Nat) : Int) < l1.length) = True := eq_true (by omega)
      have t7 : (0 ≤ (st.kn : Int) + i) = True := eq_true (by omega)
      have t8 : ((st.kn : Int) + i < l1.length) = True := eq_true (by omega)
      have t9 : Int.tmod ((st.kn + i : Nat) : Int) 16 = (((st.kn + i) % 16 : Nat) : Int) := by rw [Int.tmod_eq_emod_of_nonneg (by omega)]; simp
      have t10 : Int.tmod ((st.kn : Int) + i) 16 = (((st.kn + i) % 16 : Nat) : Int) := by rw [← Int.natCast_add]; exact t9
      obtain ⟨ad, Ab, cb, hA, hx, hcap, hrr⟩ := at_L2 HR1.out ((st.kn + i : Nat) : Int) (by omega) (by omega)
      subst hA
      replace hx := ((HB0.out.trans (HB.out.mono HB0.out.size)).cell (World.block_lt_of_cell? _ _ hx)).trans hx
      rw [rd_L2_get hki] at hx hcap hrr
      have HSUCC := Aside0.mk (spec_packs_succ l1 st.kn i)
      have hgd : l1.getD (st.kn + i) [] = l1[st.kn + i] := by rw [List.getD_eq_getElem?_getD, List.getElem?_eq_getElem hki]; rfl
      rw [hgd] at HSUCC
      have HPK := Aside0.mk (spec_pack 1 (((st.kn + i) % 16 : Nat) : Int) l1[st.kn + i] (.inl rfl) (by omega) (by omega) (by rw [← hgd]; exact short_getD HSH.out _) (by rw [← hgd]; exact bytesOk_getD HBO.out _))
      clear hgd
      generalize l1[st.kn + i] = b at hx hcap hrr HSUCC HPK
      have HRB := Aside0.mk hrr
      have HCB := Aside0.mk hcap
      clear hrr hcap
      rw [Int.toNat_natCast] at hx
      generalize spec_packv 1 (((st.kn + i) % 16 : Nat) : Int) b = pk at HSUCC HPK
      have HPK2 := Aside0.mk (show spec_PackLink.f 700 1 (((st.kn : Int) + i) % 16) b = some (pk, true) by have := HPK.out; simpa using this)
      have HX1 := Aside0.mk (spec_packs_length l1 st.kn i)
      have hw1 : wrap64 ((st.kn : Int) + i + 1) = ((st.kn + (i + 1) : Nat) : Int) := by rw [w64 _ (by have := HP.out.len; omega)]; simp; omega
      go_wp2_with (first
      | (go_at_call 73; (with_reducible refine (spec_PackLink.calls 700 1 _ Ab cb b pk true _ (Kd.C_below HRB.out (HB0.out.trans (HB.out.mono HB0.out.size))) HCB.out HPK2.out).mono ?_); rintro e w' ⟨ve, rfl, he, hb⟩; obtain ⟨_, hown⟩ := Kd.R_own HO.out; have n2_ := Aside0.mk (Kd.R_lower (Kd.R_mono (ok' := fun k_ => some k_ ≠ (u6 : Value).ownBlock) (Kd.R_new he hown) (fun _ hk => hk.2)) (below_size HB.out)); clear hown; have n0_ := Aside0.mk (Kd.R_below HO.out hb); have n1_ := Aside0.mk (below_step HB.out hb); clear HO HB; have HO := n0_; have HB := n1_; have HE := n2_; clear n0_ n1_ n2_ hb he; obtain ⟨Ae, ce, ee⟩ := Kd.R_slice HE.out; subst ee)
      | ((with_reducible refine gate_builtin (b := .append) (xs := #[.tmp 47, .tmp 49]) rfl ?_); at_builtin; refine Kd.R_append (Kd.slice 5 (Kd.int .u8)) (w0 := w) w.heap.size rfl (.tmp 47) (.tmp 49) 23 22 (.slice none 0 0) 24 rfl Try.underlying23 info22 rfl (by decide) (by omega) u6 (spec_packs l1 st.kn i) pk [(.slice Ae pk.length ce)] (fun _ => True) (fun k_ => some k_ ≠ (u6 : Value).ownBlock) rfl (by first | rfl | (show Value.slice _ 1 1 = _; simp)) ?aP (fun _ hk => ⟨trivial, hk⟩) ?aF ?aO ?aB ?aS ?aL ?_; (case aP => exact Kd.M_row HE.out); (case aB => exact (by repeat (first | (with_reducible first | exact HB.out | apply below_alloc | apply pw_below_drewN | apply below_drew1) | exact HB.out))); (case aF => exact (fun _ _ => trivial)); (case aO => exact (by (with_reducible repeat (first | apply Kd.R_alloc | apply Kd.R_drewN | apply Kd.R_drew)); exact HO.out)); (case aS => exact (below_size (by repeat (first | (with_reducible first | exact HB.out | apply below_alloc | apply pw_below_drewN | apply below_drew1) | exact HB.out)))); (case aL => have := HX1.out; have := HN.out; have := HP.out.len; first | omega | (simp; omega) | (simp at *; omega)); intro v2 w8 ho hb hg hat; have n0_ := Aside0.mk (hb); have n1_ := Aside0.mk (ho); clear HB; clear HO; have HB := n0_; have HO2 := n1_; clear n0_ n1_; clear ho hb hg hat))
      go_roundg k2
      case measure => omega
      case rel => exact ⟨i + 1, by first | rfl | (rw [← hw1]; simp) | (rw [hw1]) | (simp; omega), ⟨by have := HI.out; omega⟩, ⟨by rw [HSUCC.out]; exact HO2.out⟩, ⟨(by repeat (first | (with_reducible first | exact HB.out | apply below_alloc | apply pw_below_drewN | apply below_drew1) | exact HB.out))⟩⟩
end Go.Proofs.Ytookabfmbimnoaa.Lk

namespace Go.Proofs.Ytookabfmbimnoaa.Lk
open Go.RowKit Go.Proofs.YtookabfmbimnoaaW.PrintWords Go.Proofs.YtookabfmbimnoaaW.PrintLast Go.Proofs.YtookabfmbimnoaaW.PrintMore
set_option linter.unusedVariables false
set_option linter.unusedSimpArgs false

theorem row1 {w' : World} {base : Nat} {ok : Nat → Prop} {A : Option Addr} {c : Nat} {pb : List Int} (he : Kd.R (Kd.int .u8) 5 w' base ok (.slice A pb.length c) pb) : Kd.C (Kd.slice 5 (Kd.int .u8)) (w'.alloc (.cells #[.slice A pb.length c] 22)) (some ⟨w'.heap.size, 0, none⟩) [pb].length [pb] := by
  refine ⟨rfl, by simp, fun _ => ⟨_, rfl, fun j p hj => ?_⟩⟩
  cases j with
  | zero =>
    simp only [List.getElem?_cons_zero, Option.some.injEq] at hj
    subst hj
    refine ⟨[.slice A pb.length c], rfl, (Kd.slice 5 (Kd.int .u8)).K_below (below_alloc (Below.refl _ _) _) ((Kd.slice 5 (Kd.int .u8)).K_of_M (Kd.M_row he)), fun i u hu => ?_⟩
    cases i with
    | zero =>
      simp only [List.getElem?_cons_zero, Option.some.injEq] at hu
      subst hu
      simp [Addr.add]
    | succ i => simp at hu
  | succ j => simp at hj
set_option maxHeartbeats 8000000 in
set_option maxRecDepth 100000 in
theorem answer_ok (g win : Nat) (l2 l3 : List Int) (st : LSt) (w0 w : World) (hb : SBox w0 w g l2 l3 st)
    (hkn : st.kn ≤ 60) (hwin : win ≤ 8) (hs1 : st.s1 ≤ 8 * 401) (hs2 : st.s2 ≤ 400) (hf3 : fatesOk l3 = true) :
    Calls Try.prog 58 #[.pointer (some ⟨g, 0, none⟩), .int .i64 (win : Int)] w fun e w' => e = .returned (.tuple #[]) ∧ SBox w0 w' g l2 l3 { st with kn := (arrivals (l3.drop st.s2) 1).foldl (ack1 win (st.got.length % 16) (l3.drop st.s2)) st.kn, s2 := st.s2 + 1 } := by
  have HKN := Aside0.mk hkn
  have HWIN := Aside0.mk hwin
  have HS1 := Aside0.mk hs1
  have HS2 := Aside0.mk hs2
  obtain ⟨⟨vg, vt, vb, hx, hS, hT, hV⟩, hge, hbel⟩ := hb
  have HX := Aside0.mk hx
  have HS := Aside0.mk hS
  have HT := Aside0.mk hT
  have HV3 := Aside0.mk hV
  have HGE := Aside0.mk hge
  have HB0 := Aside0.mk hbel
  have HLD := Aside0.mk (show (l3.drop st.s2).length ≤ 200 by rw [List.length_drop]; unfold fatesOk at hf3; simp at hf3; omega)
  have HFD := Aside0.mk (show fatesOk (l3.drop st.s2) = true by unfold fatesOk at hf3 ⊢; simp at hf3 ⊢; exact ⟨by omega, fun x hx => hf3.2 x (List.mem_of_mem_drop hx)⟩)
  have HDDA := Aside0.mk (show (l3.drop st.s2).drop 1 = l3.drop (st.s2 + 1) from List.drop_drop)
  clear hf3 hx hS hT hV hge hbel hkn hwin hs1 hs2
  obtain ⟨Ab, cb, eb, hcb, hCb⟩ := HV3.out.reads HB0.out
  subst eb
  have HCB := Aside0.mk hcb
  have HRB := Aside0.mk hCb
  clear hcb hCb HV3
  have HQ := Aside0.mk (show st.got.length % 16 < 16 from Nat.mod_lt _ (by omega))
  have HPB := Aside0.mk (show spec_PackLink.f 700 2 ((st.got.length : Int) % 16) [] = some (spec_packv 2 ((st.got.length % 16 : Nat) : Int) [], true) by
    have := spec_pack 2 ((st.got.length % 16 : Nat) : Int) [] (.inr ⟨rfl, rfl⟩) (by omega) (by have := HQ.out; omega) (by simp) (fun x hx => by simp at hx)
    simpa using this)
  have HUB := Aside0.mk (fun (x : Int) (h0 : 0 ≤ x) (h1 : x < 1) => spec_unBack (st.got.length % 16) HQ.out (l3.drop st.s2) x h0 h1)
  have HPBL := Aside0.mk (show (spec_packv 2 ((st.got.length % 16 : Nat) : Int) []).length = 3 by rw [spec_packv_length]; rfl)
  generalize spec_packv 2 ((st.got.length % 16 : Nat) : Int) [] = pb at HPB HUB HPBL
  generalize l3.drop st.s2 = gs at *
  have HPASS := Aside0.mk (specPass gs [pb] (by simp) HFD.out (by intro b hb; rw [List.mem_singleton] at hb; subst hb; have := HPBL.out; omega))
  obtain ⟨kn2, hkn2⟩ : ∃ x, x = (arrivals gs 1).foldl (ack1 win (st.got.length % 16) gs) st.kn := ⟨_, rfl⟩
  rw [← hkn2]
  have HKN2 := Aside0.mk hkn2
  clear hkn2
  obtain ⟨Ag, cg, eg⟩ := Kd.S_slice HS.out
  subst eg
  have hrem : Int.tmod (st.got.length : Int) 16 = ((st.got.length % 16 : Nat) : Int) := by rw [Int.tmod_eq_emod_of_nonneg (by omega)]; simp
  have HB := Aside0.mk (Below.refl w.heap.size w)
  obtain ⟨⟨x0, x1, x2, x3, x4, x5, x6⟩, y0, y1, y2, y3, y4, y5, y6⟩ := cells76 HX.out
  go_enter Try.func58, Try.ntmps58
  go_wp2_with (first
      | ((with_reducible refine gate_dst (N := 21) rfl ?_); refine Kd.R_lit (Kd.int .u8) _ 5 ?hg (N := 21) ?hd (xs := ([] : List _)) (inner := []) (ok := fun _ => True) (okp := fun _ => True) ?hr ?hp (fun _ hk => hk) trivial (Below.refl _ _) (Nat.le_refl _) (by simp) ?_; (case hd => rfl); (case hg => rfl); (case hr => first | (go_simp; done) | (go_simp; rfl)); (case hp => exact (Reps.none _ _)); intro v0 w6 ho7 hb hg_ hnew_; clear hg_ hnew_; have n0_ := Aside0.mk (Kd.R_lower ho7 (below_size (by repeat (first | (with_reducible first | exact HB.out | apply below_alloc | apply pw_below_drewN | apply below_drew1) | exact HB.out)))); have n1_ := Aside0.mk (below_step (by repeat (first | (with_reducible first | exact HB.out | apply below_alloc | apply pw_below_drewN | apply below_drew1) | exact HB.out)) hb); clear HB; have HO0 := n0_; have HB := n1_; clear n0_ n1_; clear hb ho7))
  obtain ⟨Al, cl, el⟩ := Kd.R_slice HO0.out
  subst el
  refine (spec_PackLink.calls 700 2 _ Al cl [] pb true _ ?s0 ?s1 HPB.out).mono ?_
  case s0 => exact (Kd.R_reads' HO0.out).2.2
  case s1 => exact (Kd.R_reads' HO0.out).2.1
  rintro e w' ⟨ve, rfl, he, hb⟩
  replace HB := Aside0.mk (below_step HB.out hb)
  clear hb HO0 hrem
  obtain ⟨Ae, ce, ee⟩ := Kd.R_slice he
  subst ee
  clear x0 x1 x2 x3 x4 x5 x6 y0 y1 y2 y3 y4 y5 y6
  obtain ⟨⟨x0, x1, x2, x3, x4, x5, x6⟩, y0, y1, y2, y3, y4, y5, y6⟩ := cells76 (blk_below HX.out HB.out)
  go_wp2_with fail
  have ha1 : Below w'.heap.size w' (w'.alloc (.cells #[.slice Ae pb.length ce] 22)) := below_alloc (Below.refl _ _) _
  have hbw : Below w.heap.size w (w'.alloc (.cells #[.slice Ae pb.length ce] 22)) := below_step HB.out ha1
  refine (spec_PassWire.calls 700 Ab cb gs (some ⟨w'.heap.size, 0, none⟩) 1 [pb] _ _ (Kd.C_below HRB.out hbw) HCB.out (row1 he) (Nat.le_refl _) HPASS.out).mono ?_
  rintro e w2 ⟨v6, rfl, ho, hb⟩
  replace HB := Aside0.mk (below_step hbw hb)
  have HV := Aside0.mk (Kd.R_lower (Kd.S_R ho) (Nat.le_trans HB0.out.size hbw.size))
  clear hbw ha1 he hb ho
  clear x0 x1 x2 x3 x4 x5 x6 y0 y1 y2 y3 y4 y5 y6
  obtain ⟨⟨x0, x1, x2, x3, x4, x5, x6⟩, y0, y1, y2, y3, y4, y5, y6⟩ := cells76 (blk_below HX.out HB.out)
  go_wp2_with fail
  refine (spec_l4Behind.calls Ab cb gs ((1 : Nat) : Int) _ _ (Kd.C_below HRB.out HB.out) HCB.out (specBehind gs 1 (by have := HLD.out; omega))).mono ?_
  rintro e w3 ⟨vb2, rfl, ho, hb⟩
  have HV2 := Aside0.mk (Kd.R_below HV.out hb)
  have HT2 := Aside0.mk (Kd.R_lower ho (Nat.le_trans HB0.out.size HB.out.size))
  replace HB := Aside0.mk (below_step HB.out hb)
  clear hb ho HV
  clear x0 x1 x2 x3 x4 x5 x6 y0 y1 y2 y3 y4 y5 y6
  obtain ⟨⟨x0, x1, x2, x3, x4, x5, x6⟩, y0, y1, y2, y3, y4, y5, y6⟩ := cells76 (blk_below HX.out HB.out)
  rw [HDDA.out] at HT2
  have hlen2 := Kd.R_slice HT2.out
  generalize hfs2 : l3.drop (st.s2 + 1) = fs2 at HT2 hlen2
  have HFS2 := Aside0.mk hfs2
  clear hfs2
  obtain ⟨At2, ct2, et2⟩ := hlen2
  subst et2
  have hw2 : wrap64 ((st.s1 : Int) + (st.s2 : Int) + 1) = (st.s1 : Int) + st.s2 + 1 := w64 _ (by have := HS1.out; have := HS2.out; omega)
  obtain ⟨A10, c10, e10⟩ := Kd.R_slice HV2.out
  subst e10
  go_wp2_with fail
  obtain ⟨wB, hwB⟩ : ∃ W : World, W = (w3.setCell ⟨g, 6, none⟩ (.slice At2 fs2.length ct2)).setCell ⟨g, 2, none⟩ (.int .i64 ((st.s1 : Int) + st.s2 + 1)) := ⟨_, rfl⟩
  rw [← hwB]
  have hX2 := blk_below HX.out HB.out
  have hX3 := heap_set (j := 6) (v := .slice At2 fs2.length ct2) hX2
  have n1_ := Aside0.mk (show wB.heap[g]? = some (.cells #[.slice Ag st.got.length cg, .int .i64 st.rounds, .int .i64 ((st.s1 : Int) + ((st.s2 + 1 : Nat) : Int)), .bool false, .int .i64 st.kn, vt, .slice At2 fs2.length ct2] 76 (0, 0)) by
    rw [hwB, heap_set hX3, show (st.s1 : Int) + ((st.s2 + 1 : Nat) : Int) = (st.s1 : Int) + st.s2 + 1 by omega]
    rfl)
  have n2_ := Aside0.mk (show Kd.S (Kd.slice 5 (Kd.int .u8)) 22 wB w0.heap.size (fun _ => True) (.slice Ag st.got.length cg) st.got by
    rw [hwB]
    exact Kd.S_set (Kd.S_set (Kd.S_below HS.out HB.out) hX2 (by decide) _ _) hX3 (by decide) _ _)
  have n3_ := Aside0.mk (show Kd.R (Kd.int .i64) 3 wB w0.heap.size (fun _ => True) (.slice At2 fs2.length ct2) fs2 by
    rw [hwB]
    exact Kd.R_set (Kd.R_set HT2.out hX2 (by decide) _ _) hX3 (by decide) _ _)
  have n4_ := Aside0.mk (show FateRow w0 wB vt (l2.drop st.s1) by
    rw [hwB]
    exact ((HT.out.below HB.out).set hX2 (by decide) _ _).set hX3 (by decide) _ _)
  have n5_ := Aside0.mk (show Kd.R (Kd.slice 5 (Kd.int .u8)) 22 wB w0.heap.size (fun _ => True) (.slice A10 (passWire gs [pb]).length c10) (passWire gs [pb]) by
    rw [hwB]
    exact Kd.R_set (Kd.R_set HV2.out hX2 (by decide) _ _) hX3 (by decide) _ _)
  have n6_ := Aside0.mk (show Below w0.heap.size w0 wB by
    rw [hwB]
    exact below_set (below_set (below_step HB0.out HB.out) HGE.out) HGE.out)
  clear hw2 hwB hX2 hX3 HS HT2 HT HV2 HB HX HB0 x0 x1 x2 x3 x4 x5 x6 y0 y1 y2 y3 y4 y5 y6
  have HX := n1_
  have HS := n2_
  have HT := n3_
  have HVT := n4_
  have HV := n5_
  have HB := n6_
  clear n1_ n2_ n3_ n4_ n5_ n6_
  have HAR := Aside0.mk (show passWire gs [pb] = (arrivals gs 1).map (passOf gs [pb]) from rfl)
  have HBM := Aside0.mk (arrivals_mem gs 1)
  have HBL := Aside0.mk (arrivals_length gs 1)
  have HLEN := Aside0.mk (show (passWire gs [pb]).length = (arrivals gs 1).length by rw [HAR.out, List.length_map])
  generalize passWire gs [pb] = arr2 at HV HAR HLEN ⊢
  generalize arrivals gs 1 = ar2 at HAR HBM HBL HKN2 HLEN
  go_loopg [7] ar2.length (fun kq v7 w' => ∃ (j kn' : Nat), v7 = .int .i64 (j : Int) ∧ Aside0 (j + kq = ar2.length) ∧ Aside0 ((ar2.drop j).foldl (ack1 win (st.got.length % 16) gs) kn' = kn2) ∧ Aside0 (kn' ≤ st.kn + 8 * j) ∧ Aside0 (w'.heap[g]? = some (.cells #[.slice Ag st.got.length cg, .int .i64 st.rounds, .int .i64 ((st.s1 : Int) + ((st.s2 + 1 : Nat) : Int)), .bool false, .int .i64 kn', vt, .slice At2 fs2.length ct2] 76 (0, 0))) ∧ Aside0 (Kd.S (Kd.slice 5 (Kd.int .u8)) 22 w' w0.heap.size (fun _ => True) (.slice Ag st.got.length cg) st.got) ∧ Aside0 (Kd.R (Kd.int .i64) 3 w' w0.heap.size (fun _ => True) (.slice At2 fs2.length ct2) fs2) ∧ Aside0 (FateRow w0 w' vt (l2.drop st.s1)) ∧ Aside0 (Kd.R (Kd.slice 5 (Kd.int .u8)) 22 w' w0.heap.size (fun _ => True) (.slice A10 arr2.length c10) arr2) ∧ Aside0 (Below w0.heap.size w0 w'))
  case atStart => exact ⟨0, st.kn, rfl, ⟨by simp⟩, ⟨HKN2.out.symm⟩, ⟨by omega⟩, HX, HS, HT, HVT, HV, HB⟩
  case round =>
    clear HX HS HT HVT HV HB
    obtain ⟨j, kn', rfl, HJ, HG2, HGL, HX, HS, HT, HVT, HV, HB⟩ := hrel
    cases gk with
    | zero =>
      obtain rfl : ar2.length = j := by have := HJ.out; omega
      have c1 : decide ((ar2.length : Int) < arr2.length) = false := decide_eq_false (by have := HLEN.out; omega)
      have c1n : decide (ar2.length < arr2.length) = false := decide_eq_false (by have := HLEN.out; omega)
      rw [List.drop_length] at HG2
      obtain rfl : kn' = kn2 := HG2.out
      clear HG2 HUB HAR HLEN HV
      go_wp2_with fail
      go_end0
      exact ⟨rfl, ⟨_, vt, _, HX.out, HS.out, HVT.out, .inr (by show Kd.R _ _ _ _ _ _ (l3.drop (st.s2 + 1)); rw [HFS2.out]; exact HT.out)⟩, HGE.out, HB.out⟩
    | succ k4 =>
      have hj : j < ar2.length := by have := HJ.out; omega
      have c1 : decide ((j : Int) < arr2.length) = true := decide_eq_true (by have := HLEN.out; omega)
      have c1n : decide (j < arr2.length) = true := decide_eq_true (by have := HLEN.out; omega)
      have c2 : (0 ≤ (j : Int)) = True := eq_true (by omega)
      have c3 : ((j : Int) < arr2.length) = True := eq_true (by have := HLEN.out; omega)
      have c3n : (j < arr2.length) = True := eq_true (by have := HLEN.out; omega)
      have hja : j < arr2.length := by have := HLEN.out; omega
      obtain ⟨ad, Ab2, cb2, hA, hx, hcap, hrr⟩ := at_L2 (Kd.R_reads' HV.out).2.2 (j : Int) (by omega) (by omega)
      subst hA
      have HD := Aside0.mk (show ar2.drop j = ar2[j] :: ar2.drop (j + 1) from List.drop_eq_getElem_cons hj)
      have ha := HBM.out ar2[j] (List.getElem_mem hj)
      have hu := HUB.out ar2[j] ha.1 ha.2
      have hpj : rd_L2 arr2 (j : Int) = passOf gs [pb] ar2[j] := by rw [rd_L2_get hja]; simp [HAR.out]
      rw [hpj, Int.toNat_natCast] at hx
      rw [hpj] at hcap hrr
      generalize passOf gs [pb] ar2[j] = pj at hx hcap hrr hu
      generalize ar2[j] = idx at HD ha hu
      have HU := Aside0.mk hu
      have HRB2 := Aside0.mk hrr
      have HCB2 := Aside0.mk hcap
      clear hu hrr hcap ha hpj hj hja
      have hw1 : wrap64 ((j : Int) + 1) = ((j + 1 : Nat) : Int) := by rw [w64 _ (by have := HJ.out; have := HBL.out; omega)]; simp
      by_cases hf : fateN gs idx.toNat = 4
      · have HREC := Aside0.mk (show ack1 win (st.got.length % 16) gs kn' idx = kn' by unfold ack1; rw [if_pos hf])
        unfold unBack at HU
        rw [if_pos hf] at HU
        clear hf
        go_wp2_with (go_at_call 76; (with_reducible refine (spec_UnpackLink.calls 700 _ _ pj _ _ _ _ _ ?s0 ?s1 HU.out).mono ?_); (case s0 => exact HRB2.out); (case s1 => exact HCB2.out); rintro e w' ⟨ve, rfl, he, hb⟩; have n0_ := Aside0.mk (Kd.S_below HS.out hb); have n1_ := Aside0.mk (Kd.R_below HV.out hb); have n2_ := Aside0.mk (HB.out.trans (hb.mono HB.out.size)); have n3_ := Aside0.mk (blk_below HX.out hb); have n6_ := Aside0.mk (Kd.R_below HT.out hb); have n7_ := Aside0.mk (HVT.out.below hb); clear HS HV HB HX HT HVT; have HS := n0_; have HV := n1_; have HB := n2_; have HX := n3_; have HT := n6_; have HVT := n7_; obtain ⟨⟨x0, x1, x2, x3, x4, x5, x6⟩, y0, y1, y2, y3, y4, y5, y6⟩ := cells76 HX.out; clear n0_ n1_ n2_ n3_ n6_ n7_ he hb)
        go_roundg k4
        case measure => omega
        case rel => exact ⟨j + 1, kn', by rw [hw1], ⟨by have := HJ.out; omega⟩, ⟨by have := HG2.out; rw [HD.out, List.foldl_cons, HREC.out] at this; exact this⟩, ⟨by have := HGL.out; omega⟩, HX, HS, HT, HVT, HV, HB⟩
      · have HREC := Aside0.mk (show ack1 win (st.got.length % 16) gs kn' idx = ackFind kn' win (st.got.length % 16) by unfold ack1; rw [if_neg hf])
        unfold unBack at HU
        rw [if_neg hf] at HU
        clear hf
        go_wp2_with (go_at_call 76; (with_reducible refine (spec_UnpackLink.calls 700 _ _ pj _ _ _ _ _ ?s0 ?s1 HU.out).mono ?_); (case s0 => exact HRB2.out); (case s1 => exact HCB2.out); rintro e w' ⟨ve, rfl, he, hb⟩; have n0_ := Aside0.mk (Kd.S_below HS.out hb); have n1_ := Aside0.mk (Kd.R_below HV.out hb); have n2_ := Aside0.mk (HB.out.trans (hb.mono HB.out.size)); have n3_ := Aside0.mk (blk_below HX.out hb); have n6_ := Aside0.mk (Kd.R_below HT.out hb); have n7_ := Aside0.mk (HVT.out.below hb); clear HS HV HB HX HT HVT; have HS := n0_; have HV := n1_; have HB := n2_; have HX := n3_; have HT := n6_; have HVT := n7_; obtain ⟨⟨x0, x1, x2, x3, x4, x5, x6⟩, y0, y1, y2, y3, y4, y5, y6⟩ := cells76 HX.out; clear n0_ n1_ n2_ n3_ n6_ n7_ he hb)
        go_loopg [12] (win + 1) (fun kq v12 wx => ∃ d : Nat, v12 = .int .i64 ((kn' + d : Nat) : Int) ∧ wx = w' ∧ Aside0 (d + kq = win + 1) ∧ Aside0 (∀ e, e < d → (kn' + e) % 16 ≠ st.got.length % 16))
        case atStart => exact ⟨0, rfl, rfl, ⟨by simp⟩, ⟨fun e he => absurd he (by omega)⟩⟩
        case round =>
          obtain ⟨d, rfl, rfl, HDK, HMISS⟩ := hrel
          have hwk : wrap64 ((kn' : Int) + win) = (kn' : Int) + win := w64 _ (by have := HGL.out; have := HKN.out; have := HBL.out; have := HJ.out; have := HWIN.out; omega)
          have hwd : wrap64 ((kn' : Int) + d + 1) = ((kn' + (d + 1) : Nat) : Int) := by rw [w64 _ (by have := HGL.out; have := HKN.out; have := HBL.out; have := HJ.out; have := HWIN.out; have := HDK.out; omega)]; simp; omega
          cases gk with
          | zero =>
            have hdw : ¬ d ≤ win := by have := HDK.out; omega
            have g1 : decide (d ≤ win) = false := decide_eq_false hdw
            have g2 : decide ((d : Int) ≤ win) = false := decide_eq_false (by omega)
            have g3 : decide ((kn' : Int) + d ≤ (kn' : Int) + win) = false := decide_eq_false (by omega)
            have g4 : decide (((kn' + d : Nat) : Int) ≤ (kn' : Int) + win) = false := decide_eq_false (by omega)
            have HACK := Aside0.mk (show ackFind kn' win (st.got.length % 16) = kn' from ackFind_miss (fun e he => HMISS.out e (by omega)))
            clear hdw
            go_wp2_with fail
            go_roundg k4
            case measure => omega
            case rel => exact ⟨j + 1, kn', by rw [hw1], ⟨by have := HJ.out; omega⟩, ⟨by have := HG2.out; rw [HD.out, List.foldl_cons, HREC.out, HACK.out] at this; exact this⟩, ⟨by have := HGL.out; omega⟩, HX, HS, HT, HVT, HV, HB⟩
          | succ k5 =>
            have hdw : d ≤ win := by have := HDK.out; omega
            have g1 : decide (d ≤ win) = true := decide_eq_true hdw
            have g2 : decide ((d : Int) ≤ win) = true := decide_eq_true (by omega)
            have g3 : decide ((kn' : Int) + d ≤ (kn' : Int) + win) = true := decide_eq_true (by omega)
            have g4 : decide (((kn' + d : Nat) : Int) ≤ (kn' : Int) + win) = true := decide_eq_true (by omega)
            have g5 : Int.tmod ((kn' : Int) + d) 16 = ((kn' : Int) + d) % 16 := Int.tmod_eq_emod_of_nonneg (by omega)
            have HDW := Aside0.mk hdw
            clear hdw
            by_cases hq : (kn' + d) % 16 = st.got.length % 16
            · have HACK := Aside0.mk (show ackFind kn' win (st.got.length % 16) = kn' + d from ackFind_hit HDW.out hq HMISS.out)
              have q1 : ((((kn' + d) % 16 : Nat) : Int) == (st.got.length : Int) % 16) = true := beq_iff_eq.mpr (by omega)
              have q2 : ((((kn' : Int) + d) % 16) == (st.got.length : Int) % 16) = true := beq_iff_eq.mpr (by omega)
              clear hq
              go_wp2_with fail
              go_roundg k4
              case measure => omega
              case rel =>
                have hc : ((kn' + d : Nat) : Int) = (kn' : Int) + d := by simp
                exact ⟨j + 1, kn' + d, by rw [hw1], ⟨by have := HJ.out; omega⟩, ⟨by have := HG2.out; rw [HD.out, List.foldl_cons, HREC.out, HACK.out] at this; exact this⟩, ⟨by have := HGL.out; have := HDW.out; have := HWIN.out; omega⟩, ⟨by rw [heap_set HX.out, hc]; rfl⟩, ⟨Kd.S_set HS.out HX.out (by decide) _ _⟩, ⟨Kd.R_set HT.out HX.out (by decide) _ _⟩, ⟨HVT.out.set HX.out (by decide) _ _⟩, ⟨Kd.R_set HV.out HX.out (by decide) _ _⟩, ⟨below_set HB.out HGE.out⟩⟩
            · have HQN := Aside0.mk hq
              have q1 : ((((kn' + d) % 16 : Nat) : Int) == (st.got.length : Int) % 16) = false := beq_eq_false_iff_ne.mpr (by omega)
              have q2 : ((((kn' : Int) + d) % 16) == (st.got.length : Int) % 16) = false := beq_eq_false_iff_ne.mpr (by omega)
              clear hq
              go_wp2_with fail
              go_roundg k5
              case measure => omega
              case rel => exact ⟨d + 1, by first | rfl | (rw [hwd]) | (rw [← hwd]; simp), rfl, ⟨by have := HDK.out; omega⟩, ⟨fun e he => by rcases Nat.lt_or_ge e d with h | h; exact HMISS.out e h; have h2 : e = d := (by omega); rw [h2]; exact HQN.out⟩⟩
end Go.Proofs.Ytookabfmbimnoaa.Lk

namespace Go.Proofs.Ytookabfmbimnoaa.Lk
open Go.RowKit Go.Proofs.YtookabfmbimnoaaW.PrintWords Go.Proofs.YtookabfmbimnoaaW.PrintLast Go.Proofs.YtookabfmbimnoaaW.PrintMore
set_option linter.unusedVariables false
set_option linter.unusedSimpArgs false

set_option maxHeartbeats 8000000 in
set_option maxRecDepth 100000 in
theorem RunLink_no (a0 : Int) (A1 : Option Addr) (c1 : Nat) (l1 : List (List Int)) (A2 : Option Addr) (c2 : Nat) (l2 : List Int) (A3 : Option Addr) (c3 : Nat) (l3 : List Int) (a4 : Int) (w : World)
    (hr1 : Kd.C (Kd.slice 5 (Kd.int .u8)) w A1 l1.length l1) (hc1 : l1.length ≤ c1) (hr2 : Kd.C (Kd.int .i64) w A2 l2.length l2) (hc2 : l2.length ≤ c2) (hr3 : Kd.C (Kd.int .i64) w A3 l3.length l3) (hc3 : l3.length ≤ c3) (h : impl_linkOk.f a0 l1 l2 l3 a4 = some false) :
    Calls Try.prog 10 #[.int .i64 a0, .slice A1 l1.length c1, .slice A2 l2.length c2, .slice A3 l3.length c3, .int .i64 a4] w fun e w' => e = .returned (.tuple #[.agg #[.slice none 0 0, .int .i64 0, .int .i64 0, .bool false], .bool false]) ∧ Below w.heap.size w w' := by
  have HC := Aside0.mk (fun (W : World) (hb : Below w.heap.size w W) => impl_linkOk.calls a0 A1 c1 l1 A2 c2 l2 A3 c3 l3 a4 false W (Kd.C_below hr1 hb) hc1 (Kd.C_below hr2 hb) hc2 (Kd.C_below hr3 hb) hc3 h)
  clear hr1 hc1 hr2 hc2 hr3 hc3 h
  go_enter Try.func10, Try.ntmps10
  go_wp2_with fail
  have hb1 : Below w.heap.size w (w.alloc (.cells #[.slice none 0 0, .int .i64 0, .int .i64 0, .bool false] 28)) := below_alloc (Below.refl _ _) _
  have hx : (w.alloc (.cells #[.slice none 0 0, .int .i64 0, .int .i64 0, .bool false] 28)).heap[w.heap.size]? = some (.cells #[.slice none 0 0, .int .i64 0, .int .i64 0, .bool false] 28 (0, 0)) := blk_new _ _
  generalize w.alloc (.cells #[.slice none 0 0, .int .i64 0, .int .i64 0, .bool false] 28) = W at hb1 hx ⊢
  refine (HC.out W hb1).mono ?_
  rintro e w' ⟨rfl, hb⟩
  replace hx := blk_below hx hb
  replace hb := Aside0.mk (below_step hb1 hb)
  clear hb1 HC
  generalize hg : w.heap.size = g at hx hb ⊢
  have x0 : w'.cell? ⟨g, 0, none⟩ = some (.slice none 0 0) := by simp [World.cell?, hx]
  have x1 : w'.cell? ⟨g, 1, none⟩ = some (.int .i64 0) := by simp [World.cell?, hx]
  have x2 : w'.cell? ⟨g, 2, none⟩ = some (.int .i64 0) := by simp [World.cell?, hx]
  have x3 : w'.cell? ⟨g, 3, none⟩ = some (.bool false) := by simp [World.cell?, hx]
  have y0 : w'.frozen? ⟨g, 0, none⟩ = false := by simp [World.frozen?, hx]
  have y1 : w'.frozen? ⟨g, 1, none⟩ = false := by simp [World.frozen?, hx]
  have y2 : w'.frozen? ⟨g, 2, none⟩ = false := by simp [World.frozen?, hx]
  have y3 : w'.frozen? ⟨g, 3, none⟩ = false := by simp [World.frozen?, hx]
  go_wp2_with fail
  refine bodyPost_ret (results_ct (p := 10) (u := 11) (ty := 28) rfl _ _ g 28 #[.slice none 0 0, .int .i64 0, .int .i64 0, .bool false] (0, 0) _ rfl (heap_set (heap_set (heap_set (heap_set hx)))) Try.underlying28 rfl (by kernel_rfl)) rfl ?_
  refine ⟨rfl, ?_⟩
  subst hg
  exact below_set (below_set (below_set (below_set hb.out (Nat.le_refl _)) (Nat.le_refl _)) (Nat.le_refl _)) (Nat.le_refl _)
theorem loopL_stop {w : Nat} {list : List (List Int)} {there back : List Int} (k : Nat) {st : LSt} (h : ¬ st.kn < list.length) : loopL w list there back k st = st := by
  cases k with
  | zero => rfl
  | succ k => rw [loopL, if_neg h]
theorem loopL_go {w : Nat} {list : List (List Int)} {there back : List Int} (k : Nat) {st : LSt} (h : st.kn < list.length) : loopL w list there back (k + 1) st = loopL w list there back k (stepL w list there back st) := by rw [loopL, if_pos h]
/-- What stays true of the state. -/
structure StOk (st : LSt) : Prop where
  kn : st.kn ≤ 80
  s1 : st.s1 ≤ 8 * st.rounds
  s2 : st.s2 ≤ st.rounds
  got : st.got.length ≤ 16 * st.rounds
theorem stepL_ok {w : Nat} {list : List (List Int)} {there back : List Int} {st : LSt} (hw : w ≤ 8) (hl : list.length ≤ 60) (hk : st.kn < list.length) (h : StOk st) : StOk (stepL w list there back st) := by
  have h1 := acks_le w (((arrivals (there.drop st.s1) (sentN w list.length st.kn)).foldl (recv1 list st.kn (there.drop st.s1)) st.got).length % 16) (back.drop st.s2) (arrivals (back.drop st.s2) 1) st.kn
  have h2 := recvs_le list st.kn (there.drop st.s1) (arrivals (there.drop st.s1) (sentN w list.length st.kn)) st.got
  have h3 := arrivals_length (back.drop st.s2) 1
  have h4 := arrivals_length (there.drop st.s1) (sentN w list.length st.kn)
  have h5 : sentN w list.length st.kn ≤ w := by unfold sentN; omega
  have h6 : (arrivals (back.drop st.s2) 1).length * w ≤ 2 * 8 := Nat.mul_le_mul h3 hw
  have := h.kn; have := h.s1; have := h.s2; have := h.got
  constructor
  · show _ ≤ 80
    simp only [stepL]
    omega
  · simp only [stepL]; omega
  · simp only [stepL]; omega
  · simp only [stepL]; omega
set_option maxHeartbeats 8000000 in
set_option maxRecDepth 100000 in
theorem RunLink_yes (win : Nat) (A1 : Option Addr) (c1 : Nat) (l1 : List (List Int)) (A2 : Option Addr) (c2 : Nat) (l2 : List Int) (A3 : Option Addr) (c3 : Nat) (l3 : List Int) (m : Nat) (w : World)
    (hr1 : Kd.C (Kd.slice 5 (Kd.int .u8)) w A1 l1.length l1) (hc1 : l1.length ≤ c1) (hr2 : Kd.C (Kd.int .i64) w A2 l2.length l2) (hc2 : l2.length ≤ c2) (hr3 : Kd.C (Kd.int .i64) w A3 l3.length l3) (hc3 : l3.length ≤ c3) (h : impl_linkOk.f (win : Int) l1 l2 l3 (m : Int) = some true) (hbo : bytesOk l1 = true) :
    Calls Try.prog 10 #[.int .i64 (win : Int), .slice A1 l1.length c1, .slice A2 l2.length c2, .slice A3 l3.length c3, .int .i64 (m : Int)] w fun e w' => ∃ v0_ : Value, e = .returned (.tuple #[.agg #[v0_, .int .i64 ((runL win l1 l2 l3 m).rounds : Int), .int .i64 (((runL win l1 l2 l3 m).s1 + (runL win l1 l2 l3 m).s2 : Nat) : Int), .bool (decide (l1.length ≤ (runL win l1 l2 l3 m).kn))], .bool true]) ∧ Kd.S (Kd.slice 5 (Kd.int .u8)) 22 w' w.heap.size (fun _ => True) v0_ (runL win l1 l2 l3 m).got ∧ Below w.heap.size w w' := by
  have HC := Aside0.mk (fun (W : World) (hb : Below w.heap.size w W) => impl_linkOk.calls (win : Int) A1 c1 l1 A2 c2 l2 A3 c3 l3 (m : Int) true W (Kd.C_below hr1 hb) hc1 (Kd.C_below hr2 hb) hc2 (Kd.C_below hr3 hb) hc3 h)
  have h0 := Option.some.inj h
  simp only [Bool.and_eq_true, winOk, rndOk, decide_eq_true_eq] at h0
  obtain ⟨⟨hw1, hw2⟩, hl1, hsh, hf2, hf3, hm1, hm2⟩ := h0
  have HW1 := Aside0.mk (show 1 ≤ win by omega)
  have HW2 := Aside0.mk (show win ≤ 8 by omega)
  have HL := Aside0.mk hl1
  have HSH := Aside0.mk hsh
  have HF2 := Aside0.mk hf2
  have HF3 := Aside0.mk hf3
  have HM := Aside0.mk (show m ≤ 400 by omega)
  have HBO := Aside0.mk hbo
  have HR1 := Aside0.mk hr1
  have HR2 := Aside0.mk hr2
  have HR3 := Aside0.mk hr3
  have HC1 := Aside0.mk hc1
  have HC2 := Aside0.mk hc2
  have HC3 := Aside0.mk hc3
  clear hr1 hc1 hr2 hc2 hr3 hc3 h hw1 hw2 hl1 hsh hf2 hf3 hm1 hm2 hbo
  have HRUN := Aside0.mk (show runL win l1 l2 l3 m = loopL win l1 l2 l3 m ⟨[], 0, 0, 0, 0⟩ from rfl)
  generalize runL win l1 l2 l3 m = res at HRUN ⊢
  go_enter Try.func10, Try.ntmps10
  go_wp2_with fail
  have hb1 : Below w.heap.size w (w.alloc (.cells #[.slice none 0 0, .int .i64 0, .int .i64 0, .bool false] 28)) := below_alloc (Below.refl _ _) _
  have hx : (w.alloc (.cells #[.slice none 0 0, .int .i64 0, .int .i64 0, .bool false] 28)).heap[w.heap.size]? = some (.cells #[.slice none 0 0, .int .i64 0, .int .i64 0, .bool false] 28 (0, 0)) := blk_new _ _
  generalize w.alloc (.cells #[.slice none 0 0, .int .i64 0, .int .i64 0, .bool false] 28) = W at hb1 hx ⊢
  refine (HC.out W hb1).mono ?_
  rintro e w' ⟨rfl, hb⟩
  replace hx := blk_below hx hb
  replace hb := Aside0.mk (below_step hb1 hb)
  clear hb1 HC
  go_wp2_with fail
  generalize hg : w.heap.size = g at hx
  have hg1 := heap_lt hx
  have HX0 : ∃ (W2 : World) (G : Nat), G = w'.heap.size ∧ W2 = (((w'.alloc (Obj.cells #[Value.slice none 0 0, Value.int IntKind.i64 0, Value.int IntKind.i64 0, Value.bool false] 28)).alloc (Obj.cells #[Value.slice A2 l2.length c2, Value.int IntKind.i64 0] 52)).alloc (Obj.cells #[Value.slice A3 l3.length c3, Value.int IntKind.i64 0] 52)) ∧ Below w.heap.size w W2 ∧ g < G ∧ w.heap.size ≤ G ∧ BoxL W2 g G (.slice none 0 0) 0 0 0 (.slice A2 l2.length c2) (.slice A3 l3.length c3) := by
    refine ⟨_, _, rfl, rfl, below_alloc (below_alloc (below_alloc hb.out _) _) _, hg1, hb.out.size, blk_alloc (blk_alloc (blk_alloc hx _) _) _, blk_alloc (blk_alloc (blk_new _ _) _) _, ?_, ?_⟩
    · refine blk_alloc ?_ _
      have := blk_new (w'.alloc (Obj.cells #[Value.slice none 0 0, Value.int IntKind.i64 0, Value.int IntKind.i64 0, Value.bool false] 28)) (Obj.cells #[Value.slice A2 l2.length c2, Value.int IntKind.i64 0] 52)
      simpa using this
    · have := blk_new ((w'.alloc (Obj.cells #[Value.slice none 0 0, Value.int IntKind.i64 0, Value.int IntKind.i64 0, Value.bool false] 28)).alloc (Obj.cells #[Value.slice A2 l2.length c2, Value.int IntKind.i64 0] 52)) (Obj.cells #[Value.slice A3 l3.length c3, Value.int IntKind.i64 0] 52)
      simpa using this
  obtain ⟨W2, G, hG, hW2, hB2, hgG, hwG, hbox⟩ := HX0
  rw [← hG]
  rw [← hW2]
  clear hW2 hb hx hg1
  have HGG := Aside0.mk hgG
  have HWG := Aside0.mk hwG
  have HG0 := Aside0.mk hg
  have HB := Aside0.mk hB2
  have HBOX := Aside0.mk hbox
  clear hgG hwG hB2 hbox hG hg w' W
  go_loopg [15] m (fun kq v15 w' => ∃ (st : LSt) (vg : Value), v15 = .int .i64 (st.kn : Int) ∧ Aside0 (st.rounds + kq = m) ∧ Aside0 (loopL win l1 l2 l3 kq st = res) ∧ Aside0 (StOk st) ∧ Aside0 (BoxL w' g G vg st.rounds st.s1 st.s2 (.slice A2 l2.length c2) (.slice A3 l3.length c3)) ∧ Aside0 (Kd.S (Kd.slice 5 (Kd.int .u8)) 22 w' w.heap.size (fun _ => True) vg st.got) ∧ Aside0 (Below w.heap.size w w'))
  case atStart => exact ⟨⟨[], 0, 0, 0, 0⟩, .slice none 0 0, rfl, ⟨by simp⟩, ⟨HRUN.out.symm⟩, ⟨⟨by simp, by simp, by simp, by simp⟩⟩, HBOX, ⟨Kd.S_nil _ _ _ _ _⟩, HB⟩
  case round =>
    clear HB HBOX HRUN
    obtain ⟨st, vg, rfl, HK, HR, HOK, HBOX, HS, HB⟩ := hrel
    by_cases hlt : st.kn < l1.length
    · have e1 : decide ((st.kn : Int) < l1.length) = true := decide_eq_true (by omega)
      have e1n : decide (st.kn < l1.length) = true := decide_eq_true (by omega)
      cases gk with
      | zero =>
        have hr : loopL win l1 l2 l3 0 st = st := rfl
        have e2 : decide ((st.rounds : Int) < m) = false := decide_eq_false (by have := HK.out; omega)
        have e2n : decide (st.rounds < m) = false := decide_eq_false (by have := HK.out; omega)
        have e3 : decide ((st.kn : Int) ≥ l1.length) = false := decide_eq_false (by omega)
        have e4 : decide ((l1.length : Int) ≤ st.kn) = false := decide_eq_false (by omega)
        have e5 := Aside0.mk (show decide (l1.length ≤ st.kn) = false from decide_eq_false (by omega))
        obtain rfl : st = res := hr.symm.trans HR.out
        obtain ⟨Ag, cg, rfl⟩ := Kd.S_slice HS.out
        obtain ⟨⟨x0, x1, x2, x3⟩, y0, y1, y2, y3⟩ := HBOX.out.cellsG
        obtain ⟨⟨z0, z1, z2, z3⟩, q0, q1, q2, q3⟩ := HBOX.out.cells0
        obtain ⟨u1, u2⟩ := HBOX.out.cellsS
        have hw1 : wrap64 ((st.s1 : Int) + st.s2) = ((st.s1 + st.s2 : Nat) : Int) := by rw [w64 _ (by have := HOK.out.s1; have := HOK.out.s2; have := HK.out; have := HM.out; omega)]; simp
        have hne : g ≠ G := by have := HGG.out; omega
        have hne2 : G ≠ g := by have := HGG.out; omega
        go_wp2_with fail
        refine bodyPost_ret (v := .tuple #[.agg #[.slice Ag st.got.length cg, .int .i64 st.rounds, .int .i64 ((st.s1 : Int) + st.s2), .bool (decide (l1.length ≤ st.kn))], .bool true]) ?hres rfl ?_
        case hres => exact (results_ct (p := 10) (u := 11) (ty := 28) rfl _ _ g 28 #[.slice Ag st.got.length cg, .int .i64 st.rounds, .int .i64 ((st.s1 : Int) + st.s2), .bool (decide (l1.length ≤ st.kn))] (0, 0) _ rfl (heap_set (heap_set (heap_set (heap_set (BoxL.other (BoxL.other HBOX.out.b0 G hne2 _ _) G hne2 _ _))))) Try.underlying28 rfl (by kernel_rfl))
        refine ⟨.slice Ag st.got.length cg, by rw [show ((st.s1 + st.s2 : Nat) : Int) = (st.s1 : Int) + st.s2 by simp], ?_, ?_⟩
        · have hS1 := Kd.S_set HS.out HBOX.out.b1 (by decide) 2 (.int .i64 ((st.s1 : Int) + st.s2))
          have hS2 := Kd.S_set hS1 (heap_set HBOX.out.b1) (by decide) 3 (.bool (decide (l1.length ≤ st.kn)))
          have h0 := BoxL.other (BoxL.other HBOX.out.b0 G hne2 2 (.int .i64 ((st.s1 : Int) + st.s2))) G hne2 3 (.bool (decide (l1.length ≤ st.kn)))
          exact Kd.S_set (Kd.S_set (Kd.S_set (Kd.S_set hS2 h0 (by decide) _ _) (heap_set h0) (by decide) _ _) (heap_set (heap_set h0)) (by decide) _ _) (heap_set (heap_set (heap_set h0))) (by decide) _ _
        · have hg0 := HG0.out
          exact below_set (below_set (below_set (below_set (below_set (below_set HB.out HWG.out) HWG.out) (by omega)) (by omega)) (by omega)) (by omega)
      | succ k1 =>
        have e2 : decide ((st.rounds : Int) < m) = true := decide_eq_true (by have := HK.out; omega)
        have e2n : decide (st.rounds < m) = true := decide_eq_true (by have := HK.out; omega)
        obtain ⟨x0, x1, y0, y1⟩ := HBOX.out.cells
        have hw1 : wrap64 ((st.rounds : Int) + 1) = ((st.rounds + 1 : Nat) : Int) := by rw [w64 _ (by have := HK.out; have := HM.out; omega)]; simp
        go_wp2_with fail
        obtain ⟨wA, hwA⟩ : ∃ W : World, W = wr.setCell ⟨G, 1, none⟩ (.int .i64 ((st.rounds : Int) + 1)) := ⟨_, rfl⟩
        rw [← hwA]
        have HBOXA := Aside0.mk (show BoxL wA g G vg (st.rounds + 1) st.s1 st.s2 (.slice A2 l2.length c2) (.slice A3 l3.length c3) by
          have := HBOX.out.setR HGG.out (st.rounds + 1)
          rw [hwA]
          simpa using this)
        have HSA := Aside0.mk (show Kd.S (Kd.slice 5 (Kd.int .u8)) 22 wA w.heap.size (fun _ => True) vg st.got by
          rw [hwA]
          exact Kd.S_set HS.out HBOX.out.b1 (by decide) _ _)
        have HBA := Aside0.mk (show Below w.heap.size w wA by
          rw [hwA]
          exact below_set HB.out HWG.out)
        clear hwA HBOX HS HB x0 x1 y0 y1 hw1
        have HLT := Aside0.mk hlt
        have HN := Aside0.mk (show sentN win l1.length st.kn = min l1.length (st.kn + win) - st.kn from rfl)
        have HNL := Aside0.mk (show sentN win l1.length st.kn ≤ 8 by unfold sentN; have := HW2.out; omega)
        generalize hn : sentN win l1.length st.kn = n at HN HNL
        have HNE := Aside0.mk hn
        clear hn hlt
        have HB := Aside0.mk (Below.refl wA.heap.size wA)
        go_loopg [16, 17] n (fun kq v16 v17 w' => ∃ i : Nat, v17 = .int .i64 ((st.kn + i : Nat) : Int) ∧ Aside0 (i + kq = n) ∧ Aside0 (Kd.R (Kd.slice 5 (Kd.int .u8)) 22 w' wA.heap.size (fun _ => True) v16 (impl_packs l1 st.kn i)) ∧ Aside0 (Below wA.heap.size wA w'))
        case atStart => exact ⟨0, rfl, ⟨by simp⟩, ⟨Kd.R_nil _ _ _ _ _⟩, HB⟩
        case round =>
          clear HB
          obtain ⟨i, rfl, HI, HO, HB⟩ := hrel
          cases gk with
          | zero =>
            have hi : i = n := by have := HI.out; omega
            subst hi
            have t0 : ¬ ((st.kn : Int) + i < min (l1.length : Int) (wrap64 ((st.kn : Int) + win))) := by rw [w64 _ (by have := HOK.out.kn; have := HW2.out; omega)]; have := HN.out; have := HLT.out; omega
            have t1 := eq_false t0
            have t2 : ((st.kn + i : Nat) : Int) < min (l1.length : Int) (wrap64 ((st.kn : Int) + win)) ↔ False := by rw [Int.natCast_add]; exact iff_false_intro t0
            have t3 : decide (((st.kn + i : Nat) : Int) < min (l1.length : Int) (wrap64 ((st.kn : Int) + win))) = false := decide_eq_false (fun h => t2.1 h)
            have t4 : decide ((st.kn : Int) + i < min (l1.length : Int) (wrap64 ((st.kn : Int) + win))) = false := decide_eq_false t0
            clear t2
            obtain ⟨A16, c16, e16⟩ := Kd.R_slice HO.out
            subst e16
            obtain ⟨hq1, hq2, hq3⟩ := Kd.R_reads' HO.out
            have HBW := Aside0.mk (below_step HBA.out HB.out)
            have HBOXW := Aside0.mk (HBOXA.out.below HB.out)
            have HSW := Aside0.mk (Kd.S_below HSA.out HB.out)
            have HSHORT := Aside0.mk (impl_packs_short HSH.out st.kn i)
            have HPL := Aside0.mk (impl_packs_length l1 st.kn i)
            have HUN := Aside0.mk (fun (x : Int) (h0 : 0 ≤ x) (h1 : x < i) => impl_unOf HSH.out HBO.out st.kn i (l2.drop st.s1) x h0 h1)
            generalize impl_packs l1 st.kn i = pks at hq1 hq2 hq3 HSHORT HPL HUN HO ⊢
            clear HSA HBOXA HBA HO HB
            go_wp2_with fail
            refine (pass_ok (G + 1) A2 c2 l2 st.s1 A16 c16 pks _ (Kd.C_below HR2.out HBW.out) HC2.out hq3 hq2 HBOXW.out.b2 HF2.out (by have := HPL.out; have := HNL.out; omega) (by have := HOK.out.s1; have := HK.out; have := HM.out; omega) HSHORT.out).mono ?_
            rintro e w' ⟨v3, w3, rfl, ho, hb, rfl⟩
            obtain ⟨wB, hwB⟩ : ∃ W : World, W = w3.setCell ⟨G + 1, 1, none⟩ (.int .i64 ((st.s1 + pks.length : Nat) : Int)) := ⟨_, rfl⟩
            rw [← hwB]
            have HBOX := Aside0.mk (show BoxL wB g G vg (st.rounds + 1) (st.s1 + i) st.s2 (.slice A2 l2.length c2) (.slice A3 l3.length c3) by
              rw [hwB, HPL.out]
              exact (HBOXW.out.below hb).setS1 HGG.out _)
            have HS := Aside0.mk (show Kd.S (Kd.slice 5 (Kd.int .u8)) 22 wB w.heap.size (fun _ => True) vg st.got by
              rw [hwB]
              exact Kd.S_set (Kd.S_below HSW.out hb) (HBOXW.out.below hb).b2 (by decide) _ _)
            have HB := Aside0.mk (show Below w.heap.size w wB by
              rw [hwB]
              exact below_set (below_step HBW.out hb) (by have := HWG.out; omega))
            have HV := Aside0.mk (show Kd.R (Kd.slice 5 (Kd.int .u8)) 22 wB w.heap.size (fun k => True ∧ some k ≠ vg.ownBlock) v3 (passWire (l2.drop st.s1) pks) by
              rw [hwB]
              exact Kd.R_set (Kd.R_lower (Kd.R_new' ho (Kd.S_lt HSW.out)) (below_size HBW.out)) (HBOXW.out.below hb).b2 (by decide) _ _)
            have HAR := Aside0.mk (show passWire (l2.drop st.s1) pks = (arrivals (l2.drop st.s1) i).map (passOf (l2.drop st.s1) pks) by unfold passWire; rw [HPL.out])
            have HAM := Aside0.mk (arrivals_mem (l2.drop st.s1) i)
            have HAL := Aside0.mk (arrivals_length (l2.drop st.s1) i)
            obtain ⟨got2, hgot2⟩ : ∃ x, x = (arrivals (l2.drop st.s1) i).foldl (recv1 l1 st.kn (l2.drop st.s1)) st.got := ⟨_, rfl⟩
            have HGOT2 := Aside0.mk hgot2
            have HGT := Aside0.mk hgot2
            have HLEN := Aside0.mk (show (passWire (l2.drop st.s1) pks).length = (arrivals (l2.drop st.s1) i).length by rw [HAR.out, List.length_map])
            generalize passWire (l2.drop st.s1) pks = arr at HV HAR HLEN
            generalize arrivals (l2.drop st.s1) i = ar at HAR HAM HAL HGOT2 HLEN hgot2
            generalize l2.drop st.s1 = fs at HUN HAR HGOT2 hgot2
            clear hwB HBOXW HSW HBW hb ho hgot2 hq1 hq2 hq3 t0 t1 t3 t4
            obtain ⟨A87, c87, e87⟩ := Kd.R_slice HV.out
            subst e87
            go_wp2_with fail
            go_loopg [89] ar.length (fun kq v89 w' => ∃ (j : Nat) (vg' : Value) (got' : List (List Int)), v89 = .int .i64 (j : Int) ∧ Aside0 (j + kq = ar.length) ∧ Aside0 ((ar.drop j).foldl (recv1 l1 st.kn fs) got' = got2) ∧ Aside0 (got'.length ≤ st.got.length + j) ∧ Aside0 (BoxL w' g G vg' (st.rounds + 1) (st.s1 + i) st.s2 (.slice A2 l2.length c2) (.slice A3 l3.length c3)) ∧ Aside0 (Kd.S (Kd.slice 5 (Kd.int .u8)) 22 w' w.heap.size (fun _ => True) vg' got') ∧ Aside0 (Kd.R (Kd.slice 5 (Kd.int .u8)) 22 w' w.heap.size (fun k => True ∧ some k ≠ vg'.ownBlock) (.slice A87 arr.length c87) arr) ∧ Aside0 (Below w.heap.size w w'))
            case atStart => exact ⟨0, vg, st.got, rfl, ⟨by simp⟩, ⟨HGOT2.out.symm⟩, ⟨Nat.le_refl _⟩, HBOX, HS, HV, HB⟩
            case round =>
              clear HBOX HS HV HB
              obtain ⟨j, vg', got', rfl, HJ, HG2, HGL, HBOX, HS, HV, HB⟩ := hrel
              cases gk with
              | zero =>
                obtain rfl : ar.length = j := by have := HJ.out; omega
                have c1 : decide ((ar.length : Int) < arr.length) = false := decide_eq_false (by have := HLEN.out; omega)
                have c1n : decide (ar.length < arr.length) = false := decide_eq_false (by have := HLEN.out; omega)
                obtain ⟨Ag, cg, eg⟩ := Kd.S_slice HS.out
                subst eg
                obtain ⟨x0, x1, y0, y1⟩ := HBOX.out.cells
                rw [List.drop_length] at HG2
                obtain rfl : got' = got2 := HG2.out
                have hrem : Int.tmod (got'.length : Int) 16 = ((got'.length % 16 : Nat) : Int) := by rw [Int.tmod_eq_emod_of_nonneg (by omega)]; simp
                clear HG2 HV HUN HAR HLEN
                go_wp2_with fail
                have HQ := Aside0.mk (show got'.length % 16 < 16 from Nat.mod_lt _ (by omega))
                have HPB := Aside0.mk (show impl_PackLink.f 700 2 ((got'.length : Int) % 16) [] = some (impl_packv 2 ((got'.length % 16 : Nat) : Int) [], true) by
                  have := impl_pack 2 ((got'.length % 16 : Nat) : Int) [] (.inr ⟨rfl, rfl⟩) (by omega) (by have := HQ.out; omega) (by simp) (fun x hx => by simp at hx)
                  simpa using this)
                have HUB := Aside0.mk (fun (x : Int) (h0 : 0 ≤ x) (h1 : x < 1) => impl_unBack (got'.length % 16) HQ.out (l3.drop st.s2) x h0 h1)
                have HPBL := Aside0.mk (show (impl_packv 2 ((got'.length % 16 : Nat) : Int) []).length = 3 by rw [impl_packv_length]; rfl)
                generalize impl_packv 2 ((got'.length % 16 : Nat) : Int) [] = pb at HPB HUB HPBL
                refine (impl_PackLink.calls 700 2 _ none 0 [] pb true _ ?s0 ?s1 HPB.out).mono ?_
                case s0 => exact (Kd.R_reads' (Kd.R_nil (Kd.int .u8) 5 _ 0 (fun _ => True))).2.2
                case s1 => exact Nat.le_refl _
                rintro e w' ⟨ve, rfl, he, hb⟩
                have n0_ := Aside0.mk (Kd.S_below HS.out hb)
                have n1_ := Aside0.mk (HBOX.out.below hb)
                have n2_ := Aside0.mk (below_step HB.out hb)
                clear HS HBOX HB hb x0 x1 y0 y1
                have HS := n0_
                have HBOX := n1_
                have HB := n2_
                clear n0_ n1_ n2_
                obtain ⟨Ab, cb, eb⟩ := Kd.R_slice he
                subst eb
                go_wp2_with fail
                have hcb : Kd.C (Kd.slice 5 (Kd.int .u8)) (w'.alloc (.cells #[.slice Ab pb.length cb] 22)) (some ⟨w'.heap.size, 0, none⟩) [pb].length [pb] := by
                  refine ⟨rfl, by simp, fun _ => ⟨_, rfl, fun j p hj => ?_⟩⟩
                  cases j with
                  | zero =>
                    simp only [List.getElem?_cons_zero, Option.some.injEq] at hj
                    subst hj
                    refine ⟨[.slice Ab pb.length cb], rfl, (Kd.slice 5 (Kd.int .u8)).K_below (below_alloc (Below.refl _ _) _) ((Kd.slice 5 (Kd.int .u8)).K_of_M (Kd.M_row he)), fun i u hu => ?_⟩
                    cases i with
                    | zero =>
                      simp only [List.getElem?_cons_zero, Option.some.injEq] at hu
                      subst hu
                      simp [Addr.add]
                    | succ i => simp at hu
                  | succ j => simp at hj
                have ha1 : Below w'.heap.size w' (w'.alloc (.cells #[.slice Ab pb.length cb] 22)) := below_alloc (Below.refl _ _) _
                refine (pass_ok (G + 1 + 1) A3 c3 l3 st.s2 (some ⟨w'.heap.size, 0, none⟩) 1 [pb] _ (Kd.C_below HR3.out (below_alloc HB.out _)) HC3.out hcb (Nat.le_refl _) (HBOX.out.below ha1).b3 HF3.out (by simp) (by have := HOK.out.s2; have := HK.out; have := HM.out; omega) (by intro b hb; rw [List.mem_singleton] at hb; subst hb; have := HPBL.out; omega)).mono ?_
                rintro e w2 ⟨v3, w3, rfl, ho, hb, rfl⟩
                replace hb := ha1.trans (hb.mono ha1.size)
                obtain ⟨wC, hwC⟩ : ∃ W : World, W = w3.setCell ⟨G + 1 + 1, 1, none⟩ (.int .i64 ((st.s2 + [pb].length : Nat) : Int)) := ⟨_, rfl⟩
                rw [← hwC]
                have n1_ := Aside0.mk (show BoxL wC g G (.slice Ag got'.length cg) (st.rounds + 1) (st.s1 + i) (st.s2 + 1) (.slice A2 l2.length c2) (.slice A3 l3.length c3) by
                  rw [hwC]
                  exact (HBOX.out.below hb).setS2 HGG.out _)
                have n2_ := Aside0.mk (show Kd.S (Kd.slice 5 (Kd.int .u8)) 22 wC w.heap.size (fun _ => True) (.slice Ag got'.length cg) got' by
                  rw [hwC]
                  exact Kd.S_set (Kd.S_below HS.out hb) (HBOX.out.below hb).b3 (by decide) _ _)
                have n3_ := Aside0.mk (show Below w.heap.size w wC by
                  rw [hwC]
                  exact below_set (below_step HB.out hb) (by have := HWG.out; omega))
                have n4_ := Aside0.mk (show Kd.R (Kd.slice 5 (Kd.int .u8)) 22 wC w.heap.size (fun _ => True) v3 (passWire (l3.drop st.s2) [pb]) by
                  rw [hwC]
                  exact Kd.R_set (Kd.R_lower ho (Nat.le_trans (below_size HB.out) ha1.size)) (HBOX.out.below hb).b3 (by decide) _ _)
                clear HBOX HS HB hwC hb ho hcb ha1 he
                have HBOX := n1_
                have HS := n2_
                have HBC := n3_
                have HV := n4_
                clear n1_ n2_ n3_ n4_
                have HAR := Aside0.mk (show passWire (l3.drop st.s2) [pb] = (arrivals (l3.drop st.s2) 1).map (passOf (l3.drop st.s2) [pb]) from rfl)
                have HBM := Aside0.mk (arrivals_mem (l3.drop st.s2) 1)
                have HBL := Aside0.mk (arrivals_length (l3.drop st.s2) 1)
                obtain ⟨kn2, hkn2⟩ : ∃ x, x = (arrivals (l3.drop st.s2) 1).foldl (ack1 win (got'.length % 16) (l3.drop st.s2)) st.kn := ⟨_, rfl⟩
                have HKN2 := Aside0.mk hkn2
                have HLEN := Aside0.mk (show (passWire (l3.drop st.s2) [pb]).length = (arrivals (l3.drop st.s2) 1).length by rw [HAR.out, List.length_map])
                have HSTEP := Aside0.mk (show stepL win l1 l2 l3 st = ⟨got', kn2, st.s1 + i, st.s2 + 1, st.rounds + 1⟩ by rw [show stepL win l1 l2 l3 st = (let got := (arrivals (l2.drop st.s1) (sentN win l1.length st.kn)).foldl (recv1 l1 st.kn (l2.drop st.s1)) st.got; (⟨got, (arrivals (l3.drop st.s2) 1).foldl (ack1 win (got.length % 16) (l3.drop st.s2)) st.kn, st.s1 + sentN win l1.length st.kn, st.s2 + 1, st.rounds + 1⟩ : LSt)) from rfl, HNE.out]; simp only; rw [← HGT.out, ← hkn2])
                generalize passWire (l3.drop st.s2) [pb] = arr2 at HV HAR HLEN
                generalize arrivals (l3.drop st.s2) 1 = ar2 at HAR HBM HBL HKN2 HLEN hkn2
                generalize l3.drop st.s2 = gs at HUB HAR HKN2 hkn2
                clear hkn2
                obtain ⟨A130, c130, e130⟩ := Kd.R_slice HV.out
                subst e130
                have HB := Aside0.mk (Below.refl wC.heap.size wC)
                go_wp2_with fail
                go_loopg [15, 132] ar2.length (fun kq v15 v132 w' => ∃ (j kn' : Nat), v15 = .int .i64 (kn' : Int) ∧ v132 = .int .i64 (j : Int) ∧ Aside0 (j + kq = ar2.length) ∧ Aside0 ((ar2.drop j).foldl (ack1 win (got'.length % 16) gs) kn' = kn2) ∧ Aside0 (kn' ≤ st.kn + 8 * j) ∧ Aside0 (Below wC.heap.size wC w'))
                case atStart => exact ⟨0, st.kn, rfl, rfl, ⟨by simp⟩, ⟨HKN2.out.symm⟩, ⟨by omega⟩, HB⟩
                case round =>
                  clear HB
                  obtain ⟨j, kn', rfl, rfl, HJ, HG2, HGL, HB⟩ := hrel
                  cases gk with
                  | zero =>
                    obtain rfl : ar2.length = j := by have := HJ.out; omega
                    have c1 : decide ((ar2.length : Int) < arr2.length) = false := decide_eq_false (by have := HLEN.out; omega)
                    have c1n : decide (ar2.length < arr2.length) = false := decide_eq_false (by have := HLEN.out; omega)
                    rw [List.drop_length] at HG2
                    obtain rfl : kn' = kn2 := HG2.out
                    clear HG2 HUB HAR HLEN HV
                    go_wp2_with fail
                    go_roundg k1
                    case measure => omega
                    case rel => exact ⟨⟨got', kn', st.s1 + i, st.s2 + 1, st.rounds + 1⟩, .slice Ag got'.length cg, rfl, ⟨by have := HK.out; show st.rounds + 1 + k1 = m; omega⟩, ⟨by rw [← HSTEP.out, ← loopL_go _ HLT.out]; exact HR.out⟩, ⟨by rw [← HSTEP.out]; exact stepL_ok HW2.out HL.out HLT.out HOK.out⟩, ⟨HBOX.out.below HB.out⟩, ⟨Kd.S_below HS.out HB.out⟩, ⟨below_step HBC.out HB.out⟩⟩
                  | succ k4 =>
                    have hj : j < ar2.length := by have := HJ.out; omega
                    have c1 : decide ((j : Int) < arr2.length) = true := decide_eq_true (by have := HLEN.out; omega)
                    have c1n : decide (j < arr2.length) = true := decide_eq_true (by have := HLEN.out; omega)
                    have c2 : (0 ≤ (j : Int)) = True := eq_true (by omega)
                    have c3 : ((j : Int) < arr2.length) = True := eq_true (by have := HLEN.out; omega)
                    have c3n : (j < arr2.length) = True := eq_true (by have := HLEN.out; omega)
                    have hja : j < arr2.length := by have := HLEN.out; omega
                    obtain ⟨ad, Ab2, cb2, hA, hx, hcap, hrr⟩ := at_L2 (Kd.C_below (Kd.R_reads' HV.out).2.2 HB.out) (j : Int) (by omega) (by omega)
                    subst hA
                    have HD := Aside0.mk (show ar2.drop j = ar2[j] :: ar2.drop (j + 1) from List.drop_eq_getElem_cons hj)
                    have ha := HBM.out ar2[j] (List.getElem_mem hj)
                    have hu := HUB.out ar2[j] ha.1 ha.2
                    have hpj : rd_L2 arr2 (j : Int) = passOf gs [pb] ar2[j] := by rw [rd_L2_get hja]; simp [HAR.out]
                    rw [hpj, Int.toNat_natCast] at hx
                    rw [hpj] at hcap hrr
                    generalize passOf gs [pb] ar2[j] = pj at hx hcap hrr hu
                    generalize ar2[j] = idx at HD ha hu
                    have HU := Aside0.mk hu
                    have HRB := Aside0.mk hrr
                    have HCB := Aside0.mk hcap
                    clear hu hrr hcap ha hpj hj hja
                    have hw1 : wrap64 ((j : Int) + 1) = ((j + 1 : Nat) : Int) := by rw [w64 _ (by have := HJ.out; have := HBL.out; omega)]; simp
                    by_cases hf : fateN gs idx.toNat = 4
                    · have HREC := Aside0.mk (show ack1 win (got'.length % 16) gs kn' idx = kn' by unfold ack1; rw [if_pos hf])
                      unfold unBack at HU
                      rw [if_pos hf] at HU
                      clear hf
                      go_wp2_with (go_at_call 34; (with_reducible refine (impl_UnpackLink.calls 700 _ _ pj _ _ _ _ _ ?s0 ?s1 HU.out).mono ?_); (case s0 => exact HRB.out); (case s1 => exact HCB.out); rintro e w' ⟨ve, rfl, he, hb⟩; have n2_ := Aside0.mk (below_step HB.out hb); clear HB; have HB := n2_; clear n2_ he hb)
                      go_roundg k4
                      case measure => omega
                      case rel => exact ⟨j + 1, kn', rfl, by rw [hw1], ⟨by have := HJ.out; omega⟩, ⟨by have := HG2.out; rw [HD.out, List.foldl_cons, HREC.out] at this; exact this⟩, ⟨by have := HGL.out; omega⟩, HB⟩
                    · have HREC := Aside0.mk (show ack1 win (got'.length % 16) gs kn' idx = ackFind kn' win (got'.length % 16) by unfold ack1; rw [if_neg hf])
                      unfold unBack at HU
                      rw [if_neg hf] at HU
                      clear hf
                      go_wp2_with (go_at_call 34; (with_reducible refine (impl_UnpackLink.calls 700 _ _ pj _ _ _ _ _ ?s0 ?s1 HU.out).mono ?_); (case s0 => exact HRB.out); (case s1 => exact HCB.out); rintro e w' ⟨ve, rfl, he, hb⟩; have n2_ := Aside0.mk (below_step HB.out hb); clear HB; have HB := n2_; clear n2_ he hb)
                      go_loopg [15, 34] (win + 1) (fun kq v15 v34 wx => ∃ d : Nat, v15 = .int .i64 (kn' : Int) ∧ v34 = .int .i64 ((kn' + d : Nat) : Int) ∧ wx = w' ∧ Aside0 (d + kq = win + 1) ∧ Aside0 (∀ e, e < d → (kn' + e) % 16 ≠ got'.length % 16))
                      case atStart => exact ⟨0, rfl, rfl, rfl, ⟨by simp⟩, ⟨fun e he => absurd he (by omega)⟩⟩
                      case round =>
                        obtain ⟨d, rfl, rfl, rfl, HDK, HMISS⟩ := hrel
                        have hwk : wrap64 ((kn' : Int) + win) = (kn' : Int) + win := w64 _ (by have := HGL.out; have := HOK.out.kn; have := HBL.out; have := HJ.out; have := HW2.out; omega)
                        have hwd : wrap64 ((kn' : Int) + d + 1) = ((kn' + (d + 1) : Nat) : Int) := by rw [w64 _ (by have := HGL.out; have := HOK.out.kn; have := HBL.out; have := HJ.out; have := HW2.out; have := HDK.out; omega)]; simp; omega
                        cases gk with
                        | zero =>
                          have hdw : ¬ d ≤ win := by have := HDK.out; omega
                          have g1 : decide (d ≤ win) = false := decide_eq_false hdw
                          have g2 : decide ((d : Int) ≤ win) = false := decide_eq_false (by omega)
                          have g3 : decide ((kn' : Int) + d ≤ (kn' : Int) + win) = false := decide_eq_false (by omega)
                          have g4 : decide (((kn' + d : Nat) : Int) ≤ (kn' : Int) + win) = false := decide_eq_false (by omega)
                          have HACK := Aside0.mk (show ackFind kn' win (got'.length % 16) = kn' from ackFind_miss (fun e he => HMISS.out e (by omega)))
                          clear hdw
                          go_wp2_with fail
                          go_roundg k4
                          case measure => omega
                          case rel => exact ⟨j + 1, kn', rfl, by rw [hw1], ⟨by have := HJ.out; omega⟩, ⟨by have := HG2.out; rw [HD.out, List.foldl_cons, HREC.out, HACK.out] at this; exact this⟩, ⟨by have := HGL.out; omega⟩, HB⟩
                        | succ k5 =>
                          have hdw : d ≤ win := by have := HDK.out; omega
                          have g1 : decide (d ≤ win) = true := decide_eq_true hdw
                          have g2 : decide ((d : Int) ≤ win) = true := decide_eq_true (by omega)
                          have g3 : decide ((kn' : Int) + d ≤ (kn' : Int) + win) = true := decide_eq_true (by omega)
                          have g4 : decide (((kn' + d : Nat) : Int) ≤ (kn' : Int) + win) = true := decide_eq_true (by omega)
                          have g5 : Int.tmod ((kn' : Int) + d) 16 = ((kn' : Int) + d) % 16 := Int.tmod_eq_emod_of_nonneg (by omega)
                          have HDW := Aside0.mk hdw
                          clear hdw
                          by_cases hq : (kn' + d) % 16 = got'.length % 16
                          · have HACK := Aside0.mk (show ackFind kn' win (got'.length % 16) = kn' + d from ackFind_hit HDW.out hq HMISS.out)
                            have q1 : ((((kn' + d) % 16 : Nat) : Int) == (got'.length : Int) % 16) = true := beq_iff_eq.mpr (by omega)
                            have q2 : ((((kn' : Int) + d) % 16) == (got'.length : Int) % 16) = true := beq_iff_eq.mpr (by omega)
                            clear hq
                            go_wp2_with fail
                            go_roundg k4
                            case measure => omega
                            case rel => exact ⟨j + 1, kn' + d, by first | rfl | simp, by rw [hw1], ⟨by have := HJ.out; omega⟩, ⟨by have := HG2.out; rw [HD.out, List.foldl_cons, HREC.out, HACK.out] at this; exact this⟩, ⟨by have := HGL.out; have := HDW.out; have := HW2.out; omega⟩, HB⟩
                          · have HQN := Aside0.mk hq
                            have q1 : ((((kn' + d) % 16 : Nat) : Int) == (got'.length : Int) % 16) = false := beq_eq_false_iff_ne.mpr (by omega)
                            have q2 : ((((kn' : Int) + d) % 16) == (got'.length : Int) % 16) = false := beq_eq_false_iff_ne.mpr (by omega)
                            clear hq
                            go_wp2_with fail
                            go_roundg k5
                            case measure => omega
                            case rel => exact ⟨d + 1, rfl, by first | rfl | (rw [hwd]) | (rw [← hwd]; simp), rfl, ⟨by have := HDK.out; omega⟩, ⟨fun e he => by rcases Nat.lt_or_ge e d with h | h; exact HMISS.out e h; have h2 : e = d := (by omega); rw [h2]; exact HQN.out⟩⟩
              | succ k3 =>
                have hj : j < ar.length := by have := HJ.out; omega
                have c1 : decide ((j : Int) < arr.length) = true := decide_eq_true (by have := HLEN.out; omega)
                have c1n : decide (j < arr.length) = true := decide_eq_true (by have := HLEN.out; omega)
                have c2 : (0 ≤ (j : Int)) = True := eq_true (by omega)
                have c3 : ((j : Int) < arr.length) = True := eq_true (by have := HLEN.out; omega)
                have c3n : (j < arr.length) = True := eq_true (by have := HLEN.out; omega)
                have hja : j < arr.length := by have := HLEN.out; omega
                obtain ⟨ad, Ab, cb, hA, hx, hcap, hrr⟩ := at_L2 (Kd.R_reads' HV.out).2.2 (j : Int) (by omega) (by omega)
                subst hA
                have hd : ar.drop j = ar[j] :: ar.drop (j + 1) := List.drop_eq_getElem_cons hj
                have HD := Aside0.mk hd
                have ha := HAM.out ar[j] (List.getElem_mem hj)
                have hu := HUN.out ar[j] ha.1 ha.2
                have hpj : rd_L2 arr (j : Int) = passOf fs pks ar[j] := by rw [rd_L2_get hja]; simp [HAR.out]
                rw [hpj, Int.toNat_natCast] at hx
                rw [hpj] at hcap hrr
                generalize passOf fs pks ar[j] = pj at hx hcap hrr hu
                generalize ar[j] = idx at HD ha hu
                have HU := Aside0.mk hu
                have HRB := Aside0.mk hrr
                have HCB := Aside0.mk hcap
                have HID := Aside0.mk ha
                clear hd hu hrr hcap ha hpj hj hja
                have hw1 : wrap64 ((j : Int) + 1) = ((j + 1 : Nat) : Int) := by rw [w64 _ (by have := HJ.out; have := HAL.out; have := HNL.out; omega)]; simp
                by_cases hf : fateN fs idx.toNat = 4
                · have HREC := Aside0.mk (show recv1 l1 st.kn fs got' idx = got' by unfold recv1; rw [if_pos hf])
                  unfold unOf at HU
                  rw [if_pos hf] at HU
                  clear hf
                  go_wp2_with (go_at_call 34; (with_reducible refine (impl_UnpackLink.calls 700 _ _ pj _ _ _ _ _ ?s0 ?s1 HU.out).mono ?_); (case s0 => exact HRB.out); (case s1 => exact HCB.out); rintro e w' ⟨ve, rfl, he, hb⟩; have n0_ := Aside0.mk (Kd.S_below HS.out hb); have n1_ := Aside0.mk (Kd.R_below HV.out hb); have n2_ := Aside0.mk (below_step HB.out hb); have n3_ := Aside0.mk (HBOX.out.below hb); clear HS HV HB HBOX; have HS := n0_; have HV := n1_; have HB := n2_; have HBOX := n3_; clear n0_ n1_ n2_ n3_ he hb)
                  go_roundg k3
                  case measure => omega
                  case rel => exact ⟨j + 1, vg', got', by rw [hw1], ⟨by have := HJ.out; omega⟩, ⟨by have := HG2.out; rw [HD.out, List.foldl_cons, HREC.out] at this; exact this⟩, ⟨by have := HGL.out; omega⟩, HBOX, HS, HV, HB⟩
                · unfold unOf at HU
                  rw [if_neg hf] at HU
                  obtain ⟨Ag, cg, eg⟩ := Kd.S_slice HS.out
                  subst eg
                  have hrem : Int.tmod (got'.length : Int) 16 = ((got'.length % 16 : Nat) : Int) := by rw [Int.tmod_eq_emod_of_nonneg (by omega)]; simp
                  have hrem2 : Int.tmod (got'.length : Int) 16 = (got'.length : Int) % 16 := by rw [Int.tmod_eq_emod_of_nonneg (by omega)]
                  by_cases hq : (st.kn + idx.toNat) % 16 = got'.length % 16
                  · have HREC := Aside0.mk (show recv1 l1 st.kn fs got' idx = got' ++ [l1.getD (st.kn + idx.toNat) []] by unfold recv1; rw [if_neg hf, if_pos hq])
                    rw [hq] at HU
                    generalize l1.getD (st.kn + idx.toNat) [] = d at HREC HU
                    clear hq hf
                    have e6 : (((got'.length % 16 : Nat) : Int) == (got'.length : Int) % 16) = true := by simp
                    go_wp2_with (first
              | (go_at_call 34; (with_reducible refine (impl_UnpackLink.calls 700 _ _ pj _ _ _ _ _ ?s0 ?s1 HU.out).mono ?_); (case s0 => exact HRB.out); (case s1 => exact HCB.out); rintro e w' ⟨ve, rfl, he, hb⟩; have n4_ := Aside0.mk (fun (k : Nat) (hk : some k = ve.ownBlock) (e : some k = (Value.slice Ag got'.length cg).ownBlock) => (by have h1 := Kd.R_base he k hk.symm; have h2 := Kd.S_lt HS.out k e.symm; omega : False)); have n5_ := Aside0.mk (Kd.R_tight rfl (Kd.R_lower he (below_size HB.out))); have n0_ := Aside0.mk (Kd.S_elder' HS.out (Kd.R_base he) hb); have n1_ := Aside0.mk (Kd.R_below HV.out hb); have n2_ := Aside0.mk (below_step HB.out hb); have n3_ := Aside0.mk (HBOX.out.below hb); clear HS HV HB HBOX; have HS := n0_; have HV := n1_; have HB := n2_; have HBOX := n3_; obtain ⟨x0, x1, y0, y1⟩ := HBOX.out.cells; have HAP := n4_; have HE := n5_; clear n0_ n1_ n2_ n3_ n4_ n5_ he hb; obtain ⟨Ae, ce, ee⟩ := Kd.R_slice HE.out; subst ee)
              | ((with_reducible refine gate_builtin (b := .append) (xs := #[.tmp 114, .tmp 116]) rfl ?_); at_builtin; refine Kd.S_append (Kd.slice 5 (Kd.int .u8)) (w0 := w) w.heap.size rfl (.tmp 114) (.tmp 116) 23 22 (.slice none 0 0) 24 rfl Try.underlying23 info22 rfl (by decide) (by omega) (.slice Ag got'.length cg) got' d [.slice Ae d.length ce] (fun _ => True) (fun k_ => some k_ = (.slice Ae d.length ce : Value).ownBlock) rfl (by first | rfl | (show Value.slice _ 1 1 = _; simp)) ?aP (fun k_ hk_ => ⟨trivial, fun e_ => HAP.out k_ hk_ e_⟩) ?aF ?aO ?aB ?aS ?aL ?_; (case aP => exact Kd.M_row HE.out); (case aB => exact HB.out); (case aF => exact (fun _ _ => trivial)); (case aO => exact HS.out); (case aS => exact below_size HB.out); (case aL => have := HGL.out; have := HOK.out.got; have := HK.out; have := HM.out; have := HAL.out; have := HNL.out; have := HJ.out; omega); intro v1 w1 ho hb hg hat; have n0_ := Aside0.mk (Kd.R_after HV.out hg hat); have n1_ := Aside0.mk (HBOX.out.grown hg (Kd.S_typed HS.out)); have n2_ := Aside0.mk ho; have n3_ := Aside0.mk hb; clear x0 x1 y0 y1 HV HBOX HS HB HAP HE; have HV := n0_; have HBOX := n1_; have HSN := n2_; have HB := n3_; clear n0_ n1_ n2_ n3_ ho hb hg hat; obtain ⟨A1_, c1_, e1_⟩ := Kd.S_slice HSN.out; subst e1_; obtain ⟨x0, x1, y0, y1⟩ := HBOX.out.cells))
                    go_roundg k3
                    case measure => omega
                    case rel =>
                      have hl2 : got'.length + 1 = (got' ++ [d]).length := by simp
                      exact ⟨j + 1, .slice A1_ (got' ++ [d]).length c1_, got' ++ [d], by rw [hw1], ⟨by have := HJ.out; omega⟩, ⟨by have := HG2.out; rw [HD.out, List.foldl_cons, HREC.out] at this; exact this⟩, ⟨by have := HGL.out; simp; omega⟩, ⟨by rw [hl2]; exact HBOX.out.setG HGG.out _⟩, ⟨by rw [hl2]; exact Kd.S_set HSN.out HBOX.out.b1 (by decide) _ _⟩, ⟨by rw [hl2]; exact Kd.R_set HV.out HBOX.out.b1 (by decide) _ _⟩, ⟨below_set HB.out HWG.out⟩⟩
                  · have HREC := Aside0.mk (show recv1 l1 st.kn fs got' idx = got' by unfold recv1; rw [if_neg hf, if_neg hq])
                    have e6 : ((((st.kn + idx.toNat) % 16 : Nat) : Int) == (got'.length : Int) % 16) = false := beq_eq_false_iff_ne.mpr (by omega)
                    have e7 : (((st.kn : Int) + (idx.toNat : Int)) % 16 == (got'.length : Int) % 16) = false := beq_eq_false_iff_ne.mpr (by omega)
                    generalize idx.toNat = ix at *
                    clear hq hf
                    go_wp2_with (go_at_call 34; (with_reducible refine (impl_UnpackLink.calls 700 _ _ pj _ _ _ _ _ ?s0 ?s1 HU.out).mono ?_); (case s0 => exact HRB.out); (case s1 => exact HCB.out); rintro e w' ⟨ve, rfl, he, hb⟩; have n0_ := Aside0.mk (Kd.S_below HS.out hb); have n1_ := Aside0.mk (Kd.R_below HV.out hb); have n2_ := Aside0.mk (below_step HB.out hb); have n3_ := Aside0.mk (HBOX.out.below hb); clear HS HV HB HBOX; have HS := n0_; have HV := n1_; have HB := n2_; have HBOX := n3_; obtain ⟨x0, x1, y0, y1⟩ := HBOX.out.cells; clear n0_ n1_ n2_ n3_ he hb)
                    go_roundg k3
                    case measure => omega
                    case rel => exact ⟨j + 1, _, got', by rw [hw1], ⟨by have := HJ.out; omega⟩, ⟨by have := HG2.out; rw [HD.out, List.foldl_cons, HREC.out] at this; exact this⟩, ⟨by have := HGL.out; omega⟩, HBOX, HS, HV, HB⟩
          | succ k2 =>
            have hi : i < n := by have := HI.out; omega
            have t0 : ((st.kn : Int) + i < min (l1.length : Int) (wrap64 ((st.kn : Int) + win))) := by rw [w64 _ (by have := HOK.out.kn; have := HW2.out; omega)]; have := HN.out; have := HLT.out; omega
            have t1 := eq_true t0
            have t3 : decide (((st.kn + i : Nat) : Int) < min (l1.length : Int) (wrap64 ((st.kn : Int) + win))) = true := decide_eq_true (by rw [Int.natCast_add]; exact t0)
            have t4 : decide ((st.kn : Int) + i < min (l1.length : Int) (wrap64 ((st.kn : Int) + win))) = true := decide_eq_true t0
            have hki : st.kn + i < l1.length := by have := HN.out; omega
            have t5 : (0 ≤ ((st.kn + i : Nat) : Int)) = True := eq_true (by omega)
            have t6 : (((st.kn + i : Nat) : Int) < l1.length) = True := eq_true (by omega)
            have t7 : (0 ≤ (st.kn : Int) + i) = True := eq_true (by omega)
            have t8 : ((st.kn : Int) + i < l1.length) = True := eq_true (by omega)
            have t9 : Int.tmod ((st.kn + i : Nat) : Int) 16 = (((st.kn + i) % 16 : Nat) : Int) := by rw [Int.tmod_eq_emod_of_nonneg (by omega)]; simp
            have t10 : Int.tmod ((st.kn : Int) + i) 16 = (((st.kn + i) % 16 : Nat) : Int) := by rw [← Int.natCast_add]; exact t9
            obtain ⟨ad, Ab, cb, hA, hx, hcap, hrr⟩ := at_L2 HR1.out ((st.kn + i : Nat) : Int) (by omega) (by omega)
            subst hA
            replace hx := ((HBA.out.trans (HB.out.mono HBA.out.size)).cell (World.block_lt_of_cell? _ _ hx)).trans hx
            rw [rd_L2_get hki] at hx hcap hrr
            have HSUCC := Aside0.mk (impl_packs_succ l1 st.kn i)
            have hgd : l1.getD (st.kn + i) [] = l1[st.kn + i] := by rw [List.getD_eq_getElem?_getD, List.getElem?_eq_getElem hki]; rfl
            rw [hgd] at HSUCC
            have HPK := Aside0.mk (impl_pack 1 (((st.kn + i) % 16 : Nat) : Int) l1[st.kn + i] (.inl rfl) (by omega) (by omega) (by rw [← hgd]; exact short_getD HSH.out _) (by rw [← hgd]; exact bytesOk_getD HBO.out _))
            clear hgd
            generalize l1[st.kn + i] = b at hx hcap hrr HSUCC HPK
            have HRB := Aside0.mk hrr
            have HCB := Aside0.mk hcap
            clear hrr hcap
            rw [Int.toNat_natCast] at hx
            generalize impl_packv 1 (((st.kn + i) % 16 : Nat) : Int) b = pk at HSUCC HPK
            have HPK2 := Aside0.mk (show impl_PackLink.f 700 1 (((st.kn : Int) + i) % 16) b = some (pk, true) by have := HPK.out; simpa using this)
            have HX := Aside0.mk (impl_packs_length l1 st.kn i)
            have hw1 : wrap64 ((st.kn : Int) + i + 1) = ((st.kn + (i + 1) : Nat) : Int) := by rw [w64 _ (by have := HL.out; omega)]; simp; omega
            go_wp2_with (first
              | (go_at_call 32; (with_reducible refine (impl_PackLink.calls 700 1 _ Ab cb b pk true _ (Kd.C_below HRB.out (HBA.out.trans (HB.out.mono HBA.out.size))) HCB.out HPK2.out).mono ?_); rintro e w' ⟨ve, rfl, he, hb⟩; obtain ⟨_, hown⟩ := Kd.R_own HO.out; have n2_ := Aside0.mk (Kd.R_lower (Kd.R_mono (ok' := fun k_ => some k_ ≠ (u16 : Value).ownBlock) (Kd.R_new he hown) (fun _ hk => hk.2)) (below_size HB.out)); clear hown; have n0_ := Aside0.mk (Kd.R_below HO.out hb); have n1_ := Aside0.mk (below_step HB.out hb); clear HO HB; have HO := n0_; have HB := n1_; have HE := n2_; clear n0_ n1_ n2_ hb he; obtain ⟨Ae, ce, ee⟩ := Kd.R_slice HE.out; subst ee)
              | ((with_reducible refine gate_builtin (b := .append) (xs := #[.tmp 82, .tmp 84]) rfl ?_); at_builtin; refine Kd.R_append (Kd.slice 5 (Kd.int .u8)) (w0 := wA) wA.heap.size rfl (.tmp 82) (.tmp 84) 23 22 (.slice none 0 0) 24 rfl Try.underlying23 info22 rfl (by decide) (by omega) u16 (impl_packs l1 st.kn i) pk [(.slice Ae pk.length ce)] (fun _ => True) (fun k_ => some k_ ≠ (u16 : Value).ownBlock) rfl (by first | rfl | (show Value.slice _ 1 1 = _; simp)) ?aP (fun _ hk => ⟨trivial, hk⟩) ?aF ?aO ?aB ?aS ?aL ?_; (case aP => exact Kd.M_row HE.out); (case aB => exact (by repeat (first | (with_reducible first | exact HB.out | apply below_alloc | apply pw_below_drewN | apply below_drew1) | exact HB.out))); (case aF => exact (fun _ _ => trivial)); (case aO => exact (by (with_reducible repeat (first | apply Kd.R_alloc | apply Kd.R_drewN | apply Kd.R_drew)); exact HO.out)); (case aS => exact (below_size (by repeat (first | (with_reducible first | exact HB.out | apply below_alloc | apply pw_below_drewN | apply below_drew1) | exact HB.out)))); (case aL => have := HX.out; have := HN.out; have := HL.out; first | omega | (simp; omega) | (simp at *; omega)); intro v2 w8 ho hb hg hat; have n0_ := Aside0.mk (hb); have n1_ := Aside0.mk (ho); clear HB; clear HO; have HB := n0_; have HO2 := n1_; clear n0_ n1_; clear ho hb hg hat))
            go_roundg k2
            case measure => omega
            case rel => exact ⟨i + 1, by first | rfl | (rw [← hw1]; simp) | (rw [hw1]) | (simp; omega), ⟨by have := HI.out; omega⟩, ⟨by rw [HSUCC.out]; exact HO2.out⟩, ⟨(by repeat (first | (with_reducible first | exact HB.out | apply below_alloc | apply pw_below_drewN | apply below_drew1) | exact HB.out))⟩⟩
    · have e1 : decide ((st.kn : Int) < l1.length) = false := decide_eq_false (by omega)
      have e1n : decide (st.kn < l1.length) = false := decide_eq_false (by omega)
      have e3 : decide ((st.kn : Int) ≥ l1.length) = true := decide_eq_true (by omega)
      have e4 : decide ((l1.length : Int) ≤ st.kn) = true := decide_eq_true (by omega)
      have e5 := Aside0.mk (show decide (l1.length ≤ st.kn) = true from decide_eq_true (by omega))
      have hr : loopL win l1 l2 l3 gk st = st := loopL_stop gk hlt
      obtain rfl : st = res := hr.symm.trans HR.out
      obtain ⟨Ag, cg, rfl⟩ := Kd.S_slice HS.out
      obtain ⟨⟨x0, x1, x2, x3⟩, y0, y1, y2, y3⟩ := HBOX.out.cellsG
      obtain ⟨⟨z0, z1, z2, z3⟩, q0, q1, q2, q3⟩ := HBOX.out.cells0
      obtain ⟨u1, u2⟩ := HBOX.out.cellsS
      have hw1 : wrap64 ((st.s1 : Int) + st.s2) = ((st.s1 + st.s2 : Nat) : Int) := by rw [w64 _ (by have := HOK.out.s1; have := HOK.out.s2; have := HK.out; have := HM.out; omega)]; simp
      have hne : g ≠ G := by have := HGG.out; omega
      have hne2 : G ≠ g := by have := HGG.out; omega
      go_wp2_with fail
      refine bodyPost_ret (v := .tuple #[.agg #[.slice Ag st.got.length cg, .int .i64 st.rounds, .int .i64 ((st.s1 : Int) + st.s2), .bool (decide (l1.length ≤ st.kn))], .bool true]) ?hres rfl ?_
      case hres => exact (results_ct (p := 10) (u := 11) (ty := 28) rfl _ _ g 28 #[.slice Ag st.got.length cg, .int .i64 st.rounds, .int .i64 ((st.s1 : Int) + st.s2), .bool (decide (l1.length ≤ st.kn))] (0, 0) _ rfl (heap_set (heap_set (heap_set (heap_set (BoxL.other (BoxL.other HBOX.out.b0 G hne2 _ _) G hne2 _ _))))) Try.underlying28 rfl (by kernel_rfl))
      refine ⟨.slice Ag st.got.length cg, by rw [show ((st.s1 + st.s2 : Nat) : Int) = (st.s1 : Int) + st.s2 by simp], ?_, ?_⟩
      · have hS1 := Kd.S_set HS.out HBOX.out.b1 (by decide) 2 (.int .i64 ((st.s1 : Int) + st.s2))
        have hS2 := Kd.S_set hS1 (heap_set HBOX.out.b1) (by decide) 3 (.bool (decide (l1.length ≤ st.kn)))
        have h0 := BoxL.other (BoxL.other HBOX.out.b0 G hne2 2 (.int .i64 ((st.s1 : Int) + st.s2))) G hne2 3 (.bool (decide (l1.length ≤ st.kn)))
        exact Kd.S_set (Kd.S_set (Kd.S_set (Kd.S_set hS2 h0 (by decide) _ _) (heap_set h0) (by decide) _ _) (heap_set (heap_set h0)) (by decide) _ _) (heap_set (heap_set (heap_set h0))) (by decide) _ _
      · have hg0 := HG0.out
        exact below_set (below_set (below_set (below_set (below_set (below_set HB.out HWG.out) HWG.out) (by omega)) (by omega)) (by omega)) (by omega)
end Go.Proofs.Ytookabfmbimnoaa.Lk

namespace Go.Proofs.Ytookabfmbimnoaa.Lk
open Go.RowKit Go.Proofs.YtookabfmbimnoaaW.PrintWords Go.Proofs.YtookabfmbimnoaaW.PrintLast Go.Proofs.YtookabfmbimnoaaW.PrintMore
set_option linter.unusedVariables false
set_option linter.unusedSimpArgs false

theorem S_of_nil {α : Type} {d : Kd α} {e : Nat} {w : World} {base : Nat} {ok : Nat → Prop} {v : Value} (h : d.R e w base ok v []) : Kd.S d e w base ok v [] := by
  obtain ⟨h0, inner, ho, hr⟩ := h
  exact ⟨fun _ => 0, h0, inner, ho, hr.1, fun j p hj => by simp at hj⟩
set_option maxHeartbeats 8000000 in
set_option maxRecDepth 100000 in
theorem l5Run_ok (win : Nat) (A1 : Option Addr) (c1 : Nat) (l1 : List (List Int)) (A2 : Option Addr) (c2 : Nat) (l2 : List Int) (A3 : Option Addr) (c3 : Nat) (l3 : List Int) (m : Nat) (w : World)
    (hr1 : Kd.C (Kd.slice 5 (Kd.int .u8)) w A1 l1.length l1) (hc1 : l1.length ≤ c1) (hr2 : Kd.C (Kd.int .i64) w A2 l2.length l2) (hc2 : l2.length ≤ c2) (hr3 : Kd.C (Kd.int .i64) w A3 l3.length l3) (hc3 : l3.length ≤ c3) (h : impl_linkOk.f (win : Int) l1 l2 l3 (m : Int) = some true) (hbo : bytesOk l1 = true) :
    Calls Try.prog 37 #[.int .i64 (win : Int), .slice A1 l1.length c1, .slice A2 l2.length c2, .slice A3 l3.length c3, .int .i64 (m : Int)] w fun e w' => ∃ v0_ : Value, e = .returned (.agg #[v0_, .int .i64 ((runL win l1 l2 l3 m).rounds : Int), .int .i64 (((runL win l1 l2 l3 m).s1 + (runL win l1 l2 l3 m).s2 : Nat) : Int), .bool (decide (l1.length ≤ (runL win l1 l2 l3 m).kn))]) ∧ Kd.S (Kd.slice 5 (Kd.int .u8)) 22 w' w.heap.size (fun _ => True) v0_ (runL win l1 l2 l3 m).got ∧ Below w.heap.size w w' := by
  have h0 := Option.some.inj h
  simp only [Bool.and_eq_true, winOk, rndOk, decide_eq_true_eq] at h0
  obtain ⟨⟨hw1, hw2⟩, hl1, hsh, hf2, hf3, hm1, hm2⟩ := h0
  have HW1 := Aside0.mk (show 1 ≤ win by omega)
  have HW2 := Aside0.mk (show win ≤ 8 by omega)
  have HL := Aside0.mk hl1
  have HSH := Aside0.mk hsh
  have HF2 := Aside0.mk hf2
  have HF3 := Aside0.mk hf3
  have HM := Aside0.mk (show m ≤ 400 by omega)
  have HBO := Aside0.mk hbo
  have HR1 := Aside0.mk hr1
  have HR2 := Aside0.mk hr2
  have HR3 := Aside0.mk hr3
  have HC1 := Aside0.mk hc1
  have HC2 := Aside0.mk hc2
  have HC3 := Aside0.mk hc3
  clear hr1 hc1 hr2 hc2 hr3 hc3 h hw1 hw2 hl1 hsh hf2 hf3 hm1 hm2 hbo
  have HRUN := Aside0.mk (show runL win l1 l2 l3 m = loopL win l1 l2 l3 m ⟨[], 0, 0, 0, 0⟩ from rfl)
  generalize runL win l1 l2 l3 m = res at HRUN ⊢
  have HB := Aside0.mk (Below.refl w.heap.size w)
  go_enter Try.func37, Try.ntmps37
  go_wp2_with (first
      | ((with_reducible refine gate_dst (N := 14) rfl ?_); refine Kd.R_lit (Kd.slice 5 (Kd.int .u8)) _ 22 ?hg (N := 14) ?hd (xs := ([] : List _)) (inner := []) (ok := fun _ => True) (okp := fun _ => True) ?hr ?hp (fun _ hk => hk) trivial (Below.refl _ _) (Nat.le_refl _) (by simp) ?_; (case hd => rfl); (case hg => rfl); (case hr => first | (go_simp; done) | (go_simp; rfl)); (case hp => exact (Reps.none _ _)); intro v0 w6 ho7 hb hg_ hnew_; clear hg_ hnew_; have NB := Aside0.mk hb; have NO := Aside0.mk ho7; have n0_ := Aside0.mk (Kd.R_lower ho7 (below_size (by repeat (first | (with_reducible first | exact HB.out | apply below_alloc | apply pw_below_drewN | apply below_drew1) | exact HB.out)))); have n1_ := Aside0.mk (below_step (by repeat (first | (with_reducible first | exact HB.out | apply below_alloc | apply pw_below_drewN | apply below_drew1) | exact HB.out)) hb); clear HB; have HO0 := n0_; have HB := n1_; clear n0_ n1_; clear hb ho7; obtain ⟨Al, cl, el⟩ := Kd.R_slice HO0.out; subst el))
  clear HO0 HB
  obtain ⟨W1, hW1⟩ : ∃ W : World, W = w.alloc (.cells #[.slice none 0 0, .int .i64 0, .int .i64 0, .bool false] 28) := ⟨_, rfl⟩
  rw [← hW1] at NB NO
  have HBW := Aside0.mk (show Below w.heap.size w W1 by rw [hW1]; exact below_alloc (Below.refl _ _) _)
  have hx1 : W1.heap[w.heap.size]? = some (.cells #[.slice none 0 0, .int .i64 0, .int .i64 0, .bool false] 28 (0, 0)) := by rw [hW1]; exact blk_new _ _
  clear hW1
  generalize hg : w.heap.size = g at hx1
  have HGE := Aside0.mk (Nat.le_of_eq hg)
  have HX1 := Aside0.mk hx1
  clear hx1 hg
  have hS0 := S_of_nil NO.out
  have HXX : ∃ (W2 : World) (G : Nat), G = w6.heap.size ∧ W2 = w6.alloc (Obj.cells #[Value.slice Al 0 cl, Value.int IntKind.i64 0, Value.int IntKind.i64 0, Value.bool false, Value.int IntKind.i64 0, Value.slice A2 l2.length c2, Value.slice A3 l3.length c3] 76) ∧ g < G ∧ SBox W1 W2 G l2 l3 ⟨[], 0, 0, 0, 0⟩ := by
    refine ⟨_, _, rfl, rfl, heap_lt (blk_below HX1.out NB.out), ⟨⟨.slice Al 0 cl, .slice A2 l2.length c2, .slice A3 l3.length c3, blk_new _ _, Kd.S_alloc hS0 _, .inl ⟨A2, c2, rfl, HC2.out, Kd.C_below HR2.out HBW.out⟩, .inl ⟨A3, c3, rfl, HC3.out, Kd.C_below HR3.out HBW.out⟩⟩, NB.out.size, below_alloc NB.out _⟩⟩
  obtain ⟨W2, G, hG, hW2, hgG, hbox⟩ := HXX
  rw [← hG, ← hW2]
  have HR1W := Aside0.mk (Kd.C_below HR1.out HBW.out)
  clear hW2 hS0 NO NB HR1 HR2 HR3
  have HGG := Aside0.mk hgG
  have HBOX := Aside0.mk hbox
  clear hgG hbox hG w6
  go_loopg [33] m (fun kq v33 w' => ∃ (st : LSt), Aside0 (st.rounds + kq = m) ∧ Aside0 (loopL win l1 l2 l3 kq st = res) ∧ Aside0 (StOk st) ∧ Aside0 (SBox W1 w' G l2 l3 st))
  case atStart => exact ⟨⟨[], 0, 0, 0, 0⟩, ⟨by simp⟩, ⟨HRUN.out.symm⟩, ⟨⟨by simp, by simp, by simp, by simp⟩⟩, HBOX⟩
  case round =>
    clear HBOX HRUN
    obtain ⟨st, HK, HR, HOK, HBOX⟩ := hrel
    obtain ⟨⟨vg, vt, vb, hx, hS, hT, hV⟩, hge2, hbel⟩ := HBOX.out
    obtain ⟨⟨x0, x1, x2, x3, x4, x5, x6⟩, y0, y1, y2, y3, y4, y5, y6⟩ := cells76 hx
    have HX := Aside0.mk hx
    have HS := Aside0.mk hS
    have HT := Aside0.mk hT
    have HV := Aside0.mk hV
    have HGE2 := Aside0.mk hge2
    have HB := Aside0.mk hbel
    clear hx hS hT hV hge2 hbel HBOX
    cases gk with
    | zero =>
      have hr : loopL win l1 l2 l3 0 st = st := rfl
      have e2 : decide ((st.rounds : Int) < m) = false := decide_eq_false (by have := HK.out; omega)
      have e2n : decide (st.rounds < m) = false := decide_eq_false (by have := HK.out; omega)
      by_cases hlt : st.kn < l1.length
      · have e3 : decide ((st.kn : Int) ≥ l1.length) = false := decide_eq_false (by omega)
        have e4 : decide ((l1.length : Int) ≤ st.kn) = false := decide_eq_false (by omega)
        clear hlt
        obtain rfl : st = res := hr.symm.trans HR.out
        obtain ⟨Ag, cg, eg⟩ := Kd.S_slice HS.out
        subst eg
        have hne : g ≠ G := by have := HGG.out; omega
        have hne2 : G ≠ g := by have := HGG.out; omega
        have HXG := Aside0.mk (blk_below HX1.out HB.out)
        have z0 : wr.cell? ⟨g, 0, none⟩ = some (.slice none 0 0) := by simp [World.cell?, HXG.out]
        have z1 : wr.cell? ⟨g, 1, none⟩ = some (.int .i64 0) := by simp [World.cell?, HXG.out]
        have z2 : wr.cell? ⟨g, 2, none⟩ = some (.int .i64 0) := by simp [World.cell?, HXG.out]
        have z3 : wr.cell? ⟨g, 3, none⟩ = some (.bool false) := by simp [World.cell?, HXG.out]
        have q0 : wr.frozen? ⟨g, 0, none⟩ = false := by simp [World.frozen?, HXG.out]
        have q1 : wr.frozen? ⟨g, 1, none⟩ = false := by simp [World.frozen?, HXG.out]
        have q2 : wr.frozen? ⟨g, 2, none⟩ = false := by simp [World.frozen?, HXG.out]
        have q3 : wr.frozen? ⟨g, 3, none⟩ = false := by simp [World.frozen?, HXG.out]
        go_wp2_with fail
        refine bodyPost_ret (v := .agg #[.slice Ag st.got.length cg, .int .i64 st.rounds, .int .i64 ((st.s1 : Int) + st.s2), .bool (decide (l1.length ≤ st.kn))]) ?hres rfl ?_
        case hres => exact results_single (r := .cell 10 28) rfl (.cell g 28 #[.slice Ag st.got.length cg, .int .i64 st.rounds, .int .i64 ((st.s1 : Int) + st.s2), .bool (decide (l1.length ≤ st.kn))] (0, 0) _ rfl (heap_set (heap_set (heap_set (heap_set (BoxL.other HXG.out G hne2 _ _))))) Try.underlying28 rfl (by kernel_rfl) .nil)
        refine ⟨.slice Ag st.got.length cg, by rw [show ((st.s1 + st.s2 : Nat) : Int) = (st.s1 : Int) + st.s2 by simp], ?_, ?_⟩
        · have hS1 := Kd.S_set HS.out HX.out (by decide) 3 (.bool (decide (l1.length ≤ st.kn)))
          have h0 := BoxL.other HXG.out G hne2 3 (.bool (decide (l1.length ≤ st.kn)))
          exact Kd.S_lower (Kd.S_set (Kd.S_set (Kd.S_set (Kd.S_set hS1 h0 (by decide) _ _) (heap_set h0) (by decide) _ _) (heap_set (heap_set h0)) (by decide) _ _) (heap_set (heap_set (heap_set h0))) (by decide) _ _) HBW.out.size
        · have hB2 : Below w.heap.size w wr := below_step HBW.out HB.out
          have hgG2 := Nat.le_trans HBW.out.size HGE2.out
          exact below_set (below_set (below_set (below_set (below_set hB2 hgG2) HGE.out) HGE.out) HGE.out) HGE.out
      · have e3 : decide ((st.kn : Int) ≥ l1.length) = true := decide_eq_true (by omega)
        have e4 : decide ((l1.length : Int) ≤ st.kn) = true := decide_eq_true (by omega)
        clear hlt
        obtain rfl : st = res := hr.symm.trans HR.out
        obtain ⟨Ag, cg, eg⟩ := Kd.S_slice HS.out
        subst eg
        have hne : g ≠ G := by have := HGG.out; omega
        have hne2 : G ≠ g := by have := HGG.out; omega
        have HXG := Aside0.mk (blk_below HX1.out HB.out)
        have z0 : wr.cell? ⟨g, 0, none⟩ = some (.slice none 0 0) := by simp [World.cell?, HXG.out]
        have z1 : wr.cell? ⟨g, 1, none⟩ = some (.int .i64 0) := by simp [World.cell?, HXG.out]
        have z2 : wr.cell? ⟨g, 2, none⟩ = some (.int .i64 0) := by simp [World.cell?, HXG.out]
        have z3 : wr.cell? ⟨g, 3, none⟩ = some (.bool false) := by simp [World.cell?, HXG.out]
        have q0 : wr.frozen? ⟨g, 0, none⟩ = false := by simp [World.frozen?, HXG.out]
        have q1 : wr.frozen? ⟨g, 1, none⟩ = false := by simp [World.frozen?, HXG.out]
        have q2 : wr.frozen? ⟨g, 2, none⟩ = false := by simp [World.frozen?, HXG.out]
        have q3 : wr.frozen? ⟨g, 3, none⟩ = false := by simp [World.frozen?, HXG.out]
        go_wp2_with fail
        refine bodyPost_ret (v := .agg #[.slice Ag st.got.length cg, .int .i64 st.rounds, .int .i64 ((st.s1 : Int) + st.s2), .bool (decide (l1.length ≤ st.kn))]) ?hres rfl ?_
        case hres => exact results_single (r := .cell 10 28) rfl (.cell g 28 #[.slice Ag st.got.length cg, .int .i64 st.rounds, .int .i64 ((st.s1 : Int) + st.s2), .bool (decide (l1.length ≤ st.kn))] (0, 0) _ rfl (heap_set (heap_set (heap_set (heap_set (BoxL.other HXG.out G hne2 _ _))))) Try.underlying28 rfl (by kernel_rfl) .nil)
        refine ⟨.slice Ag st.got.length cg, by rw [show ((st.s1 + st.s2 : Nat) : Int) = (st.s1 : Int) + st.s2 by simp], ?_, ?_⟩
        · have hS1 := Kd.S_set HS.out HX.out (by decide) 3 (.bool (decide (l1.length ≤ st.kn)))
          have h0 := BoxL.other HXG.out G hne2 3 (.bool (decide (l1.length ≤ st.kn)))
          exact Kd.S_lower (Kd.S_set (Kd.S_set (Kd.S_set (Kd.S_set hS1 h0 (by decide) _ _) (heap_set h0) (by decide) _ _) (heap_set (heap_set h0)) (by decide) _ _) (heap_set (heap_set (heap_set h0))) (by decide) _ _) HBW.out.size
        · have hB2 : Below w.heap.size w wr := below_step HBW.out HB.out
          have hgG2 := Nat.le_trans HBW.out.size HGE2.out
          exact below_set (below_set (below_set (below_set (below_set hB2 hgG2) HGE.out) HGE.out) HGE.out) HGE.out
    | succ k1 =>
      have e2 : decide ((st.rounds : Int) < m) = true := decide_eq_true (by have := HK.out; omega)
      have e2n : decide (st.rounds < m) = true := decide_eq_true (by have := HK.out; omega)
      by_cases hlt : st.kn < l1.length
      · have e1 : decide ((st.kn : Int) < l1.length) = true := decide_eq_true (by omega)
        have e1n : decide (st.kn < l1.length) = true := decide_eq_true (by omega)
        have HLT := Aside0.mk hlt
        clear hlt
        have hw1 : wrap64 ((st.rounds : Int) + 1) = ((st.rounds + 1 : Nat) : Int) := by rw [w64 _ (by have := HK.out; have := HM.out; omega)]; simp
        go_wp2_with fail
        have hsb : SBox W1 (wr.setCell ⟨G, 1, none⟩ (.int .i64 ((st.rounds : Int) + 1))) G l2 l3 { st with rounds := st.rounds + 1 } := by
          refine ⟨⟨vg, vt, vb, ?_, Kd.S_set HS.out HX.out (by decide) _ _, HT.out.set HX.out (by decide) _ _, HV.out.set HX.out (by decide) _ _⟩, HGE2.out, below_set HB.out HGE2.out⟩
          rw [heap_set HX.out]
          show some (Obj.cells _ 76 (0, 0)) = _
          simp
        refine (send_ok G win A1 c1 l1 l2 l3 { st with rounds := st.rounds + 1 } W1 _ HR1W.out HC1.out hsb ⟨HLT.out, HL.out, HW1.out, HW2.out, by show st.rounds + 1 ≤ 400; have := HK.out; have := HM.out; omega, by show st.s1 ≤ _; have := HOK.out.s1; have := HK.out; have := HM.out; omega, by show st.s2 ≤ _; have := HOK.out.s2; have := HK.out; have := HM.out; omega, by show st.got.length ≤ _; have := HOK.out.got; have := HK.out; have := HM.out; omega⟩ HF2.out HSH.out HBO.out).mono ?_
        rintro e w' ⟨rfl, hsb2⟩
        clear hsb
        have HSB2 := Aside0.mk hsb2
        clear hsb2
        go_wp2_with fail
        refine (answer_ok G win l2 l3 _ W1 _ HSB2.out (by show st.kn ≤ 60; have := HLT.out; have := HL.out; omega) HW2.out (by show st.s1 + sentN win l1.length st.kn ≤ _; have : sentN win l1.length st.kn ≤ win := by { unfold sentN; omega }; have := HW2.out; have := HOK.out.s1; have := HK.out; have := HM.out; omega) (by show st.s2 ≤ _; have := HOK.out.s2; have := HK.out; have := HM.out; omega) HF3.out).mono ?_
        rintro e w2 ⟨rfl, hsb3⟩
        clear HSB2
        have HSB3 := Aside0.mk (show SBox W1 w2 G l2 l3 (stepL win l1 l2 l3 st) from hsb3)
        clear hsb3
        go_wp2_with fail
        go_roundg k1
        case measure => omega
        case rel => exact ⟨stepL win l1 l2 l3 st, ⟨by have := HK.out; show st.rounds + 1 + k1 = m; omega⟩, ⟨by rw [← loopL_go _ HLT.out]; exact HR.out⟩, ⟨stepL_ok HW2.out HL.out HLT.out HOK.out⟩, HSB3⟩
      · have e1 : decide ((st.kn : Int) < l1.length) = false := decide_eq_false (by omega)
        have e1n : decide (st.kn < l1.length) = false := decide_eq_false (by omega)
        have e3 : decide ((st.kn : Int) ≥ l1.length) = true := decide_eq_true (by omega)
        have e4 : decide ((l1.length : Int) ≤ st.kn) = true := decide_eq_true (by omega)
        have hr : loopL win l1 l2 l3 (k1 + 1) st = st := loopL_stop (k1 + 1) hlt
        clear hlt
        obtain rfl : st = res := hr.symm.trans HR.out
        obtain ⟨Ag, cg, eg⟩ := Kd.S_slice HS.out
        subst eg
        have hne : g ≠ G := by have := HGG.out; omega
        have hne2 : G ≠ g := by have := HGG.out; omega
        have HXG := Aside0.mk (blk_below HX1.out HB.out)
        have z0 : wr.cell? ⟨g, 0, none⟩ = some (.slice none 0 0) := by simp [World.cell?, HXG.out]
        have z1 : wr.cell? ⟨g, 1, none⟩ = some (.int .i64 0) := by simp [World.cell?, HXG.out]
        have z2 : wr.cell? ⟨g, 2, none⟩ = some (.int .i64 0) := by simp [World.cell?, HXG.out]
        have z3 : wr.cell? ⟨g, 3, none⟩ = some (.bool false) := by simp [World.cell?, HXG.out]
        have q0 : wr.frozen? ⟨g, 0, none⟩ = false := by simp [World.frozen?, HXG.out]
        have q1 : wr.frozen? ⟨g, 1, none⟩ = false := by simp [World.frozen?, HXG.out]
        have q2 : wr.frozen? ⟨g, 2, none⟩ = false := by simp [World.frozen?, HXG.out]
        have q3 : wr.frozen? ⟨g, 3, none⟩ = false := by simp [World.frozen?, HXG.out]
        go_wp2_with fail
        refine bodyPost_ret (v := .agg #[.slice Ag st.got.length cg, .int .i64 st.rounds, .int .i64 ((st.s1 : Int) + st.s2), .bool (decide (l1.length ≤ st.kn))]) ?hres rfl ?_
        case hres => exact results_single (r := .cell 10 28) rfl (.cell g 28 #[.slice Ag st.got.length cg, .int .i64 st.rounds, .int .i64 ((st.s1 : Int) + st.s2), .bool (decide (l1.length ≤ st.kn))] (0, 0) _ rfl (heap_set (heap_set (heap_set (heap_set (BoxL.other HXG.out G hne2 _ _))))) Try.underlying28 rfl (by kernel_rfl) .nil)
        refine ⟨.slice Ag st.got.length cg, by rw [show ((st.s1 + st.s2 : Nat) : Int) = (st.s1 : Int) + st.s2 by simp], ?_, ?_⟩
        · have hS1 := Kd.S_set HS.out HX.out (by decide) 3 (.bool (decide (l1.length ≤ st.kn)))
          have h0 := BoxL.other HXG.out G hne2 3 (.bool (decide (l1.length ≤ st.kn)))
          exact Kd.S_lower (Kd.S_set (Kd.S_set (Kd.S_set (Kd.S_set hS1 h0 (by decide) _ _) (heap_set h0) (by decide) _ _) (heap_set (heap_set h0)) (by decide) _ _) (heap_set (heap_set (heap_set h0))) (by decide) _ _) HBW.out.size
        · have hB2 : Below w.heap.size w wr := below_step HBW.out HB.out
          have hgG2 := Nat.le_trans HBW.out.size HGE2.out
          exact below_set (below_set (below_set (below_set (below_set hB2 hgG2) HGE.out) HGE.out) HGE.out) HGE.out
end Go.Proofs.Ytookabfmbimnoaa.Lk

namespace Go.Proofs.Ytookabfmbimnoaa.Lk
open Go.RowKit Go.Proofs.YtookabfmbimnoaaW.PrintWords Go.Proofs.YtookabfmbimnoaaW.PrintLast Go.Proofs.YtookabfmbimnoaaW.PrintMore
set_option linter.unusedVariables false
set_option linter.unusedSimpArgs false

def linkB (a0 : Int) (l1 : List (List Int)) (l2 l3 : List Int) (a4 : Int) : Bool := winOk a0 && (decide (l1.length ≤ 60) && (l1.all shortB && (fatesOk l2 && (fatesOk l3 && rndOk a4))))
def runR (a0 : Int) (l1 : List (List Int)) (l2 l3 : List Int) (a4 : Int) : LSt := runL a0.toNat l1 l2 l3 a4.toNat
def impl_RunLink.f (_k : Nat) (a0 : Int) (l1 : List (List Int)) (l2 l3 : List Int) (a4 : Int) : Option (List (List Int) × Int × Int × Bool × Bool) :=
  if bytesOk l1 = true then (if linkB a0 l1 l2 l3 a4 = true then some ((runR a0 l1 l2 l3 a4).got, ((runR a0 l1 l2 l3 a4).rounds : Int), (((runR a0 l1 l2 l3 a4).s1 + (runR a0 l1 l2 l3 a4).s2 : Nat) : Int), decide (l1.length ≤ (runR a0 l1 l2 l3 a4).kn), true) else some ([], 0, 0, false, false)) else none
theorem linkB_win {a0 : Int} {l1 : List (List Int)} {l2 l3 : List Int} {a4 : Int} (h : linkB a0 l1 l2 l3 a4 = true) : 0 ≤ a0 ∧ 0 ≤ a4 := by
  simp only [linkB, Bool.and_eq_true, winOk, rndOk, decide_eq_true_eq] at h
  omega
theorem impl_RunLink.calls (k : Nat) (a0 : Int) (A1 : Option Addr) (c1 : Nat) (l1 : List (List Int)) (A2 : Option Addr) (c2 : Nat) (l2 : List Int) (A3 : Option Addr) (c3 : Nat) (l3 : List Int) (a4 : Int) (r1 : List (List Int)) (r2 r3 : Int) (r4 r5 : Bool) (w : World)
    (hr1 : Kd.C (Kd.slice 5 (Kd.int .u8)) w A1 l1.length l1) (hc1 : l1.length ≤ c1) (hr2 : Kd.C (Kd.int .i64) w A2 l2.length l2) (hc2 : l2.length ≤ c2) (hr3 : Kd.C (Kd.int .i64) w A3 l3.length l3) (hc3 : l3.length ≤ c3) (h : impl_RunLink.f k a0 l1 l2 l3 a4 = some (r1, r2, r3, r4, r5)) :
    Calls Try.prog 10 #[.int .i64 a0, .slice A1 l1.length c1, .slice A2 l2.length c2, .slice A3 l3.length c3, .int .i64 a4] w fun e w' => ∃ v0_ : Value, e = .returned (.tuple #[.agg #[v0_, .int .i64 r2, .int .i64 r3, .bool r4], .bool r5]) ∧ Kd.S (Kd.slice 5 (Kd.int .u8)) 22 w' w.heap.size (fun _ => True) v0_ r1 ∧ Below w.heap.size w w' := by
  unfold impl_RunLink.f at h
  by_cases hb : bytesOk l1 = true
  case neg => rw [if_neg hb] at h; cases h
  rw [if_pos hb] at h
  by_cases hl : linkB a0 l1 l2 l3 a4 = true
  · rw [if_pos hl] at h
    have h := Option.some.inj h
    simp only [Prod.mk.injEq] at h
    obtain ⟨rfl, rfl, rfl, rfl, rfl⟩ := h
    obtain ⟨h0, h4⟩ := linkB_win hl
    obtain ⟨win, rfl⟩ := Int.eq_ofNat_of_zero_le h0
    obtain ⟨m, rfl⟩ := Int.eq_ofNat_of_zero_le h4
    exact RunLink_yes win A1 c1 l1 A2 c2 l2 A3 c3 l3 m w hr1 hc1 hr2 hc2 hr3 hc3 (congrArg some hl) hb
  · rw [if_neg hl] at h
    have h := Option.some.inj h
    simp only [Prod.mk.injEq] at h
    obtain ⟨rfl, rfl, rfl, rfl, rfl⟩ := h
    refine (RunLink_no a0 A1 c1 l1 A2 c2 l2 A3 c3 l3 a4 w hr1 hc1 hr2 hc2 hr3 hc3 (congrArg some (Bool.eq_false_iff.mpr hl))).mono ?_
    rintro e w' ⟨rfl, hbw⟩
    exact ⟨_, rfl, Kd.S_nil _ _ _ _ _, hbw⟩
def spec_l5Run.f (_k : Nat) (a0 : Int) (l1 : List (List Int)) (l2 l3 : List Int) (a4 : Int) : Option (List (List Int) × Int × Int × Bool) :=
  if bytesOk l1 = true ∧ linkB a0 l1 l2 l3 a4 = true then some ((runR a0 l1 l2 l3 a4).got, ((runR a0 l1 l2 l3 a4).rounds : Int), (((runR a0 l1 l2 l3 a4).s1 + (runR a0 l1 l2 l3 a4).s2 : Nat) : Int), decide (l1.length ≤ (runR a0 l1 l2 l3 a4).kn)) else none
theorem spec_l5Run.calls (k : Nat) (a0 : Int) (A1 : Option Addr) (c1 : Nat) (l1 : List (List Int)) (A2 : Option Addr) (c2 : Nat) (l2 : List Int) (A3 : Option Addr) (c3 : Nat) (l3 : List Int) (a4 : Int) (r1 : List (List Int)) (r2 r3 : Int) (r4 : Bool) (w : World)
    (hr1 : Kd.C (Kd.slice 5 (Kd.int .u8)) w A1 l1.length l1) (hc1 : l1.length ≤ c1) (hr2 : Kd.C (Kd.int .i64) w A2 l2.length l2) (hc2 : l2.length ≤ c2) (hr3 : Kd.C (Kd.int .i64) w A3 l3.length l3) (hc3 : l3.length ≤ c3) (h : spec_l5Run.f k a0 l1 l2 l3 a4 = some (r1, r2, r3, r4)) :
    Calls Try.prog 37 #[.int .i64 a0, .slice A1 l1.length c1, .slice A2 l2.length c2, .slice A3 l3.length c3, .int .i64 a4] w fun e w' => ∃ v0_ : Value, e = .returned (.agg #[v0_, .int .i64 r2, .int .i64 r3, .bool r4]) ∧ Kd.S (Kd.slice 5 (Kd.int .u8)) 22 w' w.heap.size (fun _ => True) v0_ r1 ∧ Below w.heap.size w w' := by
  unfold spec_l5Run.f at h
  by_cases hc : bytesOk l1 = true ∧ linkB a0 l1 l2 l3 a4 = true
  case neg => rw [if_neg hc] at h; cases h
  rw [if_pos hc] at h
  have h := Option.some.inj h
  simp only [Prod.mk.injEq] at h
  obtain ⟨rfl, rfl, rfl, rfl⟩ := h
  obtain ⟨h0, h4⟩ := linkB_win hc.2
  obtain ⟨win, rfl⟩ := Int.eq_ofNat_of_zero_le h0
  obtain ⟨m, rfl⟩ := Int.eq_ofNat_of_zero_le h4
  exact l5Run_ok win A1 c1 l1 A2 c2 l2 A3 c3 l3 m w hr1 hc1 hr2 hc2 hr3 hc3 (congrArg some hc.2) hc.1
end Go.Proofs.Ytookabfmbimnoaa.Lk

namespace Go.Proofs.Ytookabfmbimnoaa.Lk
open Go.RowKit Go.Proofs.YtookabfmbimnoaaW.PrintWords Go.Proofs.YtookabfmbimnoaaW.PrintLast Go.Proofs.YtookabfmbimnoaaW.PrintMore
set_option linter.unusedVariables false
set_option linter.unusedSimpArgs false

theorem specFatesG (l : List Int) (hl : l.length ≤ 9223372036854775807) : ∀ (m i k : Nat), i + m = l.length → m + 1 ≤ k → spec_FatesValid.l0 k l (i : Int) = some (decide (l.length ≤ 200) && (l.drop i).all fateOk)
  | m, i, 0, hi, hk => by omega
  | 0, i, k + 1, hi, hk => by
    rw [spec_FatesValid.l0, if_neg (by omega), List.drop_eq_nil_of_le (by omega)]
    simp only [List.all_nil, Bool.and_true, Option.some.injEq, decide_eq_decide]
    omega
  | m + 1, i, k + 1, hi, hk => by
    have e : wrap64 ((i : Int) + 1) = ((i + 1 : Nat) : Int) := by rw [w64 _ (by omega)]; simp
    have hil : i < l.length := by omega
    have hr : rd l (i : Int) = l[i] := by
      show l.getD _ 0 = _
      rw [List.getD_eq_getElem?_getD, Int.toNat_natCast, List.getElem?_eq_getElem hil]
      rfl
    have hd : l.drop i = l[i] :: l.drop (i + 1) := List.drop_eq_getElem_cons hil
    have e2 : spec_l1In.f l[i] 0 4 = some (fateOk l[i]) := by
      unfold spec_l1In.f fateOk
      by_cases h : l[i] ≥ 0
      · rw [if_pos h, decide_eq_true h]; rfl
      · rw [if_neg h, decide_eq_false h]; rfl
    rw [spec_FatesValid.l0, if_pos (by omega), if_pos (by omega), hr, e2, Option.bind_some, hd, List.all_cons]
    cases h : fateOk l[i] with
    | true => rw [if_pos rfl, e, specFatesG l hl m (i + 1) k (by omega) (by omega), Bool.true_and]
    | false => rw [if_neg (by simp), Bool.false_and, Bool.and_false]
theorem specIn_ok (n lo hi : Int) : spec_l1In.f n lo hi = some (decide (lo ≤ n) && decide (n ≤ hi)) := by
  unfold spec_l1In.f
  by_cases h : n ≥ lo
  · rw [if_pos h, decide_eq_true h]; rfl
  · rw [if_neg h, decide_eq_false h]; rfl

end Go.Proofs.Ytookabfmbimnoaa.Lk

namespace Go.Proofs.Ytookabfmbimnoaa.Lk
open Go.RowKit Go.Proofs.YtookabfmbimnoaaW.PrintWords Go.Proofs.YtookabfmbimnoaaW.PrintLast Go.Proofs.YtookabfmbimnoaaW.PrintMore
set_option linter.unusedVariables false
set_option linter.unusedSimpArgs false

def laws_wnTexts.f (_k : Nat) (l m : List (List Int)) : Option Bool := if l = m then some true else none
set_option maxHeartbeats 8000000 in
set_option maxRecDepth 100000 in
theorem laws_wnTexts.calls (k : Nat) (A0 : Option Addr) (c0 : Nat) (l0 : List (List Int)) (A1 : Option Addr) (c1 : Nat) (l1 : List (List Int)) (r : Bool) (w : World) (hr0 : Kd.C (Kd.slice 5 (Kd.int .u8)) w A0 l0.length l0) (hc0 : l0.length ≤ c0) (hr1 : Kd.C (Kd.slice 5 (Kd.int .u8)) w A1 l1.length l1) (hc1 : l1.length ≤ c1) (h : laws_wnTexts.f k l0 l1 = some r) :
    Calls Try.prog 20 #[.slice A0 l0.length c0, .slice A1 l1.length c1] w fun e w' => e = .returned (.bool r) ∧ Below w.heap.size w w' := by
  unfold laws_wnTexts.f at h
  by_cases he : l0 = l1
  case neg => rw [if_neg he] at h; cases h
  rw [if_pos he] at h
  subst he
  obtain rfl := Option.some.inj h
  clear h hc0 hc1
  have HR0 := Aside0.mk hr0
  have HR1 := Aside0.mk hr1
  have hbig : l0.length ≤ 9223372036854775807 := hr0.2.1
  clear hr0 hr1
  have HB := Aside0.mk (Below.refl w.heap.size w)
  go_enter Try.func20, Try.ntmps20
  go_wp2
  go_loopg [14] l0.length (fun kq v14 w' => ∃ j : Nat, v14 = .int .i64 (j : Int) ∧ Aside0 (j + kq = l0.length) ∧ Aside0 (Below w.heap.size w w'))
  case atStart => exact ⟨0, rfl, ⟨by omega⟩, ⟨(by repeat (first | (with_reducible first | exact HB.out | apply below_alloc | apply pw_below_drewN | apply below_drew1) | exact HB.out))⟩⟩
  case round =>
    clear HB
    obtain ⟨j, rfl, HJ, HB⟩ := hrel
    cases gk with
    | zero =>
      have hj : j = l0.length := by have := HJ.out; omega
      subst hj
      have c1 : decide ((l0.length : Int) < l0.length) = false := decide_eq_false (by omega)
      go_wp2
      go_ret
      exact ⟨rfl, (by repeat (first | (with_reducible first | exact HB.out | apply below_alloc | apply pw_below_drewN | apply below_drew1) | exact HB.out))⟩
    | succ k1 =>
      have hj : j < l0.length := by have := HJ.out; omega
      have c1 : decide ((j : Int) < l0.length) = true := decide_eq_true (by omega)
      have c2 : ((0 : Int) ≤ (j : Int)) = True := eq_true (by omega)
      have c3 : ((j : Int) < l0.length) = True := eq_true (by omega)
      obtain ⟨ad, Aj, cj, hA, hx, hcj, hrj⟩ := at_L2 (Kd.C_below HR0.out HB.out) (j : Int) (by omega) (by omega)
      subst hA
      obtain ⟨ad2, Bj, dj, hA2, hx2, hdj, hsj⟩ := at_L2 (Kd.C_below HR1.out HB.out) (j : Int) (by omega) (by omega)
      subst hA2
      rw [Int.toNat_natCast] at hx hx2
      generalize rd_L2 l0 (j : Int) = row at hx hx2 hrj hsj
      have hv1 : ∀ m, (convert 22 9 (.slice Aj row.length cj)).run Try.prog (wr.drewN m) = .ok (.string (strOfNums row)) (wr.drewN m) := fun m => Kd.C_string Try.underlying22 Try.underlying5 Try.underlying9 (Kd.C_drewN hrj m)
      have hv2 : ∀ m, (convert 22 9 (.slice Bj row.length dj)).run Try.prog (wr.drewN m) = .ok (.string (strOfNums row)) (wr.drewN m) := fun m => Kd.C_string Try.underlying22 Try.underlying5 Try.underlying9 (Kd.C_drewN hsj m)
      clear hrj hsj hcj hdj
      go_wp2
      go_quiet (fail)
      go_wp2
      go_roundg k1
      case measure => omega
      case rel => exact ⟨j + 1, by go_num, ⟨by have := HJ.out; omega⟩, ⟨(by repeat (first | (with_reducible first | exact HB.out | apply below_alloc | apply pw_below_drewN | apply below_drew1) | exact HB.out))⟩⟩
end Go.Proofs.Ytookabfmbimnoaa.Lk

namespace Go.Proofs.Ytookabfmbimnoaa.Lk
open Go.RowKit Go.Proofs.YtookabfmbimnoaaW.PrintWords Go.Proofs.YtookabfmbimnoaaW.PrintLast Go.Proofs.YtookabfmbimnoaaW.PrintMore
attribute [local go_sem] max2_int min2_int max_two min_two max_three min_three max_four min_four   -- for this text's walks alone
set_option linter.unusedVariables false
set_option linter.unusedSimpArgs false

def spec_LinkRounds.f (k : Nat) (a0 : Int) (l1 : List (List Int)) (l2 : List Int) (l3 : List Int) : Option (Int) := (spec_l5Link.f k a0 l1 l2 l3).bind fun t454 => (if t454 = true then ((spec_l5Run.f k a0 l1 l2 l3 400).bind fun bt455 => (if bt455.2.2.2 = true then (some bt455.2.1) else (some (-1)))) else (some (-1)))
set_option maxHeartbeats 8000000 in
set_option maxRecDepth 100000 in
theorem spec_LinkRounds.calls (k : Nat) (a0 : Int) (A1 : Option Addr) (c1 : Nat) (l1 : List (List Int)) (A2 : Option Addr) (c2 : Nat) (l2 : List Int) (A3 : Option Addr) (c3 : Nat) (l3 : List Int) (r : Int) (w : World) (hr1 : Kd.C (Kd.slice 5 (Kd.int .u8)) w A1 l1.length l1) (hc1 : l1.length ≤ c1) (hr2 : Kd.C (Kd.int .i64) w A2 l2.length l2) (hc2 : l2.length ≤ c2) (hr3 : Kd.C (Kd.int .i64) w A3 l3.length l3) (hc3 : l3.length ≤ c3) (h : spec_LinkRounds.f k a0 l1 l2 l3 = some r) :
    Calls Try.prog 13 #[.int .i64 a0, .slice A1 l1.length c1, .slice A2 l2.length c2, .slice A3 l3.length c3] w fun e w' => e = .returned (.int .i64 r) ∧ Below w.heap.size w w' := by
  have hu28 := Try.underlying28
  have HR1 := Aside0.mk hr1
  have HC1 := Aside0.mk hc1
  clear hr1 hc1
  have HR2 := Aside0.mk hr2
  have HC2 := Aside0.mk hc2
  clear hr2 hc2
  have HR3 := Aside0.mk hr3
  have HC3 := Aside0.mk hc3
  clear hr3 hc3
  have HB := Aside0.mk (Below.refl w.heap.size w)
  have H : ((spec_l5Link.f k a0 l1 l2 l3).bind fun t454 => (if t454 = true then ((spec_l5Run.f k a0 l1 l2 l3 400).bind fun bt455 => (if bt455.2.2.2 = true then (some bt455.2.1) else (some (-1)))) else (some (-1)))) = some r := h
  clear h
  replace H := Option.bind_eq_some_iff.mp H
  obtain ⟨t454, A50, H⟩ := H
  replace H : (if t454 = true then ((spec_l5Run.f k a0 l1 l2 l3 400).bind fun bt455 => (if bt455.2.2.2 = true then (some bt455.2.1) else (some (-1)))) else (some (-1))) = some r := H
  have A5 := Aside0.mk A50
  clear A50
  by_cases c6 : t454 = true
  · subst c6
    have H1 : ((spec_l5Run.f k a0 l1 l2 l3 400).bind fun bt455 => (if bt455.2.2.2 = true then (some bt455.2.1) else (some (-1)))) = some r := by rw [if_pos rfl] at H; exact H
    clear H
    have H := H1
    clear H1
    replace H := Option.bind_eq_some_iff.mp H
    obtain ⟨⟨t455, t458, t459, t460⟩, A70, H⟩ := H
    replace H : (if t460 = true then (some t458) else (some (-1))) = some r := H
    have A7 := Aside0.mk A70
    clear A70
    by_cases c8 : t460 = true
    · subst c8
      have H1 : (some t458) = some r := by rw [if_pos rfl] at H; exact H
      clear H
      have H := H1
      clear H1
      obtain rfl := Option.some.inj H
      go_enter Try.func13, Try.ntmps13
      go_wp2_with (first | ((with_reducible refine gate_callee (f := 35) rfl ?_); refine goesL_ (some 14) rfl rfl Try.func35 (by kernel_rfl) rfl #[.int .i64 a0, .slice A1 l1.length c1, .slice A2 l2.length c2, .slice A3 l3.length c3] rfl (by (try simp only [List.map_toArray, List.map_cons, List.map_nil]); first | done | rfl | (simp only [List.length_drop, List.length_take]; rfl)) ?_; (with_reducible refine (spec_l5Link.calls k a0 _ _ l1 _ _ l2 _ _ l3 true _ ?side1 ?side2 ?side3 ?side4 ?side5 ?side6 A5.out).mono ?_); (case side1 => repeat (first | exact HR1.out | (with_reducible refine Kd.C_alloc ?_ _) | (with_reducible refine Kd.C_drewN ?_ _) | (with_reducible refine Kd.C_drew ?_))); (case side2 => exact HC1.out); (case side3 => repeat (first | exact HR2.out | (with_reducible refine Kd.C_alloc ?_ _) | (with_reducible refine Kd.C_drewN ?_ _) | (with_reducible refine Kd.C_drew ?_))); (case side4 => exact HC2.out); (case side5 => repeat (first | exact HR3.out | (with_reducible refine Kd.C_alloc ?_ _) | (with_reducible refine Kd.C_drewN ?_ _) | (with_reducible refine Kd.C_drew ?_))); (case side6 => exact HC3.out); rintro e w' ⟨rfl, ⟨nd, rfl⟩⟩; refine ⟨_, rfl, ?_⟩) | ((with_reducible refine gate_callee (f := 37) rfl ?_); refine goesL_ (some 20) rfl rfl Try.func37 (by kernel_rfl) rfl #[.int .i64 a0, .slice A1 l1.length c1, .slice A2 l2.length c2, .slice A3 l3.length c3, .int .i64 400] rfl (by (try simp only [List.map_toArray, List.map_cons, List.map_nil]); first | done | rfl | (simp only [List.length_drop, List.length_take]; rfl)) ?_; (with_reducible refine (spec_l5Run.calls k a0 _ _ l1 _ _ l2 _ _ l3 400 t455 t458 t459 true _ ?side1 ?side2 ?side3 ?side4 ?side5 ?side6 A7.out).mono ?_); (case side1 => repeat (first | exact HR1.out | (with_reducible refine Kd.C_alloc ?_ _) | (with_reducible refine Kd.C_drewN ?_ _) | (with_reducible refine Kd.C_drew ?_))); (case side2 => exact HC1.out); (case side3 => repeat (first | exact HR2.out | (with_reducible refine Kd.C_alloc ?_ _) | (with_reducible refine Kd.C_drewN ?_ _) | (with_reducible refine Kd.C_drew ?_))); (case side4 => exact HC2.out); (case side5 => repeat (first | exact HR3.out | (with_reducible refine Kd.C_alloc ?_ _) | (with_reducible refine Kd.C_drewN ?_ _) | (with_reducible refine Kd.C_drew ?_))); (case side6 => exact HC3.out); rintro e w9 ⟨v456, rfl, ho0, hb⟩; refine ⟨_, rfl, ?_⟩; have n0_ := Aside0.mk (Kd.S_lower ho0 (below_size (by repeat (first | (with_reducible first | exact HB.out | apply below_alloc | apply pw_below_drewN | apply below_drew1) | exact HB.out)))); have n1_ := Aside0.mk (below_step (by repeat (first | (with_reducible first | exact HB.out | apply below_alloc | apply pw_below_drewN | apply below_drew1) | exact HB.out)) hb); clear HB; have HO457 := n0_; have HB := n1_; clear n0_ n1_; (try clear hb); (try clear hb2); (try clear hk); (try clear hi); (try clear ho0)) | ((with_reducible refine gate_dst (N := 9) rfl ?_); refine box_event ?hg (N := 9) ?hd (cs := #[.slice none 0 0, .int .i64 0, .int .i64 0, .bool false]) (t := 28) ?hr ?_; (case hd => rfl); (case hg => rfl); (case hr => first | (go_simp; done) | (go_simp; rfl)); intro gb461 hg w10 hbox hb; have n0_ := Aside0.mk (Kd.S_below (by (with_reducible repeat (first | apply Kd.S_alloc | apply Kd.S_drewN | apply Kd.S_drew)); exact HO457.out) hb); have n1_ := Aside0.mk (below_step (by repeat (first | (with_reducible first | exact HB.out | apply below_alloc | apply pw_below_drewN | apply below_drew1) | exact HB.out)) hb); have n2_ := Aside0.mk (hbox); have n3_ := Aside0.mk ((by rw [hg]; exact (below_size (by repeat (first | (with_reducible first | exact HB.out | apply below_alloc | apply pw_below_drewN | apply below_drew1) | exact HB.out))) : w.heap.size ≤ gb461)); have n4_ := Aside0.mk ((by rw [hg]; exact (below_size (by repeat (first | (with_reducible first | exact HB.out | apply below_alloc | apply pw_below_drewN | apply below_drew1) | exact HB.out))) : w.heap.size ≤ gb461)); clear HO457; clear HB; have HO457 := n0_; have HB := n1_; have BK461 := n2_; have GW461 := n3_; have GE461 := n4_; clear n0_ n1_ n2_ n3_ n4_; clear hb hbox hg; obtain ⟨Ao11, co11, eo11⟩ := Kd.S_slice HO457.out; subst eo11; have hcz12_0 : w10.cell? ⟨gb461, 0, none⟩ = some (.slice none 0 0) := (blk_cell BK461.out 0).trans rfl; have hcz12_1 : w10.cell? ⟨gb461, 1, none⟩ = some (.int .i64 0) := (blk_cell BK461.out 1).trans rfl; have hcz12_2 : w10.cell? ⟨gb461, 2, none⟩ = some (.int .i64 0) := (blk_cell BK461.out 2).trans rfl; have hcz12_3 : w10.cell? ⟨gb461, 3, none⟩ = some (.bool false) := (blk_cell BK461.out 3).trans rfl; have hfz12_0 := blk_frozen BK461.out 0; have hfz12_1 := blk_frozen BK461.out 1; have hfz12_2 := blk_frozen BK461.out 2; have hfz12_3 := blk_frozen BK461.out 3))
      go_ret
      exact ⟨by first | rfl | (simp [errW_none, errW_some] <;> rfl) | (simp [*, errW_none, errW_some] <;> rfl), by repeat (first | (with_reducible first | exact HB.out | apply below_alloc | apply pw_below_drewN | apply below_drew1 | refine below_set ?_ GE461.out) | exact HB.out)⟩
    · replace c8 := Bool.eq_false_iff.mpr c8
      subst c8
      have H1 : (some (-1)) = some r := by rw [if_neg (show ¬ (false = true) by decide)] at H; exact H
      clear H
      have H := H1
      clear H1
      obtain rfl := Option.some.inj H
      go_enter Try.func13, Try.ntmps13
      go_wp2_with (first | ((with_reducible refine gate_callee (f := 35) rfl ?_); refine goesL_ (some 14) rfl rfl Try.func35 (by kernel_rfl) rfl #[.int .i64 a0, .slice A1 l1.length c1, .slice A2 l2.length c2, .slice A3 l3.length c3] rfl (by (try simp only [List.map_toArray, List.map_cons, List.map_nil]); first | done | rfl | (simp only [List.length_drop, List.length_take]; rfl)) ?_; (with_reducible refine (spec_l5Link.calls k a0 _ _ l1 _ _ l2 _ _ l3 true _ ?side1 ?side2 ?side3 ?side4 ?side5 ?side6 A5.out).mono ?_); (case side1 => repeat (first | exact HR1.out | (with_reducible refine Kd.C_alloc ?_ _) | (with_reducible refine Kd.C_drewN ?_ _) | (with_reducible refine Kd.C_drew ?_))); (case side2 => exact HC1.out); (case side3 => repeat (first | exact HR2.out | (with_reducible refine Kd.C_alloc ?_ _) | (with_reducible refine Kd.C_drewN ?_ _) | (with_reducible refine Kd.C_drew ?_))); (case side4 => exact HC2.out); (case side5 => repeat (first | exact HR3.out | (with_reducible refine Kd.C_alloc ?_ _) | (with_reducible refine Kd.C_drewN ?_ _) | (with_reducible refine Kd.C_drew ?_))); (case side6 => exact HC3.out); rintro e w' ⟨rfl, ⟨nd, rfl⟩⟩; refine ⟨_, rfl, ?_⟩) | ((with_reducible refine gate_callee (f := 37) rfl ?_); refine goesL_ (some 20) rfl rfl Try.func37 (by kernel_rfl) rfl #[.int .i64 a0, .slice A1 l1.length c1, .slice A2 l2.length c2, .slice A3 l3.length c3, .int .i64 400] rfl (by (try simp only [List.map_toArray, List.map_cons, List.map_nil]); first | done | rfl | (simp only [List.length_drop, List.length_take]; rfl)) ?_; (with_reducible refine (spec_l5Run.calls k a0 _ _ l1 _ _ l2 _ _ l3 400 t455 t458 t459 false _ ?side1 ?side2 ?side3 ?side4 ?side5 ?side6 A7.out).mono ?_); (case side1 => repeat (first | exact HR1.out | (with_reducible refine Kd.C_alloc ?_ _) | (with_reducible refine Kd.C_drewN ?_ _) | (with_reducible refine Kd.C_drew ?_))); (case side2 => exact HC1.out); (case side3 => repeat (first | exact HR2.out | (with_reducible refine Kd.C_alloc ?_ _) | (with_reducible refine Kd.C_drewN ?_ _) | (with_reducible refine Kd.C_drew ?_))); (case side4 => exact HC2.out); (case side5 => repeat (first | exact HR3.out | (with_reducible refine Kd.C_alloc ?_ _) | (with_reducible refine Kd.C_drewN ?_ _) | (with_reducible refine Kd.C_drew ?_))); (case side6 => exact HC3.out); rintro e w13 ⟨v456, rfl, ho0, hb⟩; refine ⟨_, rfl, ?_⟩; have n0_ := Aside0.mk (Kd.S_lower ho0 (below_size (by repeat (first | (with_reducible first | exact HB.out | apply below_alloc | apply pw_below_drewN | apply below_drew1) | exact HB.out)))); have n1_ := Aside0.mk (below_step (by repeat (first | (with_reducible first | exact HB.out | apply below_alloc | apply pw_below_drewN | apply below_drew1) | exact HB.out)) hb); clear HB; have HO457 := n0_; have HB := n1_; clear n0_ n1_; (try clear hb); (try clear hb2); (try clear hk); (try clear hi); (try clear ho0)) | ((with_reducible refine gate_dst (N := 9) rfl ?_); refine box_event ?hg (N := 9) ?hd (cs := #[.slice none 0 0, .int .i64 0, .int .i64 0, .bool false]) (t := 28) ?hr ?_; (case hd => rfl); (case hg => rfl); (case hr => first | (go_simp; done) | (go_simp; rfl)); intro gb461 hg w14 hbox hb; have n0_ := Aside0.mk (Kd.S_below (by (with_reducible repeat (first | apply Kd.S_alloc | apply Kd.S_drewN | apply Kd.S_drew)); exact HO457.out) hb); have n1_ := Aside0.mk (below_step (by repeat (first | (with_reducible first | exact HB.out | apply below_alloc | apply pw_below_drewN | apply below_drew1) | exact HB.out)) hb); have n2_ := Aside0.mk (hbox); have n3_ := Aside0.mk ((by rw [hg]; exact (below_size (by repeat (first | (with_reducible first | exact HB.out | apply below_alloc | apply pw_below_drewN | apply below_drew1) | exact HB.out))) : w.heap.size ≤ gb461)); have n4_ := Aside0.mk ((by rw [hg]; exact (below_size (by repeat (first | (with_reducible first | exact HB.out | apply below_alloc | apply pw_below_drewN | apply below_drew1) | exact HB.out))) : w.heap.size ≤ gb461)); clear HO457; clear HB; have HO457 := n0_; have HB := n1_; have BK461 := n2_; have GW461 := n3_; have GE461 := n4_; clear n0_ n1_ n2_ n3_ n4_; clear hb hbox hg; obtain ⟨Ao15, co15, eo15⟩ := Kd.S_slice HO457.out; subst eo15; have hcz16_0 : w14.cell? ⟨gb461, 0, none⟩ = some (.slice none 0 0) := (blk_cell BK461.out 0).trans rfl; have hcz16_1 : w14.cell? ⟨gb461, 1, none⟩ = some (.int .i64 0) := (blk_cell BK461.out 1).trans rfl; have hcz16_2 : w14.cell? ⟨gb461, 2, none⟩ = some (.int .i64 0) := (blk_cell BK461.out 2).trans rfl; have hcz16_3 : w14.cell? ⟨gb461, 3, none⟩ = some (.bool false) := (blk_cell BK461.out 3).trans rfl; have hfz16_0 := blk_frozen BK461.out 0; have hfz16_1 := blk_frozen BK461.out 1; have hfz16_2 := blk_frozen BK461.out 2; have hfz16_3 := blk_frozen BK461.out 3))
      go_ret
      exact ⟨by first | rfl | (simp [errW_none, errW_some] <;> rfl) | (simp [*, errW_none, errW_some] <;> rfl), by repeat (first | (with_reducible first | exact HB.out | apply below_alloc | apply pw_below_drewN | apply below_drew1 | refine below_set ?_ GE461.out) | exact HB.out)⟩
  · replace c6 := Bool.eq_false_iff.mpr c6
    subst c6
    have H1 : (some (-1)) = some r := by rw [if_neg (show ¬ (false = true) by decide)] at H; exact H
    clear H
    have H := H1
    clear H1
    obtain rfl := Option.some.inj H
    go_enter Try.func13, Try.ntmps13
    go_wp2_with (first | ((with_reducible refine gate_callee (f := 35) rfl ?_); refine goesL_ (some 14) rfl rfl Try.func35 (by kernel_rfl) rfl #[.int .i64 a0, .slice A1 l1.length c1, .slice A2 l2.length c2, .slice A3 l3.length c3] rfl (by (try simp only [List.map_toArray, List.map_cons, List.map_nil]); first | done | rfl | (simp only [List.length_drop, List.length_take]; rfl)) ?_; (with_reducible refine (spec_l5Link.calls k a0 _ _ l1 _ _ l2 _ _ l3 false _ ?side1 ?side2 ?side3 ?side4 ?side5 ?side6 A5.out).mono ?_); (case side1 => repeat (first | exact HR1.out | (with_reducible refine Kd.C_alloc ?_ _) | (with_reducible refine Kd.C_drewN ?_ _) | (with_reducible refine Kd.C_drew ?_))); (case side2 => exact HC1.out); (case side3 => repeat (first | exact HR2.out | (with_reducible refine Kd.C_alloc ?_ _) | (with_reducible refine Kd.C_drewN ?_ _) | (with_reducible refine Kd.C_drew ?_))); (case side4 => exact HC2.out); (case side5 => repeat (first | exact HR3.out | (with_reducible refine Kd.C_alloc ?_ _) | (with_reducible refine Kd.C_drewN ?_ _) | (with_reducible refine Kd.C_drew ?_))); (case side6 => exact HC3.out); rintro e w' ⟨rfl, ⟨nd, rfl⟩⟩; refine ⟨_, rfl, ?_⟩))
    go_ret
    exact ⟨by first | rfl | (simp [errW_none, errW_some] <;> rfl) | (simp [*, errW_none, errW_some] <;> rfl), by repeat (first | (with_reducible first | exact HB.out | apply below_alloc | apply pw_below_drewN | apply below_drew1) | exact HB.out)⟩

def impl_LinkRounds.f (k : Nat) (a0 : Int) (l1 : List (List Int)) (l2 : List Int) (l3 : List Int) : Option (Int) := (impl_RunLink.f k a0 l1 l2 l3 400).bind fun bt472 => (if bt472.2.2.2.2 = true then (if bt472.2.2.2.1 = true then (some bt472.2.1) else (some (-1))) else (some (-1)))
set_option maxHeartbeats 8000000 in
set_option maxRecDepth 100000 in
theorem impl_LinkRounds.calls (k : Nat) (a0 : Int) (A1 : Option Addr) (c1 : Nat) (l1 : List (List Int)) (A2 : Option Addr) (c2 : Nat) (l2 : List Int) (A3 : Option Addr) (c3 : Nat) (l3 : List Int) (r : Int) (w : World) (hr1 : Kd.C (Kd.slice 5 (Kd.int .u8)) w A1 l1.length l1) (hc1 : l1.length ≤ c1) (hr2 : Kd.C (Kd.int .i64) w A2 l2.length l2) (hc2 : l2.length ≤ c2) (hr3 : Kd.C (Kd.int .i64) w A3 l3.length l3) (hc3 : l3.length ≤ c3) (h : impl_LinkRounds.f k a0 l1 l2 l3 = some r) :
    Calls Try.prog 16 #[.int .i64 a0, .slice A1 l1.length c1, .slice A2 l2.length c2, .slice A3 l3.length c3] w fun e w' => e = .returned (.int .i64 r) ∧ Below w.heap.size w w' := by
  have hu28 := Try.underlying28
  have HR1 := Aside0.mk hr1
  have HC1 := Aside0.mk hc1
  clear hr1 hc1
  have HR2 := Aside0.mk hr2
  have HC2 := Aside0.mk hc2
  clear hr2 hc2
  have HR3 := Aside0.mk hr3
  have HC3 := Aside0.mk hc3
  clear hr3 hc3
  have HB := Aside0.mk (Below.refl w.heap.size w)
  have H : ((impl_RunLink.f k a0 l1 l2 l3 400).bind fun bt472 => (if bt472.2.2.2.2 = true then (if bt472.2.2.2.1 = true then (some bt472.2.1) else (some (-1))) else (some (-1)))) = some r := h
  clear h
  replace H := Option.bind_eq_some_iff.mp H
  obtain ⟨⟨t472, t475, t476, t477, t478⟩, A50, H⟩ := H
  replace H : (if t478 = true then (if t477 = true then (some t475) else (some (-1))) else (some (-1))) = some r := H
  have A5 := Aside0.mk A50
  clear A50
  by_cases c6 : t478 = true
  · subst c6
    have H1 : (if t477 = true then (some t475) else (some (-1))) = some r := by rw [if_pos rfl] at H; exact H
    clear H
    have H := H1
    clear H1
    by_cases c7 : t477 = true
    · subst c7
      have H1 : (some t475) = some r := by rw [if_pos rfl] at H; exact H
      clear H
      have H := H1
      clear H1
      obtain rfl := Option.some.inj H
      go_enter Try.func16, Try.ntmps16
      go_wp2_with (first | ((with_reducible refine gate_callee (f := 10) rfl ?_); refine goesL_ (some 16) rfl rfl Try.func10 (by kernel_rfl) rfl #[.int .i64 a0, .slice A1 l1.length c1, .slice A2 l2.length c2, .slice A3 l3.length c3, .int .i64 400] rfl (by (try simp only [List.map_toArray, List.map_cons, List.map_nil]); first | done | rfl | (simp only [List.length_drop, List.length_take]; rfl)) ?_; (with_reducible refine (impl_RunLink.calls k a0 _ _ l1 _ _ l2 _ _ l3 400 t472 t475 t476 true true _ ?side1 ?side2 ?side3 ?side4 ?side5 ?side6 A5.out).mono ?_); (case side1 => repeat (first | exact HR1.out | (with_reducible refine Kd.C_alloc ?_ _) | (with_reducible refine Kd.C_drewN ?_ _) | (with_reducible refine Kd.C_drew ?_))); (case side2 => exact HC1.out); (case side3 => repeat (first | exact HR2.out | (with_reducible refine Kd.C_alloc ?_ _) | (with_reducible refine Kd.C_drewN ?_ _) | (with_reducible refine Kd.C_drew ?_))); (case side4 => exact HC2.out); (case side5 => repeat (first | exact HR3.out | (with_reducible refine Kd.C_alloc ?_ _) | (with_reducible refine Kd.C_drewN ?_ _) | (with_reducible refine Kd.C_drew ?_))); (case side6 => exact HC3.out); rintro e w8 ⟨v473, rfl, ho0, hb⟩; refine ⟨_, rfl, ?_⟩; have n0_ := Aside0.mk (Kd.S_lower ho0 (below_size (by repeat (first | (with_reducible first | exact HB.out | apply below_alloc | apply pw_below_drewN | apply below_drew1) | exact HB.out)))); have n1_ := Aside0.mk (below_step (by repeat (first | (with_reducible first | exact HB.out | apply below_alloc | apply pw_below_drewN | apply below_drew1) | exact HB.out)) hb); clear HB; have HO474 := n0_; have HB := n1_; clear n0_ n1_; (try clear hb); (try clear hb2); (try clear hk); (try clear hi); (try clear ho0)) | ((with_reducible refine gate_dst (N := 9) rfl ?_); refine box_event ?hg (N := 9) ?hd (cs := #[.slice none 0 0, .int .i64 0, .int .i64 0, .bool false]) (t := 28) ?hr ?_; (case hd => rfl); (case hg => rfl); (case hr => first | (go_simp; done) | (go_simp; rfl)); intro gb479 hg w9 hbox hb; have n0_ := Aside0.mk (Kd.S_below (by (with_reducible repeat (first | apply Kd.S_alloc | apply Kd.S_drewN | apply Kd.S_drew)); exact HO474.out) hb); have n1_ := Aside0.mk (below_step (by repeat (first | (with_reducible first | exact HB.out | apply below_alloc | apply pw_below_drewN | apply below_drew1) | exact HB.out)) hb); have n2_ := Aside0.mk (hbox); have n3_ := Aside0.mk ((by rw [hg]; exact (below_size (by repeat (first | (with_reducible first | exact HB.out | apply below_alloc | apply pw_below_drewN | apply below_drew1) | exact HB.out))) : w.heap.size ≤ gb479)); have n4_ := Aside0.mk ((by rw [hg]; exact (below_size (by repeat (first | (with_reducible first | exact HB.out | apply below_alloc | apply pw_below_drewN | apply below_drew1) | exact HB.out))) : w.heap.size ≤ gb479)); clear HO474; clear HB; have HO474 := n0_; have HB := n1_; have BK479 := n2_; have GW479 := n3_; have GE479 := n4_; clear n0_ n1_ n2_ n3_ n4_; clear hb hbox hg; obtain ⟨Ao10, co10, eo10⟩ := Kd.S_slice HO474.out; subst eo10; have hcz11_0 : w9.cell? ⟨gb479, 0, none⟩ = some (.slice none 0 0) := (blk_cell BK479.out 0).trans rfl; have hcz11_1 : w9.cell? ⟨gb479, 1, none⟩ = some (.int .i64 0) := (blk_cell BK479.out 1).trans rfl; have hcz11_2 : w9.cell? ⟨gb479, 2, none⟩ = some (.int .i64 0) := (blk_cell BK479.out 2).trans rfl; have hcz11_3 : w9.cell? ⟨gb479, 3, none⟩ = some (.bool false) := (blk_cell BK479.out 3).trans rfl; have hfz11_0 := blk_frozen BK479.out 0; have hfz11_1 := blk_frozen BK479.out 1; have hfz11_2 := blk_frozen BK479.out 2; have hfz11_3 := blk_frozen BK479.out 3))
      go_ret
      exact ⟨by first | rfl | (simp [errW_none, errW_some] <;> rfl) | (simp [*, errW_none, errW_some] <;> rfl), by repeat (first | (with_reducible first | exact HB.out | apply below_alloc | apply pw_below_drewN | apply below_drew1 | refine below_set ?_ GE479.out) | exact HB.out)⟩
    · replace c7 := Bool.eq_false_iff.mpr c7
      subst c7
      have H1 : (some (-1)) = some r := by rw [if_neg (show ¬ (false = true) by decide)] at H; exact H
      clear H
      have H := H1
      clear H1
      obtain rfl := Option.some.inj H
      go_enter Try.func16, Try.ntmps16
      go_wp2_with (first | ((with_reducible refine gate_callee (f := 10) rfl ?_); refine goesL_ (some 16) rfl rfl Try.func10 (by kernel_rfl) rfl #[.int .i64 a0, .slice A1 l1.length c1, .slice A2 l2.length c2, .slice A3 l3.length c3, .int .i64 400] rfl (by (try simp only [List.map_toArray, List.map_cons, List.map_nil]); first | done | rfl | (simp only [List.length_drop, List.length_take]; rfl)) ?_; (with_reducible refine (impl_RunLink.calls k a0 _ _ l1 _ _ l2 _ _ l3 400 t472 t475 t476 false true _ ?side1 ?side2 ?side3 ?side4 ?side5 ?side6 A5.out).mono ?_); (case side1 => repeat (first | exact HR1.out | (with_reducible refine Kd.C_alloc ?_ _) | (with_reducible refine Kd.C_drewN ?_ _) | (with_reducible refine Kd.C_drew ?_))); (case side2 => exact HC1.out); (case side3 => repeat (first | exact HR2.out | (with_reducible refine Kd.C_alloc ?_ _) | (with_reducible refine Kd.C_drewN ?_ _) | (with_reducible refine Kd.C_drew ?_))); (case side4 => exact HC2.out); (case side5 => repeat (first | exact HR3.out | (with_reducible refine Kd.C_alloc ?_ _) | (with_reducible refine Kd.C_drewN ?_ _) | (with_reducible refine Kd.C_drew ?_))); (case side6 => exact HC3.out); rintro e w12 ⟨v473, rfl, ho0, hb⟩; refine ⟨_, rfl, ?_⟩; have n0_ := Aside0.mk (Kd.S_lower ho0 (below_size (by repeat (first | (with_reducible first | exact HB.out | apply below_alloc | apply pw_below_drewN | apply below_drew1) | exact HB.out)))); have n1_ := Aside0.mk (below_step (by repeat (first | (with_reducible first | exact HB.out | apply below_alloc | apply pw_below_drewN | apply below_drew1) | exact HB.out)) hb); clear HB; have HO474 := n0_; have HB := n1_; clear n0_ n1_; (try clear hb); (try clear hb2); (try clear hk); (try clear hi); (try clear ho0)) | ((with_reducible refine gate_dst (N := 9) rfl ?_); refine box_event ?hg (N := 9) ?hd (cs := #[.slice none 0 0, .int .i64 0, .int .i64 0, .bool false]) (t := 28) ?hr ?_; (case hd => rfl); (case hg => rfl); (case hr => first | (go_simp; done) | (go_simp; rfl)); intro gb479 hg w13 hbox hb; have n0_ := Aside0.mk (Kd.S_below (by (with_reducible repeat (first | apply Kd.S_alloc | apply Kd.S_drewN | apply Kd.S_drew)); exact HO474.out) hb); have n1_ := Aside0.mk (below_step (by repeat (first | (with_reducible first | exact HB.out | apply below_alloc | apply pw_below_drewN | apply below_drew1) | exact HB.out)) hb); have n2_ := Aside0.mk (hbox); have n3_ := Aside0.mk ((by rw [hg]; exact (below_size (by repeat (first | (with_reducible first | exact HB.out | apply below_alloc | apply pw_below_drewN | apply below_drew1) | exact HB.out))) : w.heap.size ≤ gb479)); have n4_ := Aside0.mk ((by rw [hg]; exact (below_size (by repeat (first | (with_reducible first | exact HB.out | apply below_alloc | apply pw_below_drewN | apply below_drew1) | exact HB.out))) : w.heap.size ≤ gb479)); clear HO474; clear HB; have HO474 := n0_; have HB := n1_; have BK479 := n2_; have GW479 := n3_; have GE479 := n4_; clear n0_ n1_ n2_ n3_ n4_; clear hb hbox hg; obtain ⟨Ao14, co14, eo14⟩ := Kd.S_slice HO474.out; subst eo14; have hcz15_0 : w13.cell? ⟨gb479, 0, none⟩ = some (.slice none 0 0) := (blk_cell BK479.out 0).trans rfl; have hcz15_1 : w13.cell? ⟨gb479, 1, none⟩ = some (.int .i64 0) := (blk_cell BK479.out 1).trans rfl; have hcz15_2 : w13.cell? ⟨gb479, 2, none⟩ = some (.int .i64 0) := (blk_cell BK479.out 2).trans rfl; have hcz15_3 : w13.cell? ⟨gb479, 3, none⟩ = some (.bool false) := (blk_cell BK479.out 3).trans rfl; have hfz15_0 := blk_frozen BK479.out 0; have hfz15_1 := blk_frozen BK479.out 1; have hfz15_2 := blk_frozen BK479.out 2; have hfz15_3 := blk_frozen BK479.out 3))
      go_ret
      exact ⟨by first | rfl | (simp [errW_none, errW_some] <;> rfl) | (simp [*, errW_none, errW_some] <;> rfl), by repeat (first | (with_reducible first | exact HB.out | apply below_alloc | apply pw_below_drewN | apply below_drew1 | refine below_set ?_ GE479.out) | exact HB.out)⟩
  · replace c6 := Bool.eq_false_iff.mpr c6
    subst c6
    have H1 : (some (-1)) = some r := by rw [if_neg (show ¬ (false = true) by decide)] at H; exact H
    clear H
    have H := H1
    clear H1
    obtain rfl := Option.some.inj H
    go_enter Try.func16, Try.ntmps16
    go_wp2_with (first | ((with_reducible refine gate_callee (f := 10) rfl ?_); refine goesL_ (some 16) rfl rfl Try.func10 (by kernel_rfl) rfl #[.int .i64 a0, .slice A1 l1.length c1, .slice A2 l2.length c2, .slice A3 l3.length c3, .int .i64 400] rfl (by (try simp only [List.map_toArray, List.map_cons, List.map_nil]); first | done | rfl | (simp only [List.length_drop, List.length_take]; rfl)) ?_; (with_reducible refine (impl_RunLink.calls k a0 _ _ l1 _ _ l2 _ _ l3 400 t472 t475 t476 t477 false _ ?side1 ?side2 ?side3 ?side4 ?side5 ?side6 A5.out).mono ?_); (case side1 => repeat (first | exact HR1.out | (with_reducible refine Kd.C_alloc ?_ _) | (with_reducible refine Kd.C_drewN ?_ _) | (with_reducible refine Kd.C_drew ?_))); (case side2 => exact HC1.out); (case side3 => repeat (first | exact HR2.out | (with_reducible refine Kd.C_alloc ?_ _) | (with_reducible refine Kd.C_drewN ?_ _) | (with_reducible refine Kd.C_drew ?_))); (case side4 => exact HC2.out); (case side5 => repeat (first | exact HR3.out | (with_reducible refine Kd.C_alloc ?_ _) | (with_reducible refine Kd.C_drewN ?_ _) | (with_reducible refine Kd.C_drew ?_))); (case side6 => exact HC3.out); rintro e w16 ⟨v473, rfl, ho0, hb⟩; refine ⟨_, rfl, ?_⟩; have n0_ := Aside0.mk (Kd.S_lower ho0 (below_size (by repeat (first | (with_reducible first | exact HB.out | apply below_alloc | apply pw_below_drewN | apply below_drew1) | exact HB.out)))); have n1_ := Aside0.mk (below_step (by repeat (first | (with_reducible first | exact HB.out | apply below_alloc | apply pw_below_drewN | apply below_drew1) | exact HB.out)) hb); clear HB; have HO474 := n0_; have HB := n1_; clear n0_ n1_; (try clear hb); (try clear hb2); (try clear hk); (try clear hi); (try clear ho0)) | ((with_reducible refine gate_dst (N := 9) rfl ?_); refine box_event ?hg (N := 9) ?hd (cs := #[.slice none 0 0, .int .i64 0, .int .i64 0, .bool false]) (t := 28) ?hr ?_; (case hd => rfl); (case hg => rfl); (case hr => first | (go_simp; done) | (go_simp; rfl)); intro gb479 hg w17 hbox hb; have n0_ := Aside0.mk (Kd.S_below (by (with_reducible repeat (first | apply Kd.S_alloc | apply Kd.S_drewN | apply Kd.S_drew)); exact HO474.out) hb); have n1_ := Aside0.mk (below_step (by repeat (first | (with_reducible first | exact HB.out | apply below_alloc | apply pw_below_drewN | apply below_drew1) | exact HB.out)) hb); have n2_ := Aside0.mk (hbox); have n3_ := Aside0.mk ((by rw [hg]; exact (below_size (by repeat (first | (with_reducible first | exact HB.out | apply below_alloc | apply pw_below_drewN | apply below_drew1) | exact HB.out))) : w.heap.size ≤ gb479)); have n4_ := Aside0.mk ((by rw [hg]; exact (below_size (by repeat (first | (with_reducible first | exact HB.out | apply below_alloc | apply pw_below_drewN | apply below_drew1) | exact HB.out))) : w.heap.size ≤ gb479)); clear HO474; clear HB; have HO474 := n0_; have HB := n1_; have BK479 := n2_; have GW479 := n3_; have GE479 := n4_; clear n0_ n1_ n2_ n3_ n4_; clear hb hbox hg; obtain ⟨Ao18, co18, eo18⟩ := Kd.S_slice HO474.out; subst eo18; have hcz19_0 : w17.cell? ⟨gb479, 0, none⟩ = some (.slice none 0 0) := (blk_cell BK479.out 0).trans rfl; have hcz19_1 : w17.cell? ⟨gb479, 1, none⟩ = some (.int .i64 0) := (blk_cell BK479.out 1).trans rfl; have hcz19_2 : w17.cell? ⟨gb479, 2, none⟩ = some (.int .i64 0) := (blk_cell BK479.out 2).trans rfl; have hcz19_3 : w17.cell? ⟨gb479, 3, none⟩ = some (.bool false) := (blk_cell BK479.out 3).trans rfl; have hfz19_0 := blk_frozen BK479.out 0; have hfz19_1 := blk_frozen BK479.out 1; have hfz19_2 := blk_frozen BK479.out 2; have hfz19_3 := blk_frozen BK479.out 3))
    go_ret
    exact ⟨by first | rfl | (simp [errW_none, errW_some] <;> rfl) | (simp [*, errW_none, errW_some] <;> rfl), by repeat (first | (with_reducible first | exact HB.out | apply below_alloc | apply pw_below_drewN | apply below_drew1 | refine below_set ?_ GE479.out) | exact HB.out)⟩

end Go.Proofs.Ytookabfmbimnoaa.Lk
