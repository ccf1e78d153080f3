/- A word of eight bytes, the lowest first: both spellings. -/
import Derived.Test.YtbcmmmcbineipaaDoorMa
set_option linter.unusedVariables false
set_option linter.unusedSimpArgs false
namespace Go.Proofs.YtbcmmmcbineipaaDoor
open Go.RowKit Go.Proofs.YtbcmmmcbineipaaDoorW.PrintWords Go.Proofs.YtbcmmmcbineipaaDoorW.PrintLast Go.Proofs.YtbcmmmcbineipaaDoorW.PrintMore
open Go.Proofs.YtbcmmmcbineipaaDoor.PR

theorem wrap_u64_id (x : Int) (h0 : 0 ≤ x) (h1 : x < 18446744073709551616) : IntKind.u64.wrap x = x := by
  unfold IntKind.wrap
  simp only [IntKind.signed, Bool.false_and]
  exact Int.emod_eq_of_lt h0 h1
theorem or_add (a c : Int) (k : Nat) (ha : 0 ≤ a) (ha2 : a < 2 ^ k) (hc : 0 ≤ c) (h : a + c * 2 ^ k < 18446744073709551616) : Go.bits .or .u64 a (c * 2 ^ k) = a + c * 2 ^ k := by
  obtain ⟨m, rfl⟩ := Int.eq_ofNat_of_zero_le ha
  obtain ⟨n, rfl⟩ := Int.eq_ofNat_of_zero_le hc
  have hm : m < 2 ^ k := by exact_mod_cast ha2
  have hs : m + n * 2 ^ k < 2 ^ 64 := by
    have : ((m + n * 2 ^ k : Nat) : Int) < 18446744073709551616 := by push_cast; exact h
    omega
  have e0 : ((n : Int) * 2 ^ k) = ((n * 2 ^ k : Nat) : Int) := by push_cast; rfl
  rw [e0]
  show IntKind.u64.wrap ((BitVec.ofInt 64 (m : Int) ||| BitVec.ofInt 64 ((n * 2 ^ k : Nat) : Int)).toNat : Nat) = _
  have e1 : (BitVec.ofInt 64 (m : Int) ||| BitVec.ofInt 64 ((n * 2 ^ k : Nat) : Int)).toNat = m + n * 2 ^ k := by
    rw [BitVec.ofInt_natCast, BitVec.ofInt_natCast, BitVec.toNat_or, BitVec.toNat_ofNat, BitVec.toNat_ofNat, Nat.mod_eq_of_lt (by omega), Nat.mod_eq_of_lt (by omega)]
    have := Nat.two_pow_add_eq_or_of_lt hm n
    rw [Nat.or_comm, Nat.mul_comm n, ← this, Nat.add_comm]
  rw [e1]
  generalize n * 2 ^ k = P at hs
  have : ((m + P : Nat) : Int) = (m : Int) + (P : Int) := by omega
  rw [← this]
  generalize m + P = T at hs
  exact wrap_u64_id _ (by omega) (by omega)
/-- Bytes, the lowest first. -/
def le : List Int → Int
  | [] => 0
  | b :: t => b + 256 * le t
def okB (xs : List Int) : Prop := ∀ b ∈ xs, 0 ≤ b ∧ b ≤ 255
theorem le_range (xs : List Int) (h : okB xs) : 0 ≤ le xs ∧ le xs < 256 ^ xs.length := by
  induction xs with
  | nil => exact ⟨Int.le_refl _, by decide⟩
  | cons b t ih =>
    obtain ⟨h1, h2⟩ := ih (fun c hc => h c (List.mem_cons_of_mem _ hc))
    obtain ⟨h3, h4⟩ := h b List.mem_cons_self
    unfold le
    rw [List.length_cons, Int.pow_succ]
    omega
theorem le_snoc (xs : List Int) (b : Int) : le (xs ++ [b]) = le xs + b * 256 ^ xs.length := by
  induction xs with
  | nil =>
    show b + 256 * 0 = 0 + b * 1
    omega
  | cons c t ih =>
    have e : b * (256 ^ t.length * 256) = 256 * (b * 256 ^ t.length) := by rw [← Int.mul_assoc, Int.mul_comm]
    rw [List.cons_append, le, ih, le, List.length_cons, Int.pow_succ, e]
    generalize b * 256 ^ t.length = P
    omega
theorem pow256 (i : Nat) : (256 : Int) ^ i = 2 ^ (8 * i) := by
  have h : (256 : Int) = 2 ^ 8 := by decide
  rw [h, ← Int.pow_mul]
theorem pow_pos' (i : Nat) : (0 : Int) < 256 ^ i := by
  induction i with
  | zero => decide
  | succ i ih => rw [Int.pow_succ]; omega
theorem pow_le (i j : Nat) (h : i ≤ j) : (256 : Int) ^ i ≤ 256 ^ j := by
  induction j with
  | zero => obtain rfl : i = 0 := by omega
            exact Int.le_refl _
  | succ j ih =>
    by_cases e : i = j + 1
    · rw [e]; exact Int.le_refl _
    · have := ih (by omega)
      have := pow_pos' j
      rw [Int.pow_succ]
      omega
theorem okB_take {xs : List Int} (h : okB xs) (n : Nat) : okB (xs.take n) := fun b hb => h b (List.mem_of_mem_take hb)
theorem pow8 (i : Nat) (h : i < 8) : (0 : Int) < 2 ^ (8 * i) ∧ (255 : Int) * 2 ^ (8 * i) + 2 ^ (8 * i) ≤ 18446744073709551616 := by
  have : ∀ i : Fin 8, (0 : Int) < 2 ^ (8 * i.1) ∧ (255 : Int) * 2 ^ (8 * i.1) + 2 ^ (8 * i.1) ≤ 18446744073709551616 := by decide
  exact this ⟨i, h⟩
theorem word_le (xs : List Int) (hb : okB xs) (h : 8 ≤ xs.length) (d : Nat) : ∀ (i : Nat), i + d = 8 → siphash_word.l0 (d + 1) xs (le (xs.take i)) i = some (le (xs.take 8)) := by
  induction d with
  | zero =>
    intro i hi
    obtain rfl : i = 8 := by omega
    rw [siphash_word.l0, if_neg (by decide)]
  | succ d ih =>
    intro i hi
    have hil : i < xs.length := by omega
    rw [siphash_word.l0, if_pos (by omega), if_pos (by omega), if_pos (by omega)]
    have e1 : wrap64 (8 * (i : Int)) = 8 * i := by unfold wrap64; omega
    have e2 : wrap64 ((i : Int) + 1) = ((i + 1 : Nat) : Int) := by unfold wrap64; omega
    rw [e1, if_pos (by omega), e2]
    have e3 : rd xs (i : Int) = xs[i] := by unfold rd; rw [Int.toNat_natCast, List.getD_eq_getElem?_getD, List.getElem?_eq_getElem hil]; rfl
    obtain ⟨b0, b1⟩ := hb xs[i] (List.getElem_mem hil)
    obtain ⟨p0, p1⟩ := pow8 i (by omega)
    obtain ⟨l0, l1⟩ := le_range (xs.take i) (okB_take hb i)
    rw [List.length_take, Nat.min_eq_left (by omega), pow256] at l1
    have e5 : ((8 * (i : Int)).toNat) = 8 * i := by omega
    have hbits : IntKind.u64.bits = 64 := rfl
    have hle : xs[i] * 2 ^ (8 * i) ≤ 255 * 2 ^ (8 * i) := Int.mul_le_mul_of_nonneg_right b1 (by omega)
    have hge : 0 ≤ xs[i] * 2 ^ (8 * i) := Int.mul_nonneg b0 (by omega)
    have e4 : shl .u64 (IntKind.u64.wrap (rd xs (i : Int))) (8 * (i : Int)) = xs[i] * 2 ^ (8 * i) := by
      unfold shl
      rw [e3, e5, hbits, Nat.min_eq_left (by omega), wrap_u64_id xs[i] b0 (by omega), wrap_u64_id _ hge (by omega)]
    rw [e4, or_add _ _ _ l0 l1 b0 (by omega), ← pow256]
    have e6 : le (xs.take i) + xs[i] * 256 ^ i = le (xs.take (i + 1)) := by
      rw [List.take_succ_eq_append_getElem hil, le_snoc, List.length_take, Nat.min_eq_left (by omega)]
    rw [e6]
    exact ih (i + 1) (by omega)
theorem sword_le (xs : List Int) (hb : okB xs) (h : 8 ≤ xs.length) : sword xs = le (xs.take 8) := by
  have := word_le xs hb h 8 0 rfl
  unfold sword siphash_word.f
  have e : le (xs.take 0) = 0 := rfl
  rw [e] at this
  rw [show ((0 : Nat) : Int) = 0 from rfl] at this
  rw [this]
  rfl
theorem okB_bytes (s : ByteArray) : okB (bytesOf s) := fun b hb => by
  obtain ⟨c, _, rfl⟩ := List.mem_map.1 hb
  have := c.toNat_lt
  omega
/-- The reference's word: from the last byte on. -/
theorem rword_le (s : ByteArray) (hs : s.size ≤ 8) (d : Nat) : ∀ i : Nat, i + d = s.size → stewardref01_Word.l0 (i + 1) s (le ((bytesOf s).drop i)) ((i : Int) - 1) = some (le (bytesOf s)) := by
  have hl := bytesOf_length s
  have hb := okB_bytes s
  intro i
  induction i generalizing d with
  | zero =>
    intro hi
    rw [stewardref01_Word.l0, if_neg (by omega), List.drop_zero]
  | succ i ih =>
    intro hi
    have hil : i < (bytesOf s).length := by omega
    have ei : ((i + 1 : Nat) : Int) - 1 = i := by omega
    rw [ei, stewardref01_Word.l0, if_pos (by omega), if_pos (by omega), if_pos (by omega)]
    have e2 : wrap64 ((i : Int) - 1) = (i : Int) - 1 := by unfold wrap64; omega
    obtain ⟨b0, b1⟩ := bt_range s i
    have e3 : bt s i = (bytesOf s)[i] := by
      rw [← rd_bytesOf]
      unfold rd
      rw [Int.toNat_natCast, List.getD_eq_getElem?_getD, List.getElem?_eq_getElem hil]; rfl
    have hbd : okB ((bytesOf s).drop (i + 1)) := fun b h => hb b (List.mem_of_mem_drop h)
    obtain ⟨l0, l1⟩ := le_range _ hbd
    rw [List.length_drop, hl] at l1
    have l2 : (256 : Int) ^ (s.size - (i + 1)) ≤ 256 ^ 7 := pow_le _ _ (by omega)
    have l3 : (256 : Int) ^ 7 = 72057594037927936 := by decide
    rw [e2, wrap_u64_id (le ((bytesOf s).drop (i + 1)) * 256) (by omega) (by omega), wrap_u64_id (bt s i) b0 (by omega), wrap_u64_id _ (by omega) (by omega)]
    have e4 : le ((bytesOf s).drop (i + 1)) * 256 + bt s i = le ((bytesOf s).drop i) := by
      rw [List.drop_eq_getElem_cons hil, le, e3]
      omega
    rw [e4]
    exact ih (d + 1) (by omega)
theorem rword_f (s : ByteArray) (hs : s.size ≤ 8) : stewardref01_Word.f (s.size + 1) s = some (le (bytesOf s)) := by
  have h := rword_le s hs 0 s.size rfl
  have hl := bytesOf_length s
  rw [List.drop_of_length_le (by omega)] at h
  unfold stewardref01_Word.f
  have e : wrap64 ((s.size : Int) - 1) = (s.size : Int) - 1 := by unfold wrap64; omega
  rw [e]
  exact h
theorem rword_calls (s : ByteArray) (hs : s.size ≤ 8) (w : World) : Calls Tryd.prog 40 #[.string s] w fun e w' => e = .returned (.int .u64 (le (bytesOf s))) ∧ ∃ n, w' = w.drewN n := by
  refine (stewardref01_Word.calls _ s _ w (rword_f s hs)).mono ?_
  rintro e w' ⟨rfl, ⟨h⟩⟩
  exact ⟨rfl, h⟩
/-- The last word: what is left, and how many there were. -/
theorem last_word (xs : List Int) (hb : okB xs) (h : xs.length < 8) (n : Int) : sword (slast xs n) = IntKind.u64.wrap (le xs + IntKind.u64.wrap (n % 256 * 2 ^ 56)) := by
  have h1 : slast xs n = xs ++ List.replicate (7 - xs.length) 0 ++ [n % 256] := by
    unfold slast
    have e : List.replicate (8 - xs.length) (0 : Int) = List.replicate (7 - xs.length) 0 ++ [0] := by
      rw [show 8 - xs.length = (7 - xs.length) + 1 by omega, List.replicate_succ']
    rw [e, ← List.append_assoc, List.set_append_right _ _ (by simp; omega)]
    congr 1
    rw [show 7 - (xs ++ List.replicate (7 - xs.length) (0 : Int)).length = 0 by simp; omega]
    rfl
  have hz : ∀ k, le (xs ++ List.replicate k 0) = le xs := by
    intro k
    induction k with
    | zero => rw [List.replicate_zero, List.append_nil]
    | succ k ih => rw [List.replicate_succ', ← List.append_assoc, le_snoc, ih, Int.zero_mul, Int.add_zero]
  have hn0 : 0 ≤ n % 256 := Int.emod_nonneg _ (by decide)
  have hn1 : n % 256 < 256 := Int.emod_lt_of_pos _ (by decide)
  have hok : okB (slast xs n) := by
    rw [h1]
    intro b hb'
    rcases List.mem_append.1 hb' with k | k
    · rcases List.mem_append.1 k with k | k
      · exact hb b k
      · obtain rfl := List.eq_of_mem_replicate k
        omega
    · obtain rfl := List.mem_singleton.1 k
      omega
  have hl : (xs ++ List.replicate (7 - xs.length) (0 : Int)).length = 7 := by simp; omega
  have hl8 : (slast xs n).length = 8 := by rw [h1, List.length_append, hl]; rfl
  obtain ⟨l0, l1⟩ := le_range xs hb
  have l2 : (256 : Int) ^ xs.length ≤ 256 ^ 7 := pow_le _ _ (by omega)
  have l3 : (256 : Int) ^ 7 = 72057594037927936 := by decide
  have l4 : (2 : Int) ^ 56 = 72057594037927936 := by decide
  rw [sword_le _ hok (by omega), List.take_of_length_le (by omega), h1, le_snoc, hz, hl, l3, l4, wrap_u64_id (n % 256 * 72057594037927936) (by omega) (by omega), wrap_u64_id _ (by omega) (by omega)]
end Go.Proofs.YtbcmmmcbineipaaDoor
