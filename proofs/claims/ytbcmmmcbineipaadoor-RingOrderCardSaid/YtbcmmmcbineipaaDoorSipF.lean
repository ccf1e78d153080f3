/- The siphash part: the sum. -/
import Derived.Test.YtbcmmmcbineipaaDoorSipE
set_option linter.unusedVariables false
set_option linter.unusedSimpArgs false
namespace Go.Proofs.YtbcmmmcbineipaaDoor
open Go.RowKit Go.Proofs.YtbcmmmcbineipaaDoorW.PrintWords Go.Proofs.YtbcmmmcbineipaaDoorW.PrintLast Go.Proofs.YtbcmmmcbineipaaDoorW.PrintMore
open Go.Proofs.YtbcmmmcbineipaaDoor.PR

theorem word_step (xs : List Int) (k : Nat) (x i : Int) (h0 : 0 ≤ i) (h8 : i < 8) (hl : i < xs.length) : siphash_word.l0 (k + 1) xs x i = siphash_word.l0 k xs (Go.bits .or .u64 x (shl .u64 (IntKind.u64.wrap (rd xs i)) (wrap64 (8 * i)))) (i + 1) := by
  have e1 : wrap64 (i + 1) = i + 1 := by unfold wrap64; omega
  have e2 : 0 ≤ wrap64 (8 * i) := by unfold wrap64; omega
  rw [siphash_word.l0, if_pos h8, if_pos h0, if_pos hl, if_pos e2, e1]
theorem word_append (xs ys : List Int) (h : 8 ≤ xs.length) (d : Nat) : ∀ (x i : Int), 0 ≤ i → i + d = 8 → siphash_word.l0 (d + 1) (xs ++ ys) x i = siphash_word.l0 (d + 1) xs x i := by
  induction d with
  | zero =>
    intro x i h0 hd
    simp only [siphash_word.l0]; rw [if_neg (by omega), if_neg (by omega)]
  | succ d ih =>
    intro x i h0 hd
    have e3 : rd (xs ++ ys) i = rd xs i := by
      unfold rd
      rw [List.getD_eq_getElem?_getD, List.getD_eq_getElem?_getD, List.getElem?_append_left (by omega)]
    have hl : ((xs ++ ys).length : Int) = xs.length + ys.length := by simp
    rw [word_step (xs ++ ys) (d + 1) x i h0 (by omega) (by omega), word_step xs (d + 1) x i h0 (by omega) (by omega), e3]
    exact ih _ _ (by omega) (by omega)
theorem sword_append (xs ys : List Int) (h : 8 ≤ xs.length) : sword (xs ++ ys) = sword xs := by
  have : siphash_word.f 9 (xs ++ ys) = siphash_word.f 9 xs := word_append xs ys h 8 0 0 (by omega) (by omega)
  unfold sword
  rw [this]
theorem absorb_rest (s : Sip) (xs : List Int) : (absorb s xs).2.length < 8 := by
  induction hn : xs.length using Nat.strongRecOn generalizing s xs with
  | _ n ih =>
    by_cases h : 8 ≤ xs.length
    · rw [absorb_step s xs h]
      exact ih (xs.drop 8).length (by simp; omega) _ _ rfl
    · rw [absorb_end s xs h]
      show xs.length < 8
      omega
theorem absorb_append (s : Sip) (xs ys : List Int) : absorb s (xs ++ ys) = absorb (absorb s xs).1 ((absorb s xs).2 ++ ys) := by
  induction hn : xs.length using Nat.strongRecOn generalizing s xs with
  | _ n ih =>
    by_cases h : 8 ≤ xs.length
    · rw [absorb_step s xs h, absorb_step s (xs ++ ys) (by simp; omega), sword_append xs ys h, List.drop_append_of_le_length h]
      exact ih (xs.drop 8).length (by simp; omega) _ _ rfl
    · rw [absorb_end s xs h]
def lbytes (l : List ByteArray) : List Int := (l.map bytesOf).flatten
theorem lbytes_nil : lbytes [] = [] := rfl
theorem lbytes_append (a b : List ByteArray) : lbytes (a ++ b) = lbytes a ++ lbytes b := by
  unfold lbytes
  rw [List.map_append, List.flatten_append]
theorem lbytes_take_succ (l : List ByteArray) (k : Nat) (h : k < l.length) : lbytes (l.take (k + 1)) = lbytes (l.take k) ++ bytesOf l[k] := by
  rw [List.take_succ_eq_append_getElem h, lbytes_append]
  congr 1
  simp [lbytes]
theorem lbytes_take_le (l : List ByteArray) (k : Nat) : (lbytes (l.take k)).length ≤ (lbytes l).length := by
  have h : lbytes l = lbytes (l.take k) ++ lbytes (l.drop k) := by rw [← lbytes_append, List.take_append_drop]
  rw [h, List.length_append]
  omega
def sinit (kb : List Int) : Sip :=
  ⟨Go.bits .xor .u64 (sword (kb.take 8)) 8317987319222330741, Go.bits .xor .u64 (sword (kb.drop 8)) 7237128888997146477, Go.bits .xor .u64 (sword (kb.take 8)) 7816392313619706465, Go.bits .xor .u64 (sword (kb.drop 8)) 8387220255154660723⟩
def ssum (kb bs : List Int) : Int := send (absorb (sinit kb) bs).1 (absorb (sinit kb) bs).2 bs.length

theorem word_quiet {w : World} {A : Option Addr} {c n : Nat} {xs : List Int} (h : Kd.C (Kd.int .u8) w A xs.length xs) (hc : xs.length ≤ c) (h8 : 8 ≤ xs.length) :
    Calls Tryd.prog 31 #[.slice A xs.length c] (w.drewN n) fun e w' => e = .returned (.int .u64 (sword xs)) ∧ ∃ m, w' = w.drewN m :=
  Calls.quiet_of ((siphash_word.calls 9 A c xs (sword xs) _ (Kd.C_below h (pw_below_drewN (Below.refl _ _) n)) hc (sword_some xs h8)).mono fun _ _ ⟨he, ⟨hd⟩⟩ => ⟨he, hd⟩)
theorem reads_part {w : World} {b t o : Nat} {xs ys : List Int} (h : w.heap[b]? = some (.cells (nums .u8 xs).toArray t (0, 0))) (hm : ys.length ≤ 9223372036854775807) (he : ∀ j, j < ys.length → xs[o + j]? = some (ys.getD j 0)) : Kd.C (Kd.int .u8) w (some ⟨b, o, none⟩) ys.length ys := by
  refine Kd.C_of_reads (d := (0 : Int)) ⟨rfl, hm, fun hp => ⟨_, rfl, fun j hj => ?_⟩⟩
  rw [add_at, cell_of_row w b _ _ t (0, 0) h]
  simp [nums, he j hj]

theorem str_at {w : World} {A : Option Addr} {n : Nat} {xs : List ByteArray} (h : Kd.C Kd.string w A n xs) (k : Nat) (hk : k < n) (hl : xs.length = n) : ∃ ad, A = some ad ∧ w.cell? (ad.add k) = some (.string (xs[k]'(by omega))) := by
  obtain ⟨ad, c, rfl, _, hc, hcell⟩ := Kd.C_get h ByteArray.empty (k : Int) (by omega) (by omega)
  refine ⟨ad, rfl, ?_⟩
  have hc' : c = [.string (xs.getD (k : Int).toNat ByteArray.empty)] := hc
  have := hcell 0 (.string (xs.getD (k : Int).toNat ByteArray.empty)) (by rw [hc']; rfl)
  simp only [Int.toNat_natCast] at this
  have e : k * Kd.string.sz + 0 = k := by show k * 1 + 0 = k; omega
  rw [e] at this
  rw [this, List.getD_eq_getElem?_getD, List.getElem?_eq_getElem (by omega)]
  rfl

set_option maxHeartbeats 400000 in
set_option maxRecDepth 100000 in
theorem ssum_calls (kb : List Int) (A : Option Addr) (c : Nat) (l : List ByteArray) (w0 : World) (hk : kb.length = 16) (hr : Kd.C Kd.string w0 A l.length l) (hc : l.length ≤ c) (hsz : (lbytes l).length ≤ 140737488355000) (hl : l.length ≤ 9223372036854775807) :
    Calls Tryd.prog 23 #[.agg (nums .u8 kb).toArray, .slice A l.length c] w0 fun e w' => e = .returned (.int .u64 (ssum kb (lbytes l))) ∧ Below w0.heap.size w0 w' := by
  have HR := Lib.hid hr
  clear hr
  have HK := Lib.hid hk
  clear hk
  have HB := Lib.hid (below_alloc (Below.refl w0.heap.size w0) (.cells (nums .u8 kb).toArray 26))
  have HL := Lib.hid (heap_alloc_new w0 (.cells (nums .u8 kb).toArray 26))
  go_enter Tryd.func23, Tryd.ntmps23
  go_wp2_with fail
  generalize (w0.alloc (.cells (nums .u8 kb).toArray 26)) = w1 at HB HL ⊢
  have HA1 := Lib.hid (reads_part (o := 0) (ys := kb.take 8) HL.out (by simp; omega) (fun j hj => by
    simp only [List.length_take] at hj
    rw [Nat.zero_add, List.getD_eq_getElem?_getD, List.getElem?_take, if_pos (by omega), List.getElem?_eq_getElem (by omega)]
    rfl))
  have HA2 := Lib.hid (reads_part (o := 8) (ys := kb.drop 8) HL.out (by simp; have := HK.out; omega) (fun j hj => by
    simp only [List.length_drop] at hj
    rw [List.getD_eq_getElem?_getD, List.getElem?_drop, List.getElem?_eq_getElem (by omega)]
    rfl))
  have hl1 : (kb.take 8).length = 8 := by have := HK.out; simp; omega
  have hl2 : (kb.drop 8).length = 8 := by have := HK.out; simp; omega
  obtain ⟨k1, Hk1⟩ : ∃ k1 : List Int, Hid (k1 = kb.take 8) := ⟨_, rfl⟩
  obtain ⟨k2, Hk2⟩ : ∃ k2 : List Int, Hid (k2 = kb.drop 8) := ⟨_, rfl⟩
  rw [← Hk1.out] at HA1 hl1
  rw [← Hk2.out] at HA2 hl2
  have hq1 : ∀ n, Calls Tryd.prog 31 #[.slice (some ⟨w0.heap.size, 0, none⟩) 8 16] (w1.drewN n) fun e w' => e = .returned (.int .u64 (sword k1)) ∧ ∃ m, w' = w1.drewN m := fun n => by
    have h := word_quiet (n := n) HA1.out (c := 16) (by omega) (by omega)
    rw [hl1] at h
    exact h
  have hq2 : ∀ n, Calls Tryd.prog 31 #[.slice (some ⟨w0.heap.size, 8, none⟩) 8 8] (w1.drewN n) fun e w' => e = .returned (.int .u64 (sword k2)) ∧ ∃ m, w' = w1.drewN m := fun n => by
    have h := word_quiet (n := n) HA2.out (c := 8) (by omega) (by omega)
    rw [hl2] at h
    exact h
  have HQ1 := Lib.hid hq1
  have HQ2 := Lib.hid hq2
  clear hq1 hq2 hl1 hl2
  go_quiet ((first | (with_reducible exact HQ1.out _) | (with_reducible exact HQ2.out _)))
  go_wp2_with fail
  have HG2 : Hid (((w1.drewN nq).alloc (.cells (sipCells (sinit kb) (.slice none 0 0) 0) 82)).heap[w1.heap.size]? = some (.cells (sipCells (sinit kb) (.slice none 0 0) 0) 82 (0, 0))) := heap_alloc_new (w1.drewN nq) _
  have HB2 : Hid (Below w0.heap.size w0 ((w1.drewN nq).alloc (.cells (sipCells (sinit kb) (.slice none 0 0) 0) 82))) := below_alloc (pw_below_drewN HB.out nq) _
  have es : sinit kb = ⟨Go.bits .xor .u64 (sword k1) 8317987319222330741, Go.bits .xor .u64 (sword k2) 7237128888997146477, Go.bits .xor .u64 (sword k1) 7816392313619706465, Go.bits .xor .u64 (sword k2) 8387220255154660723⟩ := by rw [Hk1.out, Hk2.out]; rfl
  obtain ⟨s0, Hs0⟩ : ∃ s0 : Sip, Hid (s0 = sinit kb) := ⟨_, rfl⟩
  have e2 : sipCells s0 (.slice none 0 0) 0 = #[.int .u64 (Go.bits .xor .u64 (sword k1) 8317987319222330741), .int .u64 (Go.bits .xor .u64 (sword k2) 7237128888997146477), .int .u64 (Go.bits .xor .u64 (sword k1) 7816392313619706465), .int .u64 (Go.bits .xor .u64 (sword k2) 8387220255154660723), .slice none 0 0, .int .i64 0] := by rw [Hs0.out, es]; rfl
  rw [← Hs0.out] at HG2 HB2
  have hsz1 : w0.heap.size ≤ w1.heap.size := HB.out.size
  rw [← e2]
  clear es e2
  generalize (w1.drewN nq).alloc (.cells (sipCells s0 (.slice none 0 0) 0) 82) = w2 at HG2 HB2 ⊢
  go_loopw [26] (fun x wr => ∃ k : Nat, k ≤ l.length ∧ x = .int .i64 k ∧ ∃ (v : Value) (n : Int), Hid (n = (lbytes (l.take k)).length) ∧ Hid (wr.heap[w1.heap.size]? = some (.cells (sipCells (absorb s0 (lbytes (l.take k))).1 v n) 82 (0, 0))) ∧ Hid (QRow wr w1.heap.size 5 1 v (absorb s0 (lbytes (l.take k))).2.length (nums .u8 (absorb s0 (lbytes (l.take k))).2)) ∧ Hid (Below w0.heap.size w0 wr)) (fun x _ => l.length - (intOf x).toNat)
  case atStart => exact ⟨0, by omega, rfl, .slice none 0 0, 0, rfl, by rw [List.take_zero, lbytes_nil, absorb_end _ _ (by simp)]; exact HG2, by rw [List.take_zero, lbytes_nil, absorb_end _ _ (by simp)]; exact q_of_own (World.ownsRow_nil _ _ _ _), HB2⟩
  case round =>
    obtain ⟨k, hk, rfl, v, n, Hn, HG3, HQ3, HB3⟩ := hrel
    by_cases hlt : k < l.length
    · obtain ⟨ad, rfl, hcell⟩ := str_at (Kd.C_below HR.out HB3.out) k hlt rfl
      obtain ⟨t, Ht⟩ : ∃ t : ByteArray, Hid (t = l[k]) := ⟨l[k], rfl⟩
      rw [← Ht.out] at hcell
      go_wp2_with fail
      have hle := lbytes_take_le l (k + 1)
      have hsucc := lbytes_take_succ l k hlt
      rw [← Ht.out] at hsucc
      have hr8 := absorb_rest s0 (lbytes (l.take k))
      have hbl := bytesOf_length t
      have hls : (lbytes (l.take (k + 1))).length = (lbytes (l.take k)).length + t.size := by rw [hsucc, List.length_append, hbl]
      refine (swrite_calls w1.heap.size _ v n _ t _ HG3.out HQ3.out (by rw [Hn.out]; omega) (by rw [Hn.out]; omega) (by omega)).mono ?_
      rintro e w3 ⟨rfl, ⟨v', hg', hq'⟩, hb'⟩
      have hab : absorb s0 (lbytes (l.take (k + 1))) = absorb (absorb s0 (lbytes (l.take k))).1 ((absorb s0 (lbytes (l.take k))).2 ++ bytesOf t) := by rw [hsucc, absorb_append]
      rw [← hab] at hg' hq'
      have HG4 := Lib.hid hg'
      have HQ4 := Lib.hid hq'
      have HB4 : Hid (Below w0.heap.size w0 w3) := HB3.out.trans (hb'.mono hsz1)
      have HN4 : Hid (n + t.size = (lbytes (l.take (k + 1))).length) := by
        show _ = _
        rw [Hn.out, hls]; omega
      clear hg' hq' hb' hab hsucc hle hr8 hbl hls hcell
      go_wp2
      go_roundw
      case rel => exact ⟨k + 1, by omega, by go_num, v', n + t.size, HN4, HG4, HQ4, HB4⟩
      case measure => simp [intOf]; omega
    · obtain rfl : k = l.length := by omega
      rw [List.take_length] at HG3 HQ3 Hn
      go_wp2_with fail
      refine (send_calls w1.heap.size _ v n _ _ HG3.out HQ3.out (by rw [Hn.out]; omega) (by rw [Hn.out]; omega) (absorb_rest _ _)).mono ?_
      rintro e w3 ⟨rfl, hb'⟩
      have HB4 : Hid (Below w0.heap.size w0 w3) := HB3.out.trans (hb'.mono hsz1)
      clear hb'
      go_wp2
      go_ret
      refine ⟨?_, HB4.out⟩
      have e : ssum kb (lbytes l) = send (absorb s0 (lbytes l)).1 (absorb s0 (lbytes l)).2 n := by rw [Hn.out, Hs0.out]; rfl
      rw [e]
      rfl
end Go.Proofs.YtbcmmmcbineipaaDoor
