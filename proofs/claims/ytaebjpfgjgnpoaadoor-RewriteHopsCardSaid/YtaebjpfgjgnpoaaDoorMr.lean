/- What the reference computes: the plain law, first part. What the reference computes: the plain law, second part. What the reference computes: the plain law, third part: the program's answer is the reference's. -/
import Derived.Test.YtaebjpfgjgnpoaaDoorHq
import Derived.Lib.LazyBuf
set_option linter.unusedVariables false
set_option linter.unusedSimpArgs false
namespace Go.Proofs.YtaebjpfgjgnpoaaDoor
open Go.RowKit Go.Shelf Go.Proofs.YtaebjpfgjgnpoaaDoorW.PrintWords Go.Proofs.YtaebjpfgjgnpoaaDoorW.PrintLast Go.Proofs.YtaebjpfgjgnpoaaDoorW.PrintMore
open Go.Proofs.YtaebjpfgjgnpoaaDoor.PR

theorem w64 (i : Nat) (h : i ≤ 1000000000) : wrap64 ((i : Int) + 1) = ((i + 1 : Nat) : Int) := by unfold wrap64; omega
theorem w64m (i : Nat) (h : i ≤ 1000000000) : wrap64 (((i + 1 : Nat) : Int) - 1) = (i : Int) := by unfold wrap64; omega
theorem rdOf_at {α : Type} (d : α) (l : List α) (i : Nat) (h : i < l.length) : rdOf d l (i : Int) = l[i] := by
  simp [rdOf, List.getD_eq_getElem?_getD, List.getElem?_eq_getElem h]
theorem rdT_at (l : List S40) (i : Nat) (h : i < l.length) : rd_T40 l (i : Int) = l[i] := by
  simp [rd_T40, List.getD_eq_getElem?_getD, List.getElem?_eq_getElem h]
theorem size_list (s : ByteArray) : s.size = s.data.toList.length := by
  rw [Array.length_toList]
  rfl
theorem bt_list (s : ByteArray) (i : Nat) (h : i < s.data.toList.length) : bt s (i : Int) = ((s.data.toList[i]).toNat : Int) := by
  have h2 : (i : Int).toNat < s.size := by rw [size_list]; simpa using h
  unfold bt
  rw [dif_pos h2]
  simp [ByteArray.getElem_eq_getElem_data]
/-- The values cut short. -/
def cutN (n : Nat) (s : ByteArray) : ByteArray := if n < s.size then s.extract 0 n else s
theorem cutN_some (n : Nat) (s : ByteArray) : stewardlaw01_Cut.f s (n : Int) = some (cutN n s) := by
  unfold stewardlaw01_Cut.f cutN
  by_cases h : n < s.size
  · rw [if_pos (by omega), if_pos (by omega), if_pos (by omega), if_pos h]; rfl
  · rw [if_neg (by omega), if_neg h]
theorem cutN_size (n : Nat) (s : ByteArray) : (cutN n s).size ≤ n := by
  unfold cutN
  split
  · rw [ByteArray.size_extract]; omega
  · omega
def fewE (e : S40) : S40 := ⟨cutN 20 e.f0, cutN 40 e.f1⟩
def fewOf (l : List S40) (n : Nat) : List S40 := (l.take n).map fewE
theorem fewOf_length (l : List S40) (n : Nat) : (fewOf l n).length ≤ n := by simp [fewOf]; omega
theorem few_some (l : List S40) (n : Nat) (hn : n ≤ 1000) : ∀ (d i K : Nat), i + d = min l.length n → 2 * d + 2 ≤ K → stewardlaw06_Few.l0 K l n (fewOf l i) i = some (fewOf l n) := by
  intro d
  induction d with
  | zero =>
    intro i K hi hK
    obtain ⟨K, rfl⟩ : ∃ m, K = m + 2 := ⟨K - 2, by omega⟩
    have he : fewOf l i = fewOf l n := by
      unfold fewOf
      congr 1
      rcases Nat.le_total l.length n with h | h
      · rw [List.take_of_length_le (by omega), List.take_of_length_le (by omega)]
      · have : i = n := by omega
        rw [this]
    rw [stewardlaw06_Few.l0]
    by_cases h1 : (i : Int) < l.length
    · rw [if_pos h1, decide_eq_false (by omega), stewardlaw06_Few.j1, if_neg (by simp), he]
    · rw [if_neg h1, stewardlaw06_Few.j1, if_neg (by simp), he]
  | succ d ih =>
    intro i K hi hK
    obtain ⟨K, rfl⟩ : ∃ m, K = m + 2 := ⟨K - 2, by omega⟩
    have h1 : i < l.length := by omega
    have e3 : fewOf l i ++ [fewE l[i]] = fewOf l (i + 1) := by
      unfold fewOf
      rw [List.take_succ_eq_append_getElem h1, List.map_append]
      rfl
    have e4 := fewOf_length l i
    rw [stewardlaw06_Few.l0, if_pos (by omega), decide_eq_true (by omega), stewardlaw06_Few.j1, if_pos rfl, if_pos (by omega), if_pos (by omega), rdT_at l i h1, show (20 : Int) = ((20 : Nat) : Int) from rfl, cutN_some, Option.bind_some, show (40 : Int) = ((40 : Nat) : Int) from rfl, cutN_some, Option.bind_some, if_pos (by omega), w64 i (by omega)]
    show stewardlaw06_Few.l0 K l n (fewOf l i ++ [fewE l[i]]) _ = _
    rw [e3]
    exact ih (i + 1) K (by omega) (by omega)
theorem few_f (l : List S40) (n K : Nat) (hn : n ≤ 1000) (hK : 2 * n + 2 ≤ K) : stewardlaw06_Few.f K l n = some (fewOf l n) := few_some l n hn (min l.length n) 0 K (by omega) (by omega)
/-- Blanks. -/
theorem blank_f (b : UInt8) : stewardref05_blank.f (b.toNat : Int) = some (blank b) := by
  have : ∀ n : Fin 256, stewardref05_blank.f ((UInt8.ofNat n.1).toNat : Int) = some (blank (UInt8.ofNat n.1)) := by decide +kernel
  have h := this ⟨b.toNat, b.toNat_lt⟩
  simpa using h
theorem trimR_snoc (a : List UInt8) (b : UInt8) : trimR (a ++ [b]) = if blank b = true then trimR a else a ++ [b] := by
  unfold trimR
  rw [List.reverse_append]
  show ((b :: a.reverse).dropWhile blank).reverse = _
  rw [List.dropWhile_cons]
  by_cases h : blank b = true
  · rw [if_pos h, if_pos h]
  · rw [if_neg h, if_neg h, List.reverse_cons, List.reverse_reverse]
theorem toList_nil_iff (s : ByteArray) : s.toList = ([] : List UInt8) ↔ s.data.toList = [] := by rw [Lib.toList_data]
theorem trim_l1 : ∀ (K : Nat) (s : ByteArray), s.size < K → s.size ≤ 1000000 → stewardref05_Trim.l1 K s = some (strL (trimR s.data.toList))
  | 0, s, h, _ => absurd h (Nat.not_lt_zero _)
  | K + 1, s, h, hs => by
    rw [stewardref05_Trim.l1]
    by_cases h0 : s.data.toList = []
    · rw [if_pos ((toList_nil_iff s).2 h0), h0]
      congr 1
      apply data_inj
      rw [h0]
      rfl
    · rw [if_neg (fun e => h0 ((toList_nil_iff s).1 e))]
      obtain ⟨a, b, hab⟩ : ∃ a b, s.data.toList = a ++ [b] := ⟨_, _, (List.dropLast_concat_getLast h0).symm⟩
      have hsz : s.size = a.length + 1 := by rw [size_list, hab]; simp
      have hw : wrap64 ((s.size : Int) - 1) = (a.length : Int) := by rw [hsz]; exact w64m _ (by omega)
      have hb : bt s (a.length : Int) = (b.toNat : Int) := by
        rw [bt_list s a.length (by rw [hab]; simp)]
        simp [hab]
      rw [hw, if_pos (by omega), if_pos (by omega), hb, blank_f, Option.bind_some, hab, trimR_snoc]
      by_cases hbl : blank b = true
      · rw [if_pos hbl, if_pos (by omega), if_pos hbl]
        have he : (s.extract 0 (a.length : Int).toNat).data.toList = a := by
          rw [Lib.extract_data, hab]
          simp
        have hes : (s.extract 0 (a.length : Int).toNat).size = a.length := by rw [size_list, he]
        rw [trim_l1 K _ (by omega) (by omega), he]
      · rw [if_neg hbl, if_neg hbl]
        congr 1
        apply data_inj
        rw [hab]
        rfl
theorem trim_l0 : ∀ (K : Nat) (s : ByteArray), 2 * s.size + 2 < K → s.size ≤ 1000000 → stewardref05_Trim.l0 K s = some (strL (trimR (trimL s.data.toList)))
  | 0, s, h, _ => absurd h (Nat.not_lt_zero _)
  | K + 1, s, h, hs => by
    have hend : ∀ t : List UInt8, s.data.toList = t → stewardref05_Trim.j1 K s = some (strL (trimR t)) := by
      rintro t rfl
      obtain ⟨m, rfl⟩ : ∃ m, K = m + 1 := ⟨K - 1, by omega⟩
      rw [stewardref05_Trim.j1]
      exact trim_l1 m s (by omega) hs
    rw [stewardref05_Trim.l0]
    by_cases h0 : s.data.toList = []
    · rw [if_pos ((toList_nil_iff s).2 h0), hend _ h0, h0]
      rfl
    · rw [if_neg (fun e => h0 ((toList_nil_iff s).1 e))]
      obtain ⟨b, a, hab⟩ : ∃ b a, s.data.toList = b :: a := by
        cases hl : s.data.toList with
        | nil => exact absurd hl h0
        | cons b a => exact ⟨b, a, rfl⟩
      have hsz : s.size = a.length + 1 := by rw [size_list, hab]; simp
      have hb : bt s 0 = (b.toNat : Int) := by
        have := bt_list s 0 (by rw [hab]; simp)
        rw [show (0 : Int) = ((0 : Nat) : Int) from rfl, this]
        simp [hab]
      rw [if_pos (by omega), hb, blank_f, Option.bind_some]
      have htl : trimL (b :: a) = if blank b = true then trimL a else b :: a := by
        unfold trimL
        rw [List.dropWhile_cons]
      by_cases hbl : blank b = true
      · rw [if_pos hbl, if_pos (by omega)]
        have he : (s.extract 1 s.size).data.toList = a := by
          rw [Lib.extract_data, hab, hsz]
          simp
        have hes : (s.extract 1 s.size).size = a.length := by rw [size_list, he]
        rw [trim_l0 K _ (by omega) (by omega), he, hab, htl, if_pos hbl]
      · rw [if_neg hbl, hend _ hab, hab, htl, if_neg hbl]
theorem trim_f (K : Nat) (s : ByteArray) (hK : 2 * s.size + 2 < K) (hs : s.size ≤ 1000000) : stewardref05_Trim.f K s = some (trimS s) := by
  unfold stewardref05_Trim.f
  rw [trim_l0 K s hK hs, trim_comm]
  rfl
/-- Small letters. -/
def lowI (b : UInt8) : Int := ((lowB b).toNat : Int)
theorem lower_l0 : ∀ (d K i : Nat) (s : ByteArray), i + d = s.size → d < K → s.size ≤ 1000000 → stewardref05_Lower.l0 K s ((s.data.toList.take i).map lowI) (i : Int) = some (lowS s) := by
  intro d
  induction d with
  | zero =>
    intro K i s hi hK hs
    obtain ⟨K, rfl⟩ : ∃ m, K = m + 1 := ⟨K - 1, by omega⟩
    rw [stewardref05_Lower.l0, if_neg (by omega), List.take_of_length_le (by rw [← size_list]; omega)]
    congr 1
    have e := Lib.Lz.strOfNums_map (s.data.toList.map lowB)
    rw [List.map_map] at e
    exact e
  | succ d ih =>
    intro K i s hi hK hs
    obtain ⟨K, rfl⟩ : ∃ m, K = m + 1 := ⟨K - 1, by omega⟩
    have hlt : i < s.data.toList.length := by rw [← size_list]; omega
    have hln : ((s.data.toList.take i).map lowI).length ≤ i := by rw [List.length_map, List.length_take]; omega
    have hnx : (s.data.toList.take i).map lowI ++ [lowI s.data.toList[i]] = (s.data.toList.take (i + 1)).map lowI := by
      rw [List.take_succ_eq_append_getElem hlt, List.map_append]
      rfl
    have hlow : ∀ b : UInt8, ((b.toNat : Int) ≥ 65 → (b.toNat : Int) ≤ 90 → ((b.toNat : Int) + 32) % 256 = lowI b) ∧ (¬ ((b.toNat : Int) ≥ 65 ∧ (b.toNat : Int) ≤ 90) → (b.toNat : Int) = lowI b) := by
      intro b
      have : ∀ n : Fin 256, (((UInt8.ofNat n.1).toNat : Int) ≥ 65 → ((UInt8.ofNat n.1).toNat : Int) ≤ 90 → (((UInt8.ofNat n.1).toNat : Int) + 32) % 256 = lowI (UInt8.ofNat n.1)) ∧ (¬ (((UInt8.ofNat n.1).toNat : Int) ≥ 65 ∧ ((UInt8.ofNat n.1).toNat : Int) ≤ 90) → ((UInt8.ofNat n.1).toNat : Int) = lowI (UInt8.ofNat n.1)) := by decide +kernel
      have h := this ⟨b.toNat, b.toNat_lt⟩
      simpa using h
    obtain ⟨q1, q2⟩ := hlow s.data.toList[i]
    rw [stewardref05_Lower.l0, if_pos (by omega), if_pos (by omega), bt_list s i hlt, w64 i (by omega)]
    have hrec := ih K (i + 1) s (by omega) (by omega) hs
    by_cases h1 : ((s.data.toList[i]).toNat : Int) ≥ 65
    · rw [if_pos h1]
      by_cases h2 : ((s.data.toList[i]).toNat : Int) ≤ 90
      · rw [if_pos h2, if_pos (by omega), q1 h1 h2, hnx]
        exact hrec
      · rw [if_neg h2, if_pos (by omega), q2 (fun h => h2 h.2), hnx]
        exact hrec
    · rw [if_neg h1, if_pos (by omega), q2 (fun h => h1 h.1), hnx]
      exact hrec
theorem lower_f (K : Nat) (s : ByteArray) (hK : s.size < K) (hs : s.size ≤ 1000000) : stewardref05_Lower.f K s = some (lowS s) := lower_l0 s.size K 0 s (by omega) hK hs
end Go.Proofs.YtaebjpfgjgnpoaaDoor
set_option linter.unusedVariables false
set_option linter.unusedSimpArgs false
namespace Go.Proofs.YtaebjpfgjgnpoaaDoor
open Go.RowKit Go.Shelf Go.Proofs.YtaebjpfgjgnpoaaDoorW.PrintWords Go.Proofs.YtaebjpfgjgnpoaaDoorW.PrintLast Go.Proofs.YtaebjpfgjgnpoaaDoorW.PrintMore
open Go.Proofs.YtaebjpfgjgnpoaaDoor.PR

theorem is_f (K : Nat) (x : S40) (nm : ByteArray) (M : Nat) (hM : M ≤ 1000000) (h1 : x.f0.size ≤ M) (h2 : nm.size ≤ M) (hK : M < K) : stewardref06_Is.f K x.f0 x.f1 nm = some (foldB x.f0 nm) := by
  unfold stewardref06_Is.f
  rw [lower_f K x.f0 (by omega) (by omega), Option.bind_some, lower_f K nm (by omega) (by omega), Option.bind_some]
  congr 1
  rw [Lib.toList_data, Lib.toList_data]
  unfold foldB
  show (low x.f0.data.toList == low nm.data.toList) = _
  by_cases h : low x.f0.data.toList = low nm.data.toList <;> simp [h]
theorem all_l0 (l : List S40) (nm : ByteArray) (M : Nat) (hM : M ≤ 1000000) (hl : l.length ≤ 1000000) (h1 : ∀ f ∈ l, f.f0.size ≤ M) (h2 : nm.size ≤ M) : ∀ (d K i : Nat), i + d = l.length → d + M + 1 < K → stewardref06_All.l0 K nm (allF (l.take i) nm) l (l.length : Int) (i : Int) = some (allF l nm) := by
  intro d
  induction d with
  | zero =>
    intro K i hi hK
    obtain ⟨K, rfl⟩ : ∃ m, K = m + 1 := ⟨K - 1, by omega⟩
    rw [stewardref06_All.l0, if_neg (by omega), List.take_of_length_le (by omega)]
  | succ d ih =>
    intro K i hi hK
    obtain ⟨K, rfl⟩ : ∃ m, K = m + 1 := ⟨K - 1, by omega⟩
    have hlt : i < l.length := by omega
    have hln := allF_length (l.take i) nm
    rw [List.length_take] at hln
    rw [stewardref06_All.l0, if_pos (by omega), if_pos (by omega), if_pos (by omega), rdT_at l i hlt, is_f K l[i] nm M hM (h1 _ (List.getElem_mem hlt)) h2 (by omega), Option.bind_some, w64 i (by omega)]
    have hs := allF_succ l nm i hlt
    have hrec := ih K (i + 1) (by omega) (by omega)
    rw [hs] at hrec
    by_cases hb : foldB l[i].f0 nm = true
    · rw [if_pos hb, if_pos (by omega)]
      rw [if_pos hb] at hrec
      exact hrec
    · rw [if_neg hb]
      rw [if_neg hb, List.append_nil] at hrec
      exact hrec
theorem all_f (K : Nat) (l : List S40) (nm : ByteArray) (M : Nat) (hM : M ≤ 1000000) (hl : l.length ≤ 1000000) (h1 : ∀ f ∈ l, f.f0.size ≤ M) (h2 : nm.size ≤ M) (hK : l.length + M + 1 < K) : stewardref06_All.f K l nm = some (allF l nm) := all_l0 l nm M hM hl h1 h2 l.length K 0 (by omega) hK
/-- Parts. -/
theorem partsC_free (q : List UInt8) (h : 44 ∉ q) : partsC q = if (trim q).isEmpty = true then [] else [trim q] := by
  unfold partsC
  rw [splitC_free 44 q h, List.map_singleton, List.filter_cons]
  cases (trim q).isEmpty <;> rfl
/-- One piece, taken. -/
def pushP (acc : List ByteArray) (q : List UInt8) : List ByteArray := acc ++ (if (trim q).isEmpty = true then [] else [strL (trim q)])
theorem pushP_parts (acc : List ByteArray) (q : List UInt8) (h : 44 ∉ q) : pushP acc q = acc ++ (partsC q).map strL := by
  unfold pushP
  rw [partsC_free q h]
  cases (trim q).isEmpty <;> rfl
theorem pushP_length (acc : List ByteArray) (q : List UInt8) : (pushP acc q).length ≤ acc.length + 1 := by
  unfold pushP
  rw [List.length_append]
  cases (trim q).isEmpty <;> simp
/-- A piece ends: what is handed on. -/
theorem list_j2 (K : Nat) (acc : List ByteArray) (s : ByteArray) (f p : Nat) (x10 : List ByteArray) (x11 x12 : Int) (hfp : f ≤ p) (hp : p ≤ s.size) (hs : s.size ≤ 1000000) (hK : 2 * s.size + 4 < K) (ha : acc.length < 1000000000) :
    stewardref05_List.j2 K acc s f p x10 x11 x12 false = stewardref05_List.l1 (K - 1) (pushP acc ((s.data.toList.drop f).take (p - f))) s ((p + 1 : Nat) : Int) ((p + 1 : Nat) : Int) x10 x11 x12 := by
  obtain ⟨K, rfl⟩ : ∃ m, K = m + 1 := ⟨K - 1, by omega⟩
  have he : (s.extract (f : Int).toNat (p : Int).toNat).data.toList = (s.data.toList.drop f).take (p - f) := by
    rw [Lib.extract_data]
    simp
  have hes : (s.extract (f : Int).toNat (p : Int).toNat).size ≤ s.size := by
    rw [size_list, he, List.length_take, List.length_drop, ← size_list]
    omega
  rw [stewardref05_List.j2, if_neg (by simp), if_pos (by omega), if_pos (by omega), if_pos (by omega), trim_f K _ (by omega) (by omega), Option.bind_some, w64 p (by omega)]
  have ht : trimS (s.extract (f : Int).toNat (p : Int).toNat) = strL (trim ((s.data.toList.drop f).take (p - f))) := by
    unfold trimS
    rw [he]
  rw [ht]
  unfold pushP
  by_cases hb : (trim ((s.data.toList.drop f).take (p - f))).isEmpty = true
  · rw [if_pos hb, if_pos ((toList_nil_iff _).2 (List.isEmpty_iff.1 hb)), List.append_nil]
    rfl
  · rw [if_neg hb, if_neg (fun e => hb (List.isEmpty_iff.2 ((toList_nil_iff _).1 e))), if_pos (by omega)]
    rfl
theorem list_l1 (s : ByteArray) (hs : s.size ≤ 1000000) (x10 : List ByteArray) (x11 : Int) (i : Nat) (hi : i ≤ 1000000) (r : List ByteArray) (M0 : Nat) : ∀ (d K f p : Nat) (acc : List ByteArray), p + d = s.size → f ≤ p → 44 ∉ (s.data.toList.drop f).take (p - f) → acc.length + d + 2 ≤ 100000000 → M0 + 2 * d + 2 * s.size + 10 ≤ K →
    (∀ m, M0 ≤ m → stewardref05_List.l0 m (acc ++ (partsC (s.data.toList.drop f)).map strL) x10 x11 ((i + 1 : Nat) : Int) = some r) → stewardref05_List.l1 K acc s f p x10 x11 i = some r := by
  intro d
  induction d with
  | zero =>
    intro K f p acc hp hfp hq ha hK hc
    obtain ⟨K, rfl⟩ : ∃ m, K = m + 3 := ⟨K - 3, by omega⟩
    rw [stewardref05_List.l1, if_pos (by omega), if_neg (by omega), list_j2 (K + 2) acc s f p x10 x11 i hfp (by omega) hs (by omega) (by omega), pushP_parts _ _ hq]
    have e : (s.data.toList.drop f).take (p - f) = s.data.toList.drop f := by
      rw [List.take_of_length_le]
      rw [List.length_drop, ← size_list]
      omega
    rw [e]
    show stewardref05_List.l1 (K + 1) _ _ _ _ _ _ _ = _
    rw [stewardref05_List.l1, if_neg (by omega), w64 i (by omega)]
    exact hc K (by omega)
  | succ d ih =>
    intro K f p acc hp hfp hq ha hK hc
    obtain ⟨K, rfl⟩ : ∃ m, K = m + 3 := ⟨K - 3, by omega⟩
    have hlt : p < s.data.toList.length := by rw [← size_list]; omega
    rw [stewardref05_List.l1, if_pos (by omega), if_pos (by omega), if_pos (by omega), bt_list s p hlt]
    have hcut : s.data.toList.drop f = (s.data.toList.drop f).take (p - f) ++ s.data.toList[p] :: s.data.toList.drop (p + 1) := by
      have h1 : (s.data.toList.drop f).drop (p - f) = s.data.toList.drop p := by
        rw [List.drop_drop]
        congr 1
        omega
      conv => lhs; rw [← List.take_append_drop (p - f) (s.data.toList.drop f), h1, List.drop_eq_getElem_cons hlt]
    by_cases hb : s.data.toList[p] = 44
    · have hne : (((s.data.toList[p]).toNat : Int) != 44) = false := by rw [hb]; rfl
      rw [hne, list_j2 (K + 2) acc s f p x10 x11 i hfp (by omega) hs (by omega) (by omega), pushP_parts _ _ hq]
      show stewardref05_List.l1 (K + 1) _ _ _ _ _ _ _ = _
      have hlen := pushP_length acc ((s.data.toList.drop f).take (p - f))
      rw [pushP_parts _ _ hq] at hlen
      refine ih (K + 1) (p + 1) (p + 1) _ (by omega) (Nat.le_refl _) (by simp) (by omega) (by omega) (fun m hm => ?_)
      have h := hc m hm
      rw [hcut, hb, partsC_append, List.map_append, ← List.append_assoc] at h
      exact h
    · have hne : (((s.data.toList[p]).toNat : Int) != 44) = true := by
        rw [bne_iff_ne]
        intro e
        apply hb
        have e2 : (s.data.toList[p]).toNat = 44 := by omega
        exact UInt8.toNat_inj.1 e2
      rw [hne, stewardref05_List.j2, if_pos rfl, w64 p (by omega)]
      refine ih (K + 1) f (p + 1) acc (by omega) (by omega) ?_ (by omega) (by omega) hc
      have e : (s.data.toList.drop f).take (p + 1 - f) = (s.data.toList.drop f).take (p - f) ++ [s.data.toList[p]] := by
        have e0 : p + 1 - f = (p - f) + 1 := by omega
        have hl : p - f < (s.data.toList.drop f).length := by rw [List.length_drop]; omega
        rw [e0, List.take_succ_eq_append_getElem hl]
        congr 2
        rw [List.getElem_drop]
        congr 1
        omega
      rw [e]
      intro hm
      rcases List.mem_append.1 hm with hm | hm
      · exact hq hm
      · exact hb (List.mem_singleton.1 hm).symm
theorem list_l0 (l : List ByteArray) (M : Nat) (hM : M ≤ 1000) (hl : l.length ≤ 1000) (hs : ∀ x ∈ l, x.size ≤ M) : ∀ (d K i : Nat) (acc : List ByteArray), i + d = l.length → acc.length + d * (M + 2) ≤ 10000000 → (d + 1) * (4 * M + 20) ≤ K →
    stewardref05_List.l0 K acc l (l.length : Int) (i : Int) = some (acc ++ (listC ((l.drop i).map (·.data.toList))).map strL) := by
  intro d
  induction d with
  | zero =>
    intro K i acc hi ha hK
    obtain ⟨K, rfl⟩ : ∃ m, K = m + 1 := ⟨K - 1, by omega⟩
    rw [stewardref05_List.l0, if_neg (by omega), List.drop_of_length_le (by omega)]
    simp [listC]
  | succ d ih =>
    intro K i acc hi ha hK
    have hmul : (d + 1 + 1) * (4 * M + 20) = (d + 1) * (4 * M + 20) + (4 * M + 20) := Nat.succ_mul _ _
    have hmul2 : (d + 1) * (M + 2) = d * (M + 2) + (M + 2) := Nat.succ_mul _ _
    obtain ⟨K, rfl⟩ : ∃ m, K = m + 1 := ⟨K - 1, by omega⟩
    have hlt : i < l.length := by omega
    have hsz := hs l[i] (List.getElem_mem hlt)
    rw [stewardref05_List.l0, if_pos (by omega), if_pos (by omega), if_pos (by omega), rdOf_at _ l i hlt]
    refine list_l1 l[i] (by omega) l _ i (by omega) _ ((d + 1) * (4 * M + 20)) l[i].size K 0 0 acc (by omega) (Nat.le_refl _) (by simp) (by omega) (by omega) (fun m hm => ?_)
    have hpl : ((partsC (l[i].data.toList.drop 0)).map strL).length ≤ M + 1 := by
      rw [List.length_map, List.drop_zero]
      unfold partsC
      refine Nat.le_trans (List.length_filter_le _ _) ?_
      rw [List.length_map]
      refine Nat.le_trans (splitC_length 44 _) ?_
      rw [← size_list]
      omega
    rw [ih m (i + 1) _ (by omega) (by rw [List.length_append]; omega) hm]
    rw [List.append_assoc, ← List.map_append]
    congr 2
    rw [List.drop_eq_getElem_cons hlt, List.map_cons]
    unfold listC
    rw [List.flatMap_cons, List.drop_zero]
theorem list_f (K : Nat) (l : List ByteArray) (M : Nat) (hM : M ≤ 1000) (hl : l.length ≤ 1000) (hs : ∀ x ∈ l, x.size ≤ M) (hK : (l.length + 1) * (4 * M + 20) ≤ K) : stewardref05_List.f K l = some (listS l) := by
  unfold stewardref05_List.f
  have hb : l.length * (M + 2) ≤ 1000 * 1002 := Nat.mul_le_mul hl (by omega)
  have h := list_l0 l M hM hl hs l.length K 0 [] (by omega) (by simp; omega) hK
  rw [List.nil_append, List.drop_zero, ← listS_eq] at h
  exact h
end Go.Proofs.YtaebjpfgjgnpoaaDoor
set_option linter.unusedVariables false
set_option linter.unusedSimpArgs false
namespace Go.Proofs.YtaebjpfgjgnpoaaDoor
open Go.RowKit Go.Shelf Go.Proofs.YtaebjpfgjgnpoaaDoorW.PrintWords Go.Proofs.YtaebjpfgjgnpoaaDoorW.PrintLast Go.Proofs.YtaebjpfgjgnpoaaDoorW.PrintMore
open Go.Proofs.YtaebjpfgjgnpoaaDoor.PR

theorem inter_length (l : List (List UInt8)) (h : ∀ x ∈ l, x.length ≤ 40) : ([44].intercalate l).length ≤ 41 * l.length := by
  induction l with
  | nil => simp [List.intercalate]
  | cons a l ih =>
    have ha := h a (by simp)
    have hr := ih (fun x hx => h x (by simp [hx]))
    cases l with
    | nil => simp [List.intercalate]; omega
    | cons b l =>
      have e : [44].intercalate (a :: b :: l) = a ++ 44 :: [44].intercalate (b :: l) := by simp [List.intercalate]
      rw [e, List.length_append, List.length_cons]
      simp only [List.length_cons] at hr ⊢
      omega
theorem joinS_size (l : List ByteArray) (h : ∀ x ∈ l, x.size ≤ 40) : (joinS l).size ≤ 41 * l.length := by
  unfold joinS
  rw [strL_size]
  have := inter_length (l.map (·.data.toList)) (fun x hx => by
    obtain ⟨y, hy, rfl⟩ := List.mem_map.1 hx
    rw [← size_list]
    exact h y hy)
  rw [List.length_map] at this
  exact this
/-- Few and short fields. -/
def Short (l : List S40) : Prop := l.length ≤ 12 ∧ ∀ f ∈ l, f.f0.size ≤ 20 ∧ f.f1.size ≤ 40
theorem Short.few (l : List S40) : Short (fewOf l 12) := by
  refine ⟨fewOf_length l 12, fun f hf => ?_⟩
  obtain ⟨x, _, rfl⟩ := List.mem_map.1 hf
  exact ⟨cutN_size 20 _, cutN_size 40 _⟩
theorem Short.all {l : List S40} (h : Short l) (nm : ByteArray) : (allF l nm).length ≤ 12 ∧ ∀ x ∈ allF l nm, x.size ≤ 40 := by
  refine ⟨Nat.le_trans (allF_length l nm) h.1, fun x hx => ?_⟩
  obtain ⟨f, hf, rfl⟩ := List.mem_map.1 hx
  exact (h.2 f (List.mem_filter.1 hf).1).2
theorem Short.join {l : List S40} (h : Short l) (nm : ByteArray) : (joinS (allF l nm)).size ≤ 492 := by
  obtain ⟨h1, h2⟩ := h.all nm
  have := joinS_size (allF l nm) h2
  omega
theorem tokens_l0 (l : List ByteArray) (hl : l.length ≤ 1000) (hs : ∀ x ∈ l, x.size ≤ 1000) : ∀ (d K i : Nat) (acc : List ByteArray), i + d = l.length → acc.length ≤ i → d + 1002 < K →
    stewardref06_Tokens.l0 K acc l (l.length : Int) (i : Int) = some (acc ++ (l.drop i).map lowS) := by
  intro d
  induction d with
  | zero =>
    intro K i acc hi ha hK
    obtain ⟨K, rfl⟩ : ∃ m, K = m + 1 := ⟨K - 1, by omega⟩
    rw [stewardref06_Tokens.l0, if_neg (by omega), List.drop_of_length_le (by omega)]
    simp
  | succ d ih =>
    intro K i acc hi ha hK
    obtain ⟨K, rfl⟩ : ∃ m, K = m + 1 := ⟨K - 1, by omega⟩
    have hlt : i < l.length := by omega
    have hsz := hs l[i] (List.getElem_mem hlt)
    rw [stewardref06_Tokens.l0, if_pos (by omega), if_pos (by omega), if_pos (by omega), rdOf_at _ l i hlt, lower_f K l[i] (by omega) (by omega), Option.bind_some, if_pos (by omega), w64 i (by omega)]
    rw [ih K (i + 1) _ (by omega) (by simp; omega) (by omega), List.drop_eq_getElem_cons hlt, List.map_cons, List.append_assoc]
    rfl
theorem tokens_f (K : Nat) (l : List S40) (h : Short l) (nm : ByteArray) (hn : nm.size ≤ 20) (hK : 5000 ≤ K) : stewardref06_Tokens.f K l nm = some (tokS l nm) := by
  obtain ⟨h1, h2⟩ := h.all nm
  have hj := h.join nm
  have hll := listS_length (allF l nm)
  have hl := h.1
  unfold stewardref06_Tokens.f
  have hKl : ((allF l nm).length + 1) * (4 * 40 + 20) ≤ K := Nat.le_trans (Nat.mul_le_mul (Nat.succ_le_succ h1) (Nat.le_refl _)) (by omega)
  rw [all_f K l nm 20 (by omega) (by omega) (fun f hf => (h.2 f hf).1) hn (by omega), Option.bind_some, list_f K (allF l nm) 40 (by omega) (by omega) h2 hKl, Option.bind_some]
  have ht := tokens_l0 (listS (allF l nm)) (by omega) (fun x hx => Nat.le_trans (listS_size _ x hx) (by omega)) (listS (allF l nm)).length K 0 [] (by omega) (Nat.le_refl _) (by omega)
  rw [List.nil_append, List.drop_zero] at ht
  exact ht
/-- What the reference holds for hop by hop. -/
def lowHops : List ByteArray := [⟨#[99, 111, 110, 110, 101, 99, 116, 105, 111, 110]⟩, ⟨#[107, 101, 101, 112, 45, 97, 108, 105, 118, 101]⟩, ⟨#[112, 114, 111, 120, 121, 45, 99, 111, 110, 110, 101, 99, 116, 105, 111, 110]⟩, ⟨#[112, 114, 111, 120, 121, 45, 97, 117, 116, 104, 101, 110, 116, 105, 99, 97, 116, 101]⟩, ⟨#[112, 114, 111, 120, 121, 45, 97, 117, 116, 104, 111, 114, 105, 122, 97, 116, 105, 111, 110]⟩, ⟨#[116, 101]⟩, ⟨#[116, 114, 97, 105, 108, 101, 114]⟩, ⟨#[116, 114, 97, 110, 115, 102, 101, 114, 45, 101, 110, 99, 111, 100, 105, 110, 103]⟩, ⟨#[117, 112, 103, 114, 97, 100, 101]⟩]
def conS : ByteArray := ⟨#[99, 111, 110, 110, 101, 99, 116, 105, 111, 110]⟩
theorem lowHops_eq : hopsL.map lowS = lowHops := by decide
theorem conS_eq : lowS connS = conS := by decide
def sameL (x n : ByteArray) : Bool := decide (x.data.toList = n.data.toList)
def hopB (x : ByteArray) (named : List ByteArray) : Bool := lowHops.any (sameL x) || (outS keptB named).any (sameL x)
theorem hop_l1 (x : ByteArray) (named : List ByteArray) (hl : named.length ≤ 100000) : ∀ (d K i : Nat), i + d = named.length → d < K → stewardref12_Hop.l1 K x named (named.length : Int) (i : Int) = some ((outS keptB (named.drop i)).any (sameL x)) := by
  intro d
  induction d with
  | zero =>
    intro K i hi hK
    obtain ⟨K, rfl⟩ : ∃ m, K = m + 1 := ⟨K - 1, by omega⟩
    rw [stewardref12_Hop.l1, if_neg (by omega), List.drop_of_length_le (by omega)]
    rfl
  | succ d ih =>
    intro K i hi hK
    obtain ⟨K, rfl⟩ : ∃ m, K = m + 1 := ⟨K - 1, by omega⟩
    have hlt : i < named.length := by omega
    rw [stewardref12_Hop.l1, if_pos (by omega), if_pos (by omega), if_pos (by omega), rdOf_at _ named i hlt, w64 i (by omega), ih K (i + 1) (by omega) (by omega), List.drop_eq_getElem_cons hlt]
    have hcons : (outS keptB (named[i] :: named.drop (i + 1))).any (sameL x) = if keptB named[i] = true then (outS keptB (named.drop (i + 1))).any (sameL x) else (sameL x named[i] || (outS keptB (named.drop (i + 1))).any (sameL x)) := by
      unfold outS
      rw [List.filter_cons]
      cases keptB named[i] <;> rfl
    rw [hcons, Lib.toList_data x, Lib.toList_data named[i]]
    by_cases h1 : x.data.toList = named[i].data.toList
    · rw [if_pos h1]
      by_cases h2 : named[i].data.toList = ([104, 111, 115, 116] : List UInt8)
      · rw [if_pos h2, if_pos (by unfold keptB; rw [Lib.toList_data, h2]; rfl)]
      · rw [if_neg h2]
        by_cases h3 : named[i].data.toList = ([99, 111, 110, 116, 101, 110, 116, 45, 108, 101, 110, 103, 116, 104] : List UInt8)
        · rw [if_pos h3, if_pos (by unfold keptB; rw [Lib.toList_data, h3]; rfl)]
        · rw [if_neg h3, if_neg (by unfold keptB; rw [Lib.toList_data, decide_eq_false h2]; simp [h3])]
          have : sameL x named[i] = true := decide_eq_true h1
          rw [this]
          rfl
    · rw [if_neg h1]
      have : sameL x named[i] = false := decide_eq_false h1
      rw [this, Bool.false_or, ite_self]
theorem hop_l0 (x : ByteArray) (named : List ByteArray) (hl : named.length ≤ 100000) (hops : List ByteArray) (hh : hops.length ≤ 100) : ∀ (d K i : Nat), i + d = hops.length → d + named.length + 2 < K → stewardref12_Hop.l0 K named x hops (hops.length : Int) (i : Int) = some ((hops.drop i).any (sameL x) || (outS keptB named).any (sameL x)) := by
  intro d
  induction d with
  | zero =>
    intro K i hi hK
    obtain ⟨K, rfl⟩ : ∃ m, K = m + 1 := ⟨K - 1, by omega⟩
    rw [stewardref12_Hop.l0, if_neg (by omega), List.drop_of_length_le (by omega)]
    exact hop_l1 x named hl named.length K 0 (by omega) (by omega)
  | succ d ih =>
    intro K i hi hK
    obtain ⟨K, rfl⟩ : ∃ m, K = m + 1 := ⟨K - 1, by omega⟩
    have hlt : i < hops.length := by omega
    rw [stewardref12_Hop.l0, if_pos (by omega), if_pos (by omega), if_pos (by omega), rdOf_at _ hops i hlt, w64 i (by omega), ih K (i + 1) (by omega) (by omega), List.drop_eq_getElem_cons hlt, List.any_cons, Lib.toList_data x, Lib.toList_data hops[i]]
    by_cases h1 : x.data.toList = hops[i].data.toList
    · rw [if_pos h1, show sameL x hops[i] = true from decide_eq_true h1]
      rfl
    · rw [if_neg h1, show sameL x hops[i] = false from decide_eq_false h1, Bool.false_or]
theorem hop_f (K : Nat) (a : ByteArray) (named : List ByteArray) (ha : a.size ≤ 1000) (hl : named.length ≤ 1000) (hK : 3000 ≤ K) : stewardref12_Hop.f K a named = some (hopB (lowS a) named) := by
  unfold stewardref12_Hop.f
  rw [lower_f K a (by omega) (by omega), Option.bind_some, Option.bind_some]
  exact hop_l0 (lowS a) named (by omega) lowHops (by decide) 9 K 0 rfl (by omega)
def isHop (named : List ByteArray) (f : S40) : Bool := hopB (lowS f.f0) named
theorem hops_l0 (l : List S40) (hl : l.length ≤ 1000) (h1 : ∀ f ∈ l, f.f0.size ≤ 1000) (named : List ByteArray) (hn : named.length ≤ 1000) : ∀ (d K i : Nat), i + d = l.length → d + 3001 < K → stewardref12_Hops.l0 K named (outS (isHop named) (l.take i)) l (l.length : Int) (i : Int) = some (outS (isHop named) l) := by
  intro d
  induction d with
  | zero =>
    intro K i hi hK
    obtain ⟨K, rfl⟩ : ∃ m, K = m + 1 := ⟨K - 1, by omega⟩
    rw [stewardref12_Hops.l0, if_neg (by omega), List.take_of_length_le (by omega)]
  | succ d ih =>
    intro K i hi hK
    obtain ⟨K, rfl⟩ : ∃ m, K = m + 1 := ⟨K - 1, by omega⟩
    have hlt : i < l.length := by omega
    have hlen := outS_length (isHop named) (l.take i)
    rw [List.length_take] at hlen
    have hrec := ih K (i + 1) (by omega) (by omega)
    rw [outS_succ hlt] at hrec
    rw [stewardref12_Hops.l0, if_pos (by omega), if_pos (by omega), if_pos (by omega), rdT_at l i hlt, hop_f K _ named (h1 _ (List.getElem_mem hlt)) hn (by omega), Option.bind_some, w64 i (by omega)]
    by_cases hb : hopB (lowS l[i].f0) named = true
    · rw [if_pos hb]
      have hb2 : isHop named l[i] = true := hb
      rw [if_pos hb2, List.append_nil] at hrec
      exact hrec
    · rw [if_neg hb, if_pos (by omega)]
      have hb2 : ¬ isHop named l[i] = true := hb
      rw [if_neg hb2] at hrec
      exact hrec
theorem refHops_f (K : Nat) (l : List S40) (h : Short l) (hK : 6000 ≤ K) : stewardref12_Hops.f K l = some (outS (isHop (tokS l conS)) l) := by
  have hl := h.1
  have hj := h.join conS
  have htl := tokS_length l conS
  unfold stewardref12_Hops.f
  rw [show (⟨#[99, 111, 110, 110, 101, 99, 116, 105, 111, 110]⟩ : ByteArray) = conS from rfl, tokens_f K l h conS (by decide) (by omega), Option.bind_some]
  exact hops_l0 l (by omega) (fun f hf => Nat.le_trans (h.2 f hf).1 (by omega)) (tokS l conS) (by omega) l.length K 0 (by omega) (by omega)
/-- The program's answer. -/
theorem foldB_low (a n : ByteArray) : foldB a n = sameL (lowS a) (lowS n) := rfl
theorem lowS_lowS (a : ByteArray) : lowS (lowS a) = lowS a := by
  apply data_inj
  show low (low a.data.toList) = low a.data.toList
  exact low_low _
theorem allF_con (l : List S40) : allF l connS = allF l conS := by
  unfold allF
  rw [show (fun f : S40 => foldB f.f0 connS) = (fun f => foldB f.f0 conS) from funext fun f => by rw [foldB_low, foldB_low, ← conS_eq, lowS_lowS]]
theorem tokS_con (l : List S40) : tokS l connS = tokS l conS := by
  unfold tokS
  rw [allF_con]
theorem outS_outS {α : Type} (p q : α → Bool) (l : List α) : outS p (outS q l) = outS (fun x => q x || p x) l := by
  unfold outS
  rw [List.filter_filter]
  congr 1
  funext x
  show (!p x && !q x) = !(q x || p x)
  cases q x <;> cases p x <;> rfl
theorem hops_same (l : List S40) : hopsF l = outS (isHop (tokS l conS)) l := by
  unfold hopsF dropF
  rw [outS_outS]
  congr 1
  funext f
  unfold isHop hopB
  have hA : inN hopsL f = lowHops.any (sameL (lowS f.f0)) := by
    rw [← lowHops_eq, List.any_map]
    rfl
  have hB : inN (namedF l) f = (outS keptB (tokS l conS)).any (sameL (lowS f.f0)) := by
    unfold namedF inN
    rw [tokS_con]
    have : ∀ n ∈ outS keptB (tokS l conS), foldB f.f0 n = sameL (lowS f.f0) n := by
      intro n hn
      obtain ⟨y, hy, rfl⟩ := List.mem_map.1 (outS_mem hn)
      rw [foldB_low, lowS_lowS]
    rw [Bool.eq_iff_iff, List.any_eq_true, List.any_eq_true]
    constructor
    · rintro ⟨n, hn, h⟩
      exact ⟨n, hn, by rw [← this n hn]; exact h⟩
    · rintro ⟨n, hn, h⟩
      exact ⟨n, hn, by rw [this n hn]; exact h⟩
  rw [hA, hB]
end Go.Proofs.YtaebjpfgjgnpoaaDoor
