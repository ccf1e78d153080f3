/- The plain law: the first few; when a ring may be made. -/
import Derived.Test.YtbcmmmcbineipaaDoorPRx1
import Derived.Test.YtbcmmmcbineipaaDoorAwk
set_option linter.unusedVariables false
set_option linter.unusedSimpArgs false
namespace Go.Proofs.YtbcmmmcbineipaaDoor
open Go.RowKit Go.Proofs.YtbcmmmcbineipaaDoorW.PrintWords Go.Proofs.YtbcmmmcbineipaaDoorW.PrintLast Go.Proofs.YtbcmmmcbineipaaDoorW.PrintMore
open Go.Proofs.YtbcmmmcbineipaaDoor.PR
def cut12 (s : ByteArray) : ByteArray := if 12 < s.size then s.extract 0 12 else s
theorem cut12_some (s : ByteArray) : stewardlaw01_Cut.f s 12 = some (cut12 s) := by
  unfold stewardlaw01_Cut.f cut12
  by_cases h : 12 < s.size
  · rw [if_pos (by omega), if_pos (by omega), if_pos (by omega), if_pos h]; rfl
  · rw [if_neg (by omega), if_neg h]
theorem cut12_size (s : ByteArray) : (cut12 s).size ≤ 12 := by
  unfold cut12
  split
  · rw [ByteArray.size_extract]; omega
  · omega
def fewE (e : S46) : S46 := ⟨⟨#[110]⟩ ++ cut12 e.f0, e.f1⟩
def fewOf (l : List S46) (n : Nat) : List S46 := (l.take n).map fewE
theorem fewOf_length (l : List S46) (n : Nat) : (fewOf l n).length ≤ n := by simp [fewOf]; omega
theorem fewOf_size (l : List S46) (n : Nat) (e : S46) (h : e ∈ fewOf l n) : e.f0.size ≤ 13 := by
  obtain ⟨x, _, rfl⟩ := List.mem_map.1 h
  have := cut12_size x.f0
  show (⟨#[110]⟩ ++ cut12 x.f0 : ByteArray).size ≤ 13
  rw [ByteArray.size_append]
  show 1 + _ ≤ 13
  omega
theorem few_some (l : List S46) (n : Nat) (hn : n ≤ 1000) : ∀ (d i : Nat), i + d = min l.length n → stewardlaw18_Few.l0 (d + 1) l n (fewOf l i) i = some (fewOf l n) := by
  intro d
  induction d with
  | zero =>
    intro i hi
    have he : fewOf l i = fewOf l n := by
      unfold fewOf
      congr 1
      rcases Nat.le_total l.length n with h | h
      · rw [List.take_of_length_le (by omega), List.take_of_length_le (by omega)]
      · have : i = n := by omega
        rw [this]
    rw [stewardlaw18_Few.l0]
    by_cases h1 : (i : Int) < l.length
    · rw [if_pos h1, if_neg (by omega), he]
    · rw [if_neg h1, he]
  | succ d ih =>
    intro i hi
    have h1 : i < l.length := by omega
    have e1 : wrap64 ((i : Int) + 1) = ((i + 1 : Nat) : Int) := by unfold wrap64; omega
    have e2 : rd_T46 l (i : Int) = l[i] := by simp [rd_T46, List.getD_eq_getElem?_getD, List.getElem?_eq_getElem h1]
    have e3 : fewOf l i ++ [⟨⟨#[110]⟩ ++ cut12 l[i].f0, l[i].f1⟩] = fewOf l (i + 1) := by
      unfold fewOf
      rw [List.take_succ_eq_append_getElem h1, List.map_append]
      rfl
    have e4 := fewOf_length l i
    rw [stewardlaw18_Few.l0, if_pos (by omega), if_pos (by omega), if_pos (by omega), e2, cut12_some]
    have e5 := cut12_size l[i].f0
    simp only [Option.bind_some]
    rw [if_pos (by omega), if_pos (by omega), e1, e3]
    exact ih (i + 1) (by omega)
theorem few_f (l : List S46) (n : Nat) (hn : n ≤ 1000) : stewardlaw18_Few.f (min l.length n + 1) l n = some (fewOf l n) := few_some l n hn (min l.length n) 0 (by omega)
/-- A ring may be made. -/
def okW (e : S46) : Prop := 1 ≤ e.f1 ∧ e.f1 ≤ 65535
def good (l : List S46) : Prop := (l.map fun e => e.f0.toList).Nodup ∧ ∀ e ∈ l, okW e
def okAt (l : List S46) (m : Nat) : Prop := ∀ (hm : m < l.length), (∀ (j : Nat) (hj : j < m), (l[j]'(by omega)).f0.toList ≠ l[m].f0.toList) ∧ okW l[m]
theorem good_iff (l : List S46) : good l ↔ ∀ m, okAt l m := by
  unfold good okAt
  rw [List.nodup_iff_pairwise_ne, List.pairwise_iff_getElem]
  constructor
  · rintro ⟨h1, h2⟩ m hm
    refine ⟨fun j hj => ?_, h2 _ (List.getElem_mem hm)⟩
    have := h1 j m (by simp; omega) (by simp; omega) hj
    simpa using this
  · intro h
    refine ⟨fun i j hi hj hij => ?_, fun e he => ?_⟩
    · have := (h j (by simpa using hj)).1 i hij
      simpa using this
    · obtain ⟨m, hm, rfl⟩ := List.getElem_of_mem he
      exact (h m hm).2
theorem ref_l1 (l : List S46) (hl : l.length ≤ 1000) (i : Nat) (hi : i < l.length) (hP : ∃ k r, stewardref19_Check.l0 k l l l.length ((i + 1 : Nat) : Int) = some r ∧ (r = 0 ∨ r = 1) ∧ (r = 0 ↔ ∀ m, i + 1 ≤ m → okAt l m)) :
    ∀ (d j : Nat), j + d = i → ∃ k r, stewardref19_Check.l1 k l l l.length i (l.take i) i j l[i].f0 l[i].f1 = some r ∧ (r = 0 ∨ r = 1) ∧ (r = 0 ↔ (∀ (q : Nat) (hq : q < i), j ≤ q → (l[q]'(by omega)).f0.toList ≠ l[i].f0.toList) ∧ okW l[i] ∧ ∀ m, i + 1 ≤ m → okAt l m) := by
  intro d
  induction d with
  | zero =>
    intro j hj
    obtain ⟨k, r, h1, h2, h3⟩ := hP
    have e1 : wrap64 ((i : Int) + 1) = ((i + 1 : Nat) : Int) := by unfold wrap64; omega
    by_cases w1 : l[i].f1 < 1
    · exact ⟨k + 1, 1, by rw [stewardref19_Check.l1, if_neg (by omega), if_pos w1], .inr rfl, ⟨fun h => absurd h (by omega), fun h => absurd h.2.1.1 (by omega)⟩⟩
    · by_cases w2 : 65535 < l[i].f1
      · exact ⟨k + 1, 1, by rw [stewardref19_Check.l1, if_neg (by omega), if_neg w1, if_pos w2], .inr rfl, ⟨fun h => absurd h (by omega), fun h => absurd h.2.1.2 (by omega)⟩⟩
      · refine ⟨k + 1, r, by rw [stewardref19_Check.l1, if_neg (by omega), if_neg w1, if_neg (by omega), e1]; exact h1, h2, ?_⟩
        rw [h3]
        exact ⟨fun h => ⟨fun q hq hjq => absurd hq (by omega), ⟨by omega, by omega⟩, h⟩, fun h => h.2.2⟩
  | succ d ih =>
    intro j hj
    obtain ⟨k, r, h1, h2, h3⟩ := ih (j + 1) (by omega)
    have e1 : wrap64 ((j : Int) + 1) = ((j + 1 : Nat) : Int) := by unfold wrap64; omega
    have hjl : j < l.length := by omega
    have hlt : (l.take i).length = i := by simp; omega
    have e2 : rd_T46 (l.take i) (j : Int) = l[j] := by
      simp [rd_T46, List.getD_eq_getElem?_getD, List.getElem?_take, show j < i by omega, List.getElem?_eq_getElem hjl]
    by_cases hn : l[j].f0.toList = l[i].f0.toList
    · refine ⟨k + 1, 1, ?_, .inr rfl, ⟨fun h => absurd h (by omega), fun h => absurd hn (h.1 j (by omega) (Nat.le_refl _))⟩⟩
      rw [stewardref19_Check.l1, if_pos (by omega), if_pos (by omega), hlt, if_pos (by omega), e2, if_pos hn]
    · refine ⟨k + 1, r, ?_, h2, ?_⟩
      · rw [stewardref19_Check.l1, if_pos (by omega), if_pos (by omega), hlt, if_pos (by omega), e2, if_neg hn, e1]
        exact h1
      · rw [h3]
        refine ⟨fun h => ⟨fun q hq hjq => ?_, h.2⟩, fun h => ⟨fun q hq hjq => h.1 q hq (by omega), h.2⟩⟩
        rcases Nat.lt_or_ge j q with hlt2 | hge
        · exact h.1 q hq hlt2
        · obtain rfl : q = j := by omega
          exact hn
theorem ref_l0 (l : List S46) (hl : l.length ≤ 1000) : ∀ (d i : Nat), i + d = l.length → ∃ k r, stewardref19_Check.l0 k l l l.length i = some r ∧ (r = 0 ∨ r = 1) ∧ (r = 0 ↔ ∀ m, i ≤ m → okAt l m) := by
  intro d
  induction d with
  | zero =>
    intro i hi
    exact ⟨1, 0, by rw [stewardref19_Check.l0, if_neg (by omega)], .inl rfl, ⟨fun _ m hm hml => absurd hml (by omega), fun _ => rfl⟩⟩
  | succ d ih =>
    intro i hi
    have hil : i < l.length := by omega
    obtain ⟨k, r, h1, h2, h3⟩ := ref_l1 l hl i hil (ih (i + 1) (by omega)) i 0 (by omega)
    have hlt : (l.take i).length = i := by simp; omega
    have e2 : rd_T46 l (i : Int) = l[i] := by simp [rd_T46, List.getD_eq_getElem?_getD, List.getElem?_eq_getElem hil]
    refine ⟨k + 1, r, ?_, h2, ?_⟩
    · rw [stewardref19_Check.l0, if_pos (by omega), if_pos (by omega), if_pos (by omega), if_pos (by omega), e2]
      simp only [Option.bind_some, Int.toNat_natCast, hlt]
      exact h1
    · rw [h3]
      constructor
      · rintro ⟨ha, hb, hc⟩ m hm
        rcases Nat.lt_or_ge i m with hlt2 | hge
        · exact hc m hlt2
        · obtain rfl : m = i := by omega
          exact fun _ => ⟨fun j hj => ha j hj (Nat.zero_le _), hb⟩
      · intro h
        have := h i (Nat.le_refl _) hil
        exact ⟨fun q hq _ => this.1 q hq, this.2, fun m hm => h m (by omega)⟩
theorem ref_check (l : List S46) (hl : l.length ≤ 1000) : ∃ k r, stewardref19_Check.f k l = some r ∧ (r = 0 ∨ r = 1) ∧ (r = 0 ↔ good l) := by
  obtain ⟨k, r, h1, h2, h3⟩ := ref_l0 l hl l.length 0 (by omega)
  refine ⟨k, r, by rw [stewardref19_Check.f, if_neg (by omega)]; exact h1, h2, ?_⟩
  rw [h3, good_iff]
  exact ⟨fun h m => h m (Nat.zero_le _), fun h m _ => h m⟩
end Go.Proofs.YtbcmmmcbineipaaDoor
