/- The plain law: when a ring may be made; its points do not hang on the entries' order. -/
import Derived.Test.YtbcmmmcbineipaaDoorLawA
set_option linter.unusedVariables false
set_option linter.unusedSimpArgs false
namespace Go.Proofs.YtbcmmmcbineipaaDoor
open Go.RowKit Go.Maps Go.Proofs.YtbcmmmcbineipaaDoorW.PrintWords Go.Proofs.YtbcmmmcbineipaaDoorW.PrintLast Go.Proofs.YtbcmmmcbineipaaDoorW.PrintMore
open Go.Proofs.YtbcmmmcbineipaaDoor.PR
theorem any_same (A : List (List UInt8)) (k : List UInt8) : (A.map Lit.string).any (fun y => y.sameKey (.string k)) = decide (k ∈ A) := by
  induction A with
  | nil => simp
  | cons a A ih =>
    rw [List.map_cons, List.any_cons, ih]
    simp only [Lit.sameKey, List.mem_cons]
    by_cases h : a = k
    · simp [h]
    · have h' : ¬ k = a := fun e => h e.symm
      simp [h, h']
theorem fold_add (ks : List (List UInt8)) : ∀ A : List (List UInt8), ((ks.map Lit.string).foldl addKey (A.map Lit.string)).length ≤ A.length + ks.length ∧ (((ks.map Lit.string).foldl addKey (A.map Lit.string)).length = A.length + ks.length ↔ ks.Nodup ∧ ∀ k ∈ ks, k ∉ A) := by
  induction ks with
  | nil => intro A; simp
  | cons k ks ih =>
    intro A
    rw [List.map_cons, List.foldl_cons, addKey, any_same]
    by_cases h : k ∈ A
    · rw [if_pos (by simpa using h)]
      obtain ⟨h1, _⟩ := ih A
      refine ⟨by simp only [List.length_cons]; omega, ⟨fun e => ?_, fun e => absurd h (e.2 k (by simp))⟩⟩
      simp only [List.length_cons] at e
      omega
    · rw [if_neg (by simpa using h)]
      have e1 : A.map Lit.string ++ [Lit.string k] = (A ++ [k]).map Lit.string := by simp
      rw [e1]
      obtain ⟨h1, h2⟩ := ih (A ++ [k])
      have e2 : (A ++ [k]).length + ks.length = A.length + (k :: ks).length := by simp; omega
      rw [e2] at h1 h2
      refine ⟨h1, h2.trans ?_⟩
      rw [List.nodup_cons]
      constructor
      · rintro ⟨ha, hb⟩
        refine ⟨⟨fun hk => hb k hk (by simp), ha⟩, fun q hq => ?_⟩
        rcases List.mem_cons.1 hq with rfl | hq
        · exact h
        · exact fun hA => hb q hq (by simp [hA])
      · rintro ⟨⟨ha, hb⟩, hc⟩
        refine ⟨hb, fun q hq hA => ?_⟩
        rcases List.mem_append.1 hA with hA | hA
        · exact hc q (by simp [hq]) hA
        · obtain rfl : q = k := by simpa using hA
          exact ha hq
theorem keys_eq (l : List S46) : keysOf l = (l.map fun e => e.f0.toList).map Lit.string := by
  unfold keysOf keyL
  rw [List.map_map]
  apply List.map_congr_left
  intro e _
  show Lit.string e.f0.data.toList = Lit.string e.f0.toList
  rw [Lib.toList_data]
theorem size_names (l : List S46) (hs : ∀ e ∈ l, e.f0.size ≤ maxLen) : Maps.size (setN l) ≤ l.length ∧ (Maps.size (setN l) = l.length ↔ (l.map fun e => e.f0.toList).Nodup) := by
  have hk : ∀ x ∈ keysOf l, WideAt.IsKeyLit x := by
    intro x hx
    obtain ⟨e, he, rfl⟩ := List.mem_map.1 hx
    exact trivial
  have h := fold_add (l.map fun e => e.f0.toList) []
  unfold setN
  rw [size_setOf _ _ hk, keys_eq]
  simp only [List.map_nil, List.length_nil, Nat.zero_add, List.length_map] at h
  refine ⟨h.1, h.2.trans ?_⟩
  simp
theorem bad_iff (l : List S46) : l.any badW = false ↔ ∀ e ∈ l, okW e := by
  rw [List.any_eq_false]
  constructor
  · intro h e he
    have := h e he
    simp only [badW, Bool.or_eq_true, decide_eq_true_eq] at this
    unfold okW
    omega
  · intro h e he
    have := h e he
    simp only [badW, Bool.or_eq_true, decide_eq_true_eq]
    unfold okW at this
    omega
theorem chk_01 (l : List S46) : chk l = 0 ∨ chk l = 1 := by
  unfold chk
  split
  · exact .inr rfl
  · split
    · exact .inr rfl
    · split
      · exact .inr rfl
      · exact .inl rfl
theorem chk_good (l : List S46) (hl : l.length ≤ 1000) (hs : ∀ e ∈ l, e.f0.size ≤ maxLen) : chk l = 0 ↔ good l := by
  obtain ⟨h1, h2⟩ := size_names l hs
  unfold chk good
  cases hb : l.any badW with
  | true =>
    rw [if_pos rfl]
    refine ⟨fun h => absurd h (by omega), fun h => ?_⟩
    have := (bad_iff l).2 h.2
    rw [this] at hb
    cases hb
  | false =>
    rw [if_neg (by decide), if_neg (by omega)]
    have hw := (bad_iff l).1 hb
    by_cases hlt : Maps.size (setN l) < l.length
    · rw [if_pos hlt]
      refine ⟨fun h => absurd h (by omega), fun h => ?_⟩
      have := h2.2 h.1
      omega
    · rw [if_neg hlt]
      exact ⟨fun _ => ⟨h2.1 (by omega), hw⟩, fun _ => rfl⟩
theorem good_perm {a b : List S46} (h : a.Perm b) : good a ↔ good b := by
  unfold good
  rw [(h.map _).nodup_iff]
  exact ⟨fun k => ⟨k.1, fun e he => k.2 e (h.mem_iff.2 he)⟩, fun k => ⟨k.1, fun e he => k.2 e (h.mem_iff.1 he)⟩⟩
theorem greatest_perm {a b : List S46} (h : a.Perm b) : greatest a = greatest b := by
  unfold greatest
  exact h.foldl_eq' (fun x _ y _ z => by show max (max z x.f1) y.f1 = max (max z y.f1) x.f1; omega) 1
theorem raw_perm (kb : List Int) (per : Int) {a b : List S46} (h : a.Perm b) : (rawPts kb per a).Perm (rawPts kb per b) := by
  unfold rawPts
  rw [greatest_perm h]
  exact h.flatMap_right _
theorem sorted_eq {a b : List S67} (h : a.Perm b) (ha : a.Pairwise (fun x y => ¬ ltP y x)) (hb : b.Pairwise (fun x y => ¬ ltP y x)) : a = b :=
  List.Perm.eq_of_pairwise (fun x y _ _ h1 h2 => by
    rcases ltP_tri x y with k | k | k
    · exact absurd k h2
    · exact k
    · exact absurd k h1) ha hb h
theorem ring_perm (kb : List Int) (per : Int) {a b : List S46} (h : a.Perm b) : ptSort (rawPts kb per a) = ptSort (rawPts kb per b) :=
  sorted_eq ((ptSort_perm _).trans ((raw_perm kb per h).trans (ptSort_perm _).symm)) (ptSort_sorted _) (ptSort_sorted _)
end Go.Proofs.YtbcmmmcbineipaaDoor
