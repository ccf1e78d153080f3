/- Fields of a message: the words, and the plain laws of small letters, of trimming and of parting at commas. -/
namespace Go.Proofs.YtaebjpfgjgnpoaaDoor
def lowB (b : UInt8) : UInt8 := if 65 ≤ b ∧ b ≤ 90 then b + 32 else b
def low (s : List UInt8) : List UInt8 := s.map lowB
theorem lowB_lowB (b : UInt8) : lowB (lowB b) = lowB b := by
  have : ∀ n : Fin 256, lowB (lowB (UInt8.ofNat n.1)) = lowB (UInt8.ofNat n.1) := by decide +kernel
  have h := this ⟨b.toNat, b.toNat_lt⟩
  simpa using h
theorem low_low (s : List UInt8) : low (low s) = low s := by
  unfold low
  rw [List.map_map]
  exact List.map_congr_left (fun b _ => lowB_lowB b)
theorem low_append (a b : List UInt8) : low (a ++ b) = low a ++ low b := List.map_append
theorem low_length (s : List UInt8) : (low s).length = s.length := List.length_map _
def blank (b : UInt8) : Bool := b == 32 || b == 9
def trimL (s : List UInt8) : List UInt8 := s.dropWhile blank
def trimR (s : List UInt8) : List UInt8 := (s.reverse.dropWhile blank).reverse
def trim (s : List UInt8) : List UInt8 := trimL (trimR s)
theorem dropWhile_all {p : UInt8 → Bool} : ∀ (s : List UInt8), (∀ b ∈ s, p b = true) → s.dropWhile p = []
  | [], _ => rfl
  | b :: t, h => by
    rw [List.dropWhile_cons, if_pos (h b (by simp))]
    exact dropWhile_all t (fun c hc => h c (by simp [hc]))
theorem dropWhile_append_of {p : UInt8 → Bool} : ∀ (s t : List UInt8) (b : UInt8), b ∈ s → p b = false → (s ++ t).dropWhile p = s.dropWhile p ++ t
  | [], _, _, h, _ => by simp at h
  | a :: s, t, b, h, hb => by
    rw [List.cons_append, List.dropWhile_cons, List.dropWhile_cons]
    by_cases ha : p a = true
    · rw [if_pos ha, if_pos ha]
      rcases List.mem_cons.1 h with rfl | h
      · rw [ha] at hb; cases hb
      · exact dropWhile_append_of s t b h hb
    · rw [if_neg ha, if_neg ha]; rfl
theorem mem_takeW {p : UInt8 → Bool} : ∀ (s : List UInt8) (b : UInt8), b ∈ s.takeWhile p → p b = true
  | [], _, h => by simp at h
  | a :: s, b, h => by
    rw [List.takeWhile_cons] at h
    by_cases ha : p a = true
    · rw [if_pos ha] at h
      rcases List.mem_cons.1 h with rfl | h
      · exact ha
      · exact mem_takeW s b h
    · rw [if_neg ha] at h
      simp at h
/-- From which end one begins is one. -/
theorem trim_comm (s : List UInt8) : trimR (trimL s) = trimL (trimR s) := by
  by_cases h : ∀ b ∈ s, blank b = true
  · have h1 : trimL s = [] := dropWhile_all s h
    have h2 : trimR s = [] := by
      unfold trimR
      rw [dropWhile_all s.reverse (fun b hb => h b (by simpa using hb))]
      rfl
    rw [h1, h2]
    rfl
  · have ⟨b, hb, hbb⟩ : ∃ b, b ∈ s ∧ blank b = false := by
      apply Classical.byContradiction
      intro hn
      exact h (fun b hb => by
        cases hbb : blank b with
        | true => rfl
        | false => exact absurd ⟨b, hb, hbb⟩ hn)
    -- the list, cut behind its head of blanks and ahead of its tail of blanks
    obtain ⟨x, y, hxy, hx, hy⟩ : ∃ x y, s = x ++ y ∧ (∀ c ∈ x, blank c = true) ∧ y = trimL s := ⟨s.takeWhile blank, s.dropWhile blank, (List.takeWhile_append_dropWhile).symm, fun c hc => mem_takeW s c hc, rfl⟩
    have hby : b ∈ y := by
      rw [hxy] at hb
      rcases List.mem_append.1 hb with h1 | h1
      · rw [hx b h1] at hbb; cases hbb
      · exact h1
    have e1 : trimR s = x ++ trimR y := by
      unfold trimR
      rw [hxy, List.reverse_append, dropWhile_append_of y.reverse x.reverse b (by simpa using hby) hbb, List.reverse_append, List.reverse_reverse]
    have hby2 : b ∈ trimR y := by
      unfold trimR
      rw [List.mem_reverse]
      have h3 : y.reverse = y.reverse.takeWhile blank ++ y.reverse.dropWhile blank := (List.takeWhile_append_dropWhile).symm
      have h4 : b ∈ y.reverse := by simpa using hby
      rw [h3] at h4
      rcases List.mem_append.1 h4 with h5 | h5
      · rw [mem_takeW _ b h5] at hbb; cases hbb
      · exact h5
    rw [e1, ← hy]
    have e2 : trimL (x ++ trimR y) = trimL (trimR y) := by
      unfold trimL
      rw [List.dropWhile_append_of_pos hx]
    rw [e2]
    -- the first of y is no blank, and it stays the first
    cases hy0 : y with
    | nil => rw [hy0] at hby; simp at hby
    | cons a t =>
      have ha : blank a = false := by
        have h6 : y = s.dropWhile blank := hy
        cases h7 : blank a with
        | false => rfl
        | true =>
          have := List.head?_dropWhile_not blank s
          rw [← h6, hy0] at this
          simp [h7] at this
      have h8 : ∃ t', trimR (a :: t) = a :: t' := by
        unfold trimR
        rw [List.reverse_cons]
        by_cases hall : ∀ c ∈ t.reverse, blank c = true
        · refine ⟨[], ?_⟩
          rw [List.dropWhile_append_of_pos hall, List.dropWhile_cons, if_neg (by rw [ha]; simp)]
          rfl
        · have ⟨c, hc, hcb⟩ : ∃ c, c ∈ t.reverse ∧ blank c = false := by
            apply Classical.byContradiction
            intro hn
            exact hall (fun c hc => by
              cases hcb : blank c with
              | true => rfl
              | false => exact absurd ⟨c, hc, hcb⟩ hn)
          refine ⟨(t.reverse.dropWhile blank).reverse, ?_⟩
          rw [dropWhile_append_of _ _ c hc hcb, List.reverse_append]
          rfl
      obtain ⟨t', ht'⟩ := h8
      rw [ht']
      unfold trimL
      rw [List.dropWhile_cons, if_neg (by rw [ha]; simp)]
/-- Parts between a byte. -/
def splitC (c : UInt8) : List UInt8 → List (List UInt8)
  | [] => [[]]
  | b :: t => if b = c then [] :: splitC c t else match splitC c t with
    | [] => [[b]]
    | p :: r => (b :: p) :: r
theorem splitC_ne (c : UInt8) (s : List UInt8) : splitC c s ≠ [] := by
  cases s with
  | nil => simp [splitC]
  | cons b t =>
    unfold splitC
    by_cases h : b = c
    · rw [if_pos h]; simp
    · rw [if_neg h]
      split <;> simp
theorem splitC_append (c : UInt8) (a b : List UInt8) : splitC c (a ++ c :: b) = splitC c a ++ splitC c b := by
  induction a with
  | nil => simp [splitC]
  | cons x a ih =>
    rw [List.cons_append, splitC, splitC]
    by_cases h : x = c
    · rw [if_pos h, if_pos h, ih]; rfl
    · rw [if_neg h, if_neg h, ih]
      cases hs : splitC c a with
      | nil => exact absurd hs (splitC_ne c a)
      | cons p r => rfl
theorem splitC_free (c : UInt8) (a : List UInt8) (h : c ∉ a) : splitC c a = [a] := by
  induction a with
  | nil => rfl
  | cons x a ih =>
    rw [splitC, if_neg (fun e => h (by simp [e])), ih (fun e => h (by simp [e]))]
/-- What stands between commas, without blanks about it, but for what is empty. -/
def partsC (s : List UInt8) : List (List UInt8) := ((splitC 44 s).map trim).filter (fun p => !p.isEmpty)
def listC (l : List (List UInt8)) : List (List UInt8) := l.flatMap partsC
theorem partsC_append (a b : List UInt8) : partsC (a ++ 44 :: b) = partsC a ++ partsC b := by
  unfold partsC
  rw [splitC_append, List.map_append, List.filter_append]
theorem partsC_nil : partsC [] = [] := by decide
theorem parts_join (l : List (List UInt8)) : partsC ([44].intercalate l) = listC l := by
  induction l with
  | nil => rw [show [44].intercalate ([] : List (List UInt8)) = [] from rfl, partsC_nil]; rfl
  | cons a l ih =>
    cases l with
    | nil =>
      rw [show [44].intercalate [a] = a by simp [List.intercalate]]
      show partsC a = partsC a ++ []
      rw [List.append_nil]
    | cons b l =>
      have e : [44].intercalate (a :: b :: l) = a ++ 44 :: [44].intercalate (b :: l) := by simp [List.intercalate]
      rw [e, partsC_append, ih]
      rfl
end Go.Proofs.YtaebjpfgjgnpoaaDoor
