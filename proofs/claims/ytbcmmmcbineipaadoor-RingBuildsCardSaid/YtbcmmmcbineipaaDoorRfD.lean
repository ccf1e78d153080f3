/- The reference's ring: the plain law of one insertion, and digits. -/
import Derived.Test.YtbcmmmcbineipaaDoorRfC
import Derived.Test.YtbcmmmcbineipaaDoorMe
import Derived.Laws.OwnMore
set_option linter.unusedVariables false
set_option linter.unusedSimpArgs false
namespace Go.Proofs.YtbcmmmcbineipaaDoor
open Go.RowKit Go.Proofs.YtbcmmmcbineipaaDoorW.PrintWords Go.Proofs.YtbcmmmcbineipaaDoorW.PrintLast Go.Proofs.YtbcmmmcbineipaaDoorW.PrintMore
open Go.Proofs.YtbcmmmcbineipaaDoor.PR

theorem print_small (i : Nat) (h : i < 100) : stewardref05_Print.f 4 i 10 = some (digs i) := by
  have : ∀ i : Fin 100, stewardref05_Print.f 4 (i.1 : Int) 10 = some (digs i.1) := by decide +kernel
  exact this ⟨i, h⟩
theorem print_calls (i : Nat) (h : i < 100) (w : World) : Calls Tryd.prog 28 #[.int .i64 i, .int .i64 10] w fun e w' => e = .returned (.string (digs i)) ∧ Below w.heap.size w w' := by
  refine (stewardref05_Print.calls 4 i 10 _ w (print_small i h)).mono ?_
  rintro e w' ⟨rfl, h⟩
  exact ⟨rfl, h.below⟩
/-- With one more point at its place. -/
def insAt (L : List S67) (k : Nat) (p : S67) : List S67 := L.take k ++ p :: L.drop k
theorem insAt_length (L : List S67) (k : Nat) (p : S67) : (insAt L k p).length = L.length + 1 := by
  unfold insAt
  rw [List.length_append, List.length_cons, List.length_take, List.length_drop]
  omega
theorem insAt_end (L : List S67) (p : S67) : insAt L L.length p = L ++ [p] := by
  unfold insAt
  rw [List.take_length, List.drop_length]
theorem insAt_get_lt (L : List S67) (k : Nat) (p : S67) (j : Nat) (hj : j < k) (hk : k ≤ L.length) : (insAt L k p)[j]? = some (L[j]'(by omega)) := by
  unfold insAt
  rw [List.getElem?_append_left (by rw [List.length_take]; omega), List.getElem?_take, if_pos hj, List.getElem?_eq_getElem (by omega)]
theorem insAt_set (L : List S67) (k : Nat) (p q : S67) (hk : k ≤ L.length) : (insAt L k p).set k q = insAt L k q := by
  unfold insAt
  rw [List.set_append_right _ _ (by rw [List.length_take]; omega), List.length_take, Nat.min_eq_left hk, Nat.sub_self]
  rfl
theorem insAt_down (L : List S67) (k : Nat) (hk : k < L.length) : insAt L (k + 1) L[k] = insAt L k L[k] := by
  unfold insAt
  rw [List.take_succ_eq_append_getElem hk, List.append_assoc, List.drop_eq_getElem_cons hk]
  rfl
theorem insAt_perm (L : List S67) (k : Nat) (p : S67) : (insAt L k p).Perm (L ++ [p]) := by
  unfold insAt
  refine List.perm_middle.trans ?_
  rw [List.take_append_drop]
  exact (List.perm_append_singleton p L).symm
theorem ins_eq (R : List S67) (p : S67) (k : Nat) (hk : k ≤ (ptSort R).length) (h1 : ∀ (j : Nat) (hj : j < (ptSort R).length), k ≤ j → ltP p (ptSort R)[j]) (h2 : ∀ (hk0 : 0 < k), ¬ ltP p ((ptSort R)[k - 1]'(by omega))) :
    insAt (ptSort R) k p = ptSort (R ++ [p]) := by
  have hs := ptSort_sorted R
  refine sorted_eq ?_ ?_ (ptSort_sorted _)
  · refine (insAt_perm _ _ _).trans ?_
    exact (((ptSort_perm R).append_right [p]).trans (ptSort_perm (R ++ [p])).symm)
  · unfold insAt
    rw [List.pairwise_append]
    have hsd : ((ptSort R).take k ++ (ptSort R).drop k).Pairwise (fun x y => ¬ ltP y x) := by rw [List.take_append_drop]; exact hs
    rw [List.pairwise_append] at hsd
    obtain ⟨s1, s2, s3⟩ := hsd
    have hlow : ∀ a ∈ (ptSort R).take k, ¬ ltP p a := by
      intro a ha
      obtain ⟨j, hj, rfl⟩ := List.mem_iff_getElem.1 ha
      rw [List.length_take] at hj
      rw [List.getElem_take]
      have h3 := h2 (by omega)
      by_cases he : j = k - 1
      · subst he; exact h3
      · have h4 := List.pairwise_iff_getElem.1 hs j (k - 1) (by omega) (by omega) (by omega)
        intro h5
        rcases ltP_tri ((ptSort R)[j]'(by omega)) ((ptSort R)[k - 1]'(by omega)) with h6 | h6 | h6
        · exact h3 (ltP_trans h5 h6)
        · rw [h6] at h5; exact h3 h5
        · exact h4 h6
    have hhigh : ∀ a ∈ (ptSort R).drop k, ltP p a := by
      intro a ha
      obtain ⟨j, hj, rfl⟩ := List.mem_iff_getElem.1 ha
      rw [List.length_drop] at hj
      rw [List.getElem_drop]
      exact h1 (k + j) (by omega) (by omega)
    refine ⟨s1, List.pairwise_cons.2 ⟨fun a ha h => ltP_irrefl _ (ltP_trans h (hhigh a ha)), s2⟩, fun a ha b hb => ?_⟩
    rcases List.mem_cons.1 hb with rfl | hb
    · exact hlow a ha
    · exact s3 a ha b hb
theorem flat_set (L : List S67) (k : Nat) (x : S67) (hk : k < L.length) : ((flat L).set (k * 2) (.int .u64 x.f0)).set (k * 2 + 1) (.string x.f1) = flat (L.set k x) := by
  induction L generalizing k with
  | nil => simp at hk
  | cons p L ih =>
    cases k with
    | zero => rfl
    | succ k =>
      have e1 : (k + 1) * 2 = k * 2 + 2 := by omega
      have h := ih k (by simpa using hk)
      rw [e1]
      show encPt p ++ _ = encPt p ++ _
      exact congrArg (encPt p ++ ·) h
theorem info41 : (Tryd.prog.info? 41).map (fun i => (i.zero, i.size, i.bytes)) = some (some (.agg #[.int .u64 0, .string ⟨#[]⟩]), 2, 24) := by kernel_rfl
theorem row_at {w : World} {base gg N cap : Nat} {M : List S67} (h : w.ownsRow base 41 2 (.slice (some ⟨gg, 0, none⟩) N cap) N (flat M)) (k : Nat) (hk : k < M.length) :
    w.cell? ⟨gg, k * 2, none⟩ = some (.int .u64 M[k].f0) ∧ w.cell? ⟨gg, k * 2 + 1, none⟩ = some (.string M[k].f1) ∧ w.frozen? ⟨gg, k * 2, none⟩ = false ∧ w.frozen? ⟨gg, k * 2 + 1, none⟩ = false := by
  have hl := h.1
  rw [flat_length] at hl
  obtain ⟨h0, h1⟩ := flat_get M k hk
  exact ⟨by rw [h.cellAt _ (by omega), h0], by rw [h.cellAt _ (by omega), h1], h.frozenAt _, h.frozenAt _⟩
theorem row_set {w : World} {base gg N cap : Nat} {M : List S67} (h : w.ownsRow base 41 2 (.slice (some ⟨gg, 0, none⟩) N cap) N (flat M)) (k : Nat) (hk : k < M.length) (x : S67) :
    ((w.setCell ⟨gg, k * 2, none⟩ (.int .u64 x.f0)).setCell ⟨gg, k * 2 + 1, none⟩ (.string x.f1)).ownsRow base 41 2 (.slice (some ⟨gg, 0, none⟩) N cap) N (flat (M.set k x)) ∧ w.grownBy ((w.setCell ⟨gg, k * 2, none⟩ (.int .u64 x.f0)).setCell ⟨gg, k * 2 + 1, none⟩ (.string x.f1)) (some gg) := by
  obtain ⟨h1, g1⟩ := h.stored (k * 2) (.int .u64 x.f0)
  obtain ⟨h2, g2⟩ := h1.stored (k * 2 + 1) (.string x.f1)
  rw [flat_set M k x hk] at h2
  exact ⟨h2, gb_trans g1 g2⟩
end Go.Proofs.YtbcmmmcbineipaaDoor
