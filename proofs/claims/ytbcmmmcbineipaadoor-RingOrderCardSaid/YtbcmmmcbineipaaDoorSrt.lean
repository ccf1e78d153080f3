/- The points, sorted. -/
import Derived.Test.YtbcmmmcbineipaaDoorShelf
import Derived.Test.YtbcmmmcbineipaaDoorSo
set_option linter.unusedVariables false
set_option linter.unusedSimpArgs false
namespace Go.Proofs.YtbcmmmcbineipaaDoor
open Go.RowKit Go.Shelf Go.Lib Go.Sort
open Go.Proofs.YtbcmmmcbineipaaDoorW.PrintWords Go.Proofs.YtbcmmmcbineipaaDoorW.PrintLast Go.Proofs.YtbcmmmcbineipaaDoorW.PrintMore
open Go.Proofs.YtbcmmmcbineipaaDoor.PR
instance : Inhabited S67 := ⟨⟨0, ByteArray.empty⟩⟩
/-- One point lies ahead of another. -/
def ltP (x y : S67) : Prop := x.f0 < y.f0 ∨ (x.f0 = y.f0 ∧ x.f1.data.toList < y.f1.data.toList)
instance (x y : S67) : Decidable (ltP x y) := inferInstanceAs (Decidable (_ ∨ _))
theorem cmpS_eq (x y : ByteArray) : cmpS x y = if x.data.toList < y.data.toList then -1 else if x.data.toList = y.data.toList then 0 else 1 := by
  unfold cmpS
  rw [bytesLess_eq, Lib.toList_data, Lib.toList_data]
  simp
theorem cmpI_eq0 (a b : Int) : cmpI a b = 0 ↔ a = b := by
  unfold cmpI
  by_cases h : a < b
  · simp [h]; omega
  · by_cases h2 : b < a
    · simp [h, h2]; omega
    · simp [h, h2]; omega
theorem cmpP_lt (x y : S67) : cmpP x y < 0 ↔ ltP x y := by
  unfold ltP cmpP cmpOr
  by_cases h : x.f0 = y.f0
  · rw [if_pos ((cmpI_eq0 _ _).2 h), cmpS_eq]
    by_cases h2 : x.f1.data.toList < y.f1.data.toList
    · rw [if_pos h2]
      exact ⟨fun _ => .inr ⟨h, h2⟩, fun _ => by omega⟩
    · have hno : ¬ (x.f0 < y.f0 ∨ x.f0 = y.f0 ∧ x.f1.data.toList < y.f1.data.toList) := by
        rintro (h4 | ⟨_, h4⟩)
        · omega
        · exact absurd h4 h2
      rw [if_neg h2]
      by_cases h3 : x.f1.data.toList = y.f1.data.toList
      · rw [if_pos h3]
        exact ⟨fun h4 => absurd h4 (by omega), fun h4 => absurd h4 hno⟩
      · rw [if_neg h3]
        exact ⟨fun h4 => absurd h4 (by omega), fun h4 => absurd h4 hno⟩
  · rw [if_neg (fun e => h ((cmpI_eq0 _ _).1 e))]
    unfold cmpI
    by_cases h2 : x.f0 < y.f0
    · rw [if_pos h2]
      exact ⟨fun _ => .inl h2, fun _ => by omega⟩
    · have h3 : y.f0 < x.f0 := by omega
      rw [if_neg h2, if_pos h3]
      exact ⟨fun h4 => absurd h4 (by omega), fun h4 => by
        rcases h4 with h4 | ⟨h4, _⟩
        · exact absurd h4 h2
        · exact absurd h4 h⟩
theorem ltOf_cmpP (x y : S67) : ltOf cmpP x y = decide (ltP x y) := decide_eq_decide.2 (cmpP_lt x y)
theorem ltP_irrefl (x : S67) : ¬ ltP x x := by
  rintro (h | ⟨_, h⟩)
  · omega
  · exact List.lt_irrefl _ h
theorem ltP_trans {x y z : S67} (h1 : ltP x y) (h2 : ltP y z) : ltP x z := by
  rcases h1 with h1 | ⟨h1, h1'⟩ <;> rcases h2 with h2 | ⟨h2, h2'⟩
  · exact .inl (by omega)
  · exact .inl (by omega)
  · exact .inl (by omega)
  · exact .inr ⟨by omega, List.lt_trans h1' h2'⟩
theorem ltP_tri (x y : S67) : ltP x y ∨ x = y ∨ ltP y x := by
  by_cases h : x.f0 < y.f0
  · exact .inl (.inl h)
  · by_cases h2 : y.f0 < x.f0
    · exact .inr (.inr (.inl h2))
    · have he : x.f0 = y.f0 := by omega
      by_cases h3 : x.f1.data.toList < y.f1.data.toList
      · exact .inl (.inr ⟨he, h3⟩)
      · by_cases h4 : y.f1.data.toList < x.f1.data.toList
        · exact .inr (.inr (.inr ⟨he.symm, h4⟩))
        · refine .inr (.inl ?_)
          have h5 : x.f1.data.toList = y.f1.data.toList := List.le_antisymm (List.not_lt.1 h4) (List.not_lt.1 h3)
          obtain ⟨a, ⟨⟨s⟩⟩⟩ := x
          obtain ⟨b, ⟨⟨t⟩⟩⟩ := y
          simp only at he h5
          subst he
          subst h5
          rfl
theorem swoP : SWO (ltOf cmpP) where
  irrefl x := by rw [ltOf_cmpP]; simpa using ltP_irrefl x
  trans x y z h1 h2 := by
    rw [ltOf_cmpP, decide_eq_true_iff] at *
    exact ltP_trans h1 h2
  ntrans x y z h1 h2 := by
    rw [ltOf_cmpP, decide_eq_false_iff_not] at *
    intro h3
    rcases ltP_tri x y with h | rfl | h
    · exact h1 h
    · exact h2 h3
    · rcases ltP_tri y z with k | rfl | k
      · exact h2 k
      · exact h1 h3
      · exact ltP_irrefl _ (ltP_trans h3 (ltP_trans k h))
theorem totP (x y : S67) (h1 : ltOf cmpP x y = false) (h2 : ltOf cmpP y x = false) : x = y := by
  rw [ltOf_cmpP, decide_eq_false_iff_not] at h1 h2
  rcases ltP_tri x y with h | h | h
  · exact absurd h h1
  · exact h
  · exact absurd h h2
/-- The points in their order. -/
def ptSort (l : List S67) : List S67 := l.mergeSort fun x y => !(ltOf cmpP) y x
set_option maxRecDepth 100000 in
theorem sort_calls (blk off c : Nat) (l : List S67) (w : World) (hH : HoldsK encPt 2 w blk off l.toArray) (hblk : blk < w.heap.size) (hsz : l.length < 4611686018427387904) :
    Calls Tryd.prog 25 #[.slice (some ⟨blk, off, none⟩) l.length c, .func (.func 26) #[] #[]] w fun e w' => e = .returned (.tuple #[]) ∧ ∃ n os, w' = sortWorldK encPt 2 w blk off n (ptSort l).toArray os := by
  have eg : ∀ args w, (callFunc 26 args).run Tryd.prog w = .ok (.enter 26 args) w := enters_of Tryd.func26 (by kernel_rfl) rfl
  have h := AnyQ.slices_SortFunc_total Tryd.sortPt 2 Tryd.isAgg67 Tryd.sizeOf67 encPt (fun _ => rfl) (fun x v hv => by simp [encPt] at hv; rcases hv with rfl | rfl <;> rfl) cmpP swoP 26 #[] blk off c l.toArray w eg (fun _ _ _ _ x y => cmpP_calls x y _) hH hblk (by simpa using hsz) totP
  exact h
theorem sort_none (p : Option Addr) (c : Nat) (fv : Value) (w : World) : Calls Tryd.prog 25 #[.slice p 0 c, fv] w fun e w' => e = .returned (.tuple #[]) ∧ w' = w :=
  AnyF.slices_SortFunc_none Tryd.sortPt p c fv w
end Go.Proofs.YtbcmmmcbineipaaDoor
