/- The points of a row, sorted. -/
import Derived.Test.YtbcmmmcbineipaaDoorSrt
import Derived.Test.YtbcmmmcbineipaaDoorBldA
set_option linter.unusedVariables false
set_option linter.unusedSimpArgs false
namespace Go.Proofs.YtbcmmmcbineipaaDoor
open Go.RowKit Go.Shelf Go.Lib Go.Sort
open Go.Proofs.YtbcmmmcbineipaaDoorW.PrintWords Go.Proofs.YtbcmmmcbineipaaDoorW.PrintLast Go.Proofs.YtbcmmmcbineipaaDoorW.PrintMore
open Go.Proofs.YtbcmmmcbineipaaDoor.PR
theorem pts_reads {w : World} {g : Nat} {l : List S67} (hl : l.length ≤ 9223372036854775807) (hc : ∀ (k : Nat) (hk : k < l.length), w.cell? ⟨g, k * 2, none⟩ = some (.int .u64 l[k].f0) ∧ w.cell? ⟨g, k * 2 + 1, none⟩ = some (.string l[k].f1)) :
    Kd.C k67 w (some ⟨g, 0, none⟩) l.length l := by
  refine ⟨rfl, hl, fun hn => ⟨_, rfl, fun j p hj => ?_⟩⟩
  obtain ⟨hj1, rfl⟩ := List.getElem?_eq_some_iff.1 hj
  obtain ⟨h0, h1⟩ := hc j hj1
  refine ⟨[.int .u64 l[j].f0, .string l[j].f1], rfl, ⟨[.int .u64 l[j].f0], [.string l[j].f1], rfl, rfl, rfl⟩, fun i u hu => ?_⟩
  rw [show k67.sz = 2 from rfl, add_at, Nat.zero_add]
  match i, hu with
  | 0, hu => rw [Nat.add_zero, h0]; exact hu
  | 1, hu => rw [h1]; exact hu
theorem sortWorldK_grown (w : World) (blk n : Nat) (d : Array S67) (os : Array Obj) : w.grownBy (sortWorldK encPt 2 w blk 0 n d os) (some blk) := by
  refine ⟨rfl, rfl, rfl, size_sortWorldK_c encPt 2 w blk 0 n d os, fun k hk hne => ?_⟩
  have hne' : ¬ blk = k := fun e => hne (by rw [e])
  have hk' : k < (putRowK encPt 2 (Sort.ahead w n) blk 0 d).heap.size := by rw [size_putRowK]; exact hk
  show ((putRowK encPt 2 (Sort.ahead w n) blk 0 d).heap ++ os)[k]? = _
  rw [Array.getElem?_append_left hk']
  unfold putRowK putRow
  show (w.heap.modify blk (onCells (putCells id 0 (flatK encPt 2 d))))[k]? = _
  rw [Array.getElem?_modify, if_neg hne']
theorem sort_own (base n : Nat) (v : Value) (R : List S67) (w : World) (h : w.ownsRow base 67 2 v n (flat R)) (hn : n = R.length) (hR : R.length ≤ 1000000) :
    Calls Tryd.prog 25 #[v, .func (.func 26) #[] #[]] w fun e w' => e = .returned (.tuple #[]) ∧ ∃ A c, v = .slice A R.length c ∧ R.length ≤ c ∧ Kd.C k67 w' A R.length (ptSort R) ∧ w.grownBy w' v.ownBlock := by
  subst hn
  rcases h.2 with ⟨rfl, h0⟩ | ⟨g, cap, cur, rfl, hbg, hg, hnc, hcm, hcs, htake⟩
  · obtain rfl : R = [] := List.eq_nil_of_length_eq_zero h0
    refine (sort_none none 0 _ w).mono ?_
    rintro e w' ⟨rfl, rfl⟩
    exact ⟨rfl, none, 0, rfl, Nat.le_refl _, ⟨by simp [ptSort], by show 0 ≤ _; omega, fun h => absurd h (by simp)⟩, ⟨rfl, rfl, rfl, Nat.le_refl _, fun _ _ _ => rfl⟩⟩
  · have hcell : ∀ j, j < R.length * 2 → w.cell? ⟨g, j, none⟩ = (flat R)[j]? := fun j hj => by
      rw [cell_of_row w g j cur 67 (0, 0) hg, ← htake, List.getElem?_take, if_pos hj, Array.getElem?_toList]
    have hblk : g < w.heap.size := blk_lt hg
    have hH : HoldsK encPt 2 w g 0 R.toArray := by
      intro j hj
      have hj' : j < R.length * 2 := by simpa using hj
      refine ⟨?_, blk_frozen hg _⟩
      rw [Nat.zero_add, hcell j hj', id, get_flatK encPt 2 R.toArray j (by simpa using hj')]
      have hq : j / 2 < R.length := by omega
      obtain ⟨f0, f1⟩ := flat_get R (j / 2) hq
      have e1 : R.toArray[j / 2]! = R[j / 2] := by simp [hq]
      rw [e1]
      rcases Nat.mod_two_eq_zero_or_one j with hm | hm
      · have e2 : j = j / 2 * 2 := by omega
        rw [hm]
        rw [← e2] at f0
        rw [f0]
        rfl
      · have e2 : j = j / 2 * 2 + 1 := by omega
        rw [hm]
        rw [← e2] at f1
        rw [f1]
        rfl
    refine (sort_calls g 0 cap R w hH hblk (by omega)).mono ?_
    rintro e w' ⟨rfl, m, os, rfl⟩
    have hlen : (ptSort R).length = R.length := List.length_mergeSort R
    have hH2 := holdsK_sortWorldK_c encPt 2 w g 0 R.toArray (ptSort R).toArray m os hH hblk (by simp [hlen])
    refine ⟨rfl, _, cap, rfl, hnc, ?_, sortWorldK_grown w g m _ os⟩
    have := pts_reads (w := sortWorldK encPt 2 w g 0 m (ptSort R).toArray os) (g := g) (l := ptSort R) (by omega) (fun k hk => by
      have c0 := (HoldsK.cell hH2 (i := k) (c := 0) (by simpa using hk) (by omega)).1
      have c1 := (HoldsK.cell hH2 (i := k) (c := 1) (by simpa using hk) (by omega)).1
      have e1 : (ptSort R).toArray[k]! = (ptSort R)[k] := by simp [hk]
      rw [e1, Nat.zero_add] at c0 c1
      exact ⟨c0, c1⟩)
    rwa [hlen] at this
end Go.Proofs.YtbcmmmcbineipaaDoor
