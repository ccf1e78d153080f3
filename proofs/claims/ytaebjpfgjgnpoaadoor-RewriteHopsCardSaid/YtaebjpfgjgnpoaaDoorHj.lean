/- What DeleteFunc leaves: the plain law, and a row rewritten in place. -/
import Derived.Test.YtaebjpfgjgnpoaaDoorHi
import Derived.Lib.SliceRun
set_option linter.unusedVariables false
set_option linter.unusedSimpArgs false
namespace Go.Proofs.YtaebjpfgjgnpoaaDoor
open Go.RowKit Go.Shelf Go.Proofs.YtaebjpfgjgnpoaaDoorW.PrintWords Go.Proofs.YtaebjpfgjgnpoaaDoorW.PrintLast Go.Proofs.YtaebjpfgjgnpoaaDoorW.PrintMore
open Go.Proofs.YtaebjpfgjgnpoaaDoor.PR
attribute [local go_sem] Oper.semAt_some

def outS {α : Type} (p : α → Bool) (l : List α) : List α := l.filter (fun x => !p x)
/-- The row between two rounds: i elements kept of the first j. -/
def KeptI {α : Type} (p : α → Bool) (l : List α) (i j : Nat) (ys : List α) : Prop :=
  ys.length = l.length ∧ i < j ∧ j ≤ l.length ∧ ys.take i = outS p (l.take j) ∧ ys.drop j = l.drop j
theorem outS_none {α : Type} {p : α → Bool} {l : List α} (h : ∀ x ∈ l, p x = false) : outS p l = l := by
  unfold outS
  rw [List.filter_eq_self]
  intro x hx
  rw [h x hx]
  rfl
theorem outS_length {α : Type} (p : α → Bool) (l : List α) : (outS p l).length ≤ l.length := List.length_filter_le _ _
theorem outS_succ {α : Type} {p : α → Bool} {l : List α} {j : Nat} (hj : j < l.length) : outS p (l.take (j + 1)) = outS p (l.take j) ++ (if p l[j] = true then [] else [l[j]]) := by
  unfold outS
  rw [List.take_succ_eq_append_getElem hj, List.filter_append]
  congr 1
  rw [List.filter_cons]
  cases p l[j] <;> rfl
theorem KeptI.start {α : Type} {p : α → Bool} {l : List α} {k : Nat} (hk : k < l.length) (h1 : p l[k] = true) (h2 : ∀ x ∈ l.take k, p x = false) : KeptI p l k (k + 1) l := by
  refine ⟨rfl, by omega, by omega, ?_, rfl⟩
  rw [outS_succ hk, outS_none h2, if_pos h1, List.append_nil]
theorem KeptI.len {α : Type} {p : α → Bool} {l ys : List α} {i j : Nat} (h : KeptI p l i j ys) : i = (outS p (l.take j)).length := by
  obtain ⟨h1, h2, h3, h4, h5⟩ := h
  rw [← h4, List.length_take]
  omega
theorem KeptI.at {α : Type} {p : α → Bool} {l ys : List α} {i j : Nat} (h : KeptI p l i j ys) (hj : j < l.length) (hj' : j < ys.length) : ys[j] = l[j] := by
  have h5 := h.2.2.2.2
  have e : (ys.drop j)[0]? = (l.drop j)[0]? := by rw [h5]
  rw [List.getElem?_drop, List.getElem?_drop] at e
  simpa [hj, hj'] using e
theorem KeptI.skip {α : Type} {p : α → Bool} {l ys : List α} {i j : Nat} (h : KeptI p l i j ys) (hj : j < l.length) (hp : p l[j] = true) : KeptI p l i (j + 1) ys := by
  obtain ⟨h1, h2, h3, h4, h5⟩ := h
  refine ⟨h1, by omega, by omega, ?_, ?_⟩
  · rw [outS_succ hj, if_pos hp, List.append_nil, h4]
  · rw [← List.drop_drop, ← List.drop_drop, h5]
theorem KeptI.keep {α : Type} {p : α → Bool} {l ys : List α} {i j : Nat} (h : KeptI p l i j ys) (hj : j < l.length) (hp : p l[j] = false) : KeptI p l (i + 1) (j + 1) (ys.set i l[j]) := by
  obtain ⟨h1, h2, h3, h4, h5⟩ := h
  refine ⟨by rw [List.length_set]; exact h1, by omega, by omega, ?_, ?_⟩
  · rw [outS_succ hj, if_neg (by rw [hp]; simp), ← h4, List.take_succ_eq_append_getElem (by rw [List.length_set]; omega), List.take_set_of_le (Nat.le_refl _), List.getElem_set_self]
  · rw [List.drop_set_of_lt (by omega), ← List.drop_drop, ← List.drop_drop, h5]
theorem KeptI.done {α : Type} {p : α → Bool} {l ys : List α} {i : Nat} (h : KeptI p l i l.length ys) : ys.take i = outS p l := by
  rw [h.2.2.2.1, List.take_length]
/-- A part of a row. -/
theorem own_cut {w : World} {base size n m g cap : Nat} {e : TypeId} {xs : List Value} (h : w.ownsRow base e size (.slice (some ⟨g, 0, none⟩) n cap) n xs) (hm : m ≤ n) : w.ownsRow base e size (.slice (some ⟨g, 0, none⟩) m cap) m (xs.take (m * size)) := by
  obtain ⟨h1, h2⟩ := h
  have hms : m * size ≤ n * size := Nat.mul_le_mul_right _ hm
  refine ⟨by rw [List.length_take, h1]; omega, ?_⟩
  rcases h2 with ⟨h2, _⟩ | ⟨g', cap', cur, hv, hg, hh, hr⟩
  · cases h2
  · cases hv
    refine .inr ⟨g, cap, cur, rfl, hg, hh, by omega, hr.2.1, hr.2.2.1, ?_⟩
    rw [← hr.2.2.2, List.take_take, Nat.min_eq_left hms]
theorem own_putAll {base size n m g cap : Nat} {e : TypeId} : ∀ (vs : List Value) (o : Nat) (w : World) (xs : List Value), w.ownsRow base e size (.slice (some ⟨g, 0, none⟩) n cap) m xs → ∃ ys, (w.setCells g o vs).ownsRow base e size (.slice (some ⟨g, 0, none⟩) n cap) m ys ∧ ys.take o = xs.take o
  | [], _, _, xs, h => ⟨xs, h, rfl⟩
  | v :: vs, o, w, xs, h => by
    obtain ⟨ys, h1, h2⟩ := own_putAll vs (o + 1) _ _ (own_put (j := o) h v)
    refine ⟨ys, h1, ?_⟩
    have e : ys.take o = (ys.take (o + 1)).take o := by rw [List.take_take, Nat.min_eq_left (by omega)]
    rw [e, h2, List.take_take, Nat.min_eq_left (by omega), List.take_set_of_le (Nat.le_refl _)]
theorem below_setCells {B g : Nat} {w0 : World} (hg : B ≤ g) : ∀ (vs : List Value) (o : Nat) (w : World), Below B w0 w → Below B w0 (w.setCells g o vs)
  | [], _, _, h => h
  | v :: vs, o, w, h => below_setCells hg vs (o + 1) _ (h.setCell (p := ⟨g, o, none⟩) hg v)
/-- 'clear' of a tail of a row. -/
theorem clear_own {P : Program} {w : World} {base size n m g cap : Nat} {e t : TypeId} {xs : List Value} {z : Value} (h : w.ownsRow base e size (.slice (some ⟨g, 0, none⟩) n cap) n xs) (hm : m < n) (hs : 0 < size)
    (ht : P.underlying t = some (.slice e)) (hv : ∀ w, (zeroValue e).run P w = .ok z w) (hz : z.cells.size = size) (h1 : ∀ v ∈ z.cells, v.oneCell' = true) :
    ∃ w', (∀ ty cc, (Builtin.clear_ #[t] ty #[.slice (some ⟨g, m * size, none⟩) (n - m) cc]).run P w = .ok (.tuple #[]) w') ∧ w'.ownsRow base e size (.slice (some ⟨g, 0, none⟩) m cap) m (xs.take (m * size)) ∧ ∀ (B : Nat) (w0 : World), B ≤ g → Below B w0 w → Below B w0 w' := by
  obtain ⟨zs, hzs⟩ : ∃ zs, zs = (Builtin.zeroCells z.cells (n - m)).toList := ⟨_, rfl⟩
  have hlen : zs.length = (n - m) * size := by rw [hzs]; simp [Builtin.zeroCells, hz]
  have hone : ∀ v ∈ zs, v.oneCell' = true := by
    intro v hv
    rw [hzs] at hv
    simp only [Builtin.zeroCells, Array.toList_map, List.mem_map] at hv
    obtain ⟨i, _, rfl⟩ := hv
    have hlt : i % z.cells.size < z.cells.size := Nat.mod_lt _ (by omega)
    rw [getElem!_pos z.cells _ hlt]
    exact h1 _ (Array.getElem_mem hlt)
  obtain ⟨h01, h02⟩ := h
  rcases h02 with ⟨h2, _⟩ | ⟨g', cap', cur, hv', hg, hh, hr⟩
  · cases h2
  · cases hv'
    have hcz : m * size + (n - m) * size ≤ cap * size := by
      rw [← Nat.add_mul]
      exact Nat.mul_le_mul_right _ (by omega)
    have hst := run_storeCells_cells (P := P) g (m * size) zs 0 w (fun j hj => by
      rw [blk_cell hh]
      rw [hlen] at hj
      have : m * size + (0 + j) < cur.size := by rw [hr.2.2.1]; omega
      have h2 : m * size + j < cur.size := by omega
      simp [h2]) (fun j hj => blk_frozen hh _) hone
    simp only [Nat.add_zero] at hst
    obtain ⟨k, hk⟩ : ∃ k, n - m = k + 1 := ⟨n - m - 1, by omega⟩
    refine ⟨w.setCells g (m * size) zs, ?_, ?_, fun B w0 hB hb => below_setCells hB _ _ _ hb⟩
    · intro ty cc
      rw [hk] at hzs ⊢
      simp [Builtin.clear_, run_underlying ht, hv, ← hzs, hst]
    · obtain ⟨ys, hy, hyt⟩ := own_putAll zs (m * size) w xs ⟨h01, .inr ⟨g, cap, cur, rfl, hg, hh, hr⟩⟩
      have := own_cut hy (Nat.le_of_lt hm)
      rw [hyt] at this
      exact this
end Go.Proofs.YtaebjpfgjgnpoaaDoor
