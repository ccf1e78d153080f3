/- Clone over fields. -/
import Derived.Test.YtaebjpfgjgnpoaaDoorHl
import Derived.Laws.AppendOwnNone
set_option linter.unusedVariables false
set_option linter.unusedSimpArgs false
namespace Go.Proofs.YtaebjpfgjgnpoaaDoor
open Go.RowKit Go.Shelf Go.Proofs.YtaebjpfgjgnpoaaDoorW.PrintWords Go.Proofs.YtaebjpfgjgnpoaaDoorW.PrintLast Go.Proofs.YtaebjpfgjgnpoaaDoorW.PrintMore
open Go.Proofs.YtaebjpfgjgnpoaaDoor.PR
attribute [local go_sem] Oper.semAt_some

theorem infoFld : (Tryd.prog.info? 33).map (fun i => (i.zero, i.size, i.bytes)) = some (some (.agg #[.string ⟨#[]⟩, .string ⟨#[]⟩]), 2, 32) := by kernel_rfl
theorem flatF_news {w : World} {ad : Addr} {l : List S40} (h : Kd.C k40 w (some ad) l.length l) : ∀ j u, (flatF l)[j]? = some u → w.cell? (ad.add j) = some u := by
  intro j u hj
  have hlt : j < l.length * 2 := by
    have := (List.getElem?_eq_some_iff.1 hj).1
    rw [flatF_length] at this
    exact this
  obtain ⟨ad', hA, h0, h1⟩ := fld_at h (j / 2) (by omega)
  cases hA
  obtain ⟨g0, g1⟩ := flatF_get l (j / 2) (by omega)
  rcases Nat.mod_two_eq_zero_or_one j with hm | hm
  · have e : j / 2 * 2 = j := by omega
    rw [e] at h0 g0
    rw [g0] at hj
    cases hj
    exact h0
  · have e : j / 2 * 2 + 1 = j := by omega
    rw [e] at g1
    rw [g1] at hj
    cases hj
    rw [← add_field _ _ 1 (by omega), e] at h1
    exact h1
theorem flatF_one (l : List S40) : ∀ u ∈ flatF l, u.oneCell' = true := by
  intro u hu
  unfold flatF at hu
  obtain ⟨f, _, hf⟩ := List.mem_flatMap.1 hu
  simp only [encF, List.mem_cons, List.not_mem_nil, or_false] at hf
  rcases hf with rfl | rfl <;> rfl
set_option maxRecDepth 100000 in
set_option maxHeartbeats 800000 in
theorem clone_calls (A : Option Addr) (c : Nat) (l : List S40) (w0 : World) (hr : Kd.C k40 w0 A l.length l) (hc : l.length ≤ c) (hl : l.length ≤ 1000001) :
    Calls Tryd.prog 25 #[.slice A l.length c] w0 fun e w' => (∃ v, e = .returned v ∧ w'.ownsRow w0.heap.size 33 2 v l.length (flatF l)) ∧ Below w0.heap.size w0 w' := by
  obtain ⟨i0, hi0, hz0, hz1, hz2⟩ := info_parts infoFld
  have HR := Lib.hid hr
  clear hr
  rcases A with _ | ad
  · have hnil : l = [] := by
      apply Classical.byContradiction
      intro hne
      obtain ⟨ad, h, _⟩ := fld_at HR.out 0 (List.length_pos_iff.2 hne)
      cases h
    subst hnil
    have hq := fun w => Lib.run_eql_slice_nil (P := Tryd.prog) w 27 33 none 0 c 0 0 Tryd.underlying27
    simp only [Option.isNone_none, List.length_nil] at hq ⊢
    go_enter Tryd.func25, Tryd.ntmps25
    go_wp2_with fail
    go_ret
    exact ⟨⟨_, rfl, World.ownsRow_nil _ _ _ _⟩, Below.refl _ _⟩
  · have HB1 : Hid (Below w0.heap.size w0 (w0.alloc (.cells #[] 33))) := below_alloc (Below.refl _ _) _
    have HO1 : Hid ((w0.alloc (.cells #[] 33)).ownsRow w0.heap.size 33 2 (.slice (some ⟨w0.heap.size, 0, none⟩) 0 0) 0 []) :=
      ⟨rfl, .inr ⟨w0.heap.size, 0, #[], rfl, Nat.le_refl _, blk_new _ _, Nat.le_refl _, Nat.zero_le _, rfl, rfl⟩⟩
    have HN : Hid (∀ j u, (flatF l)[j]? = some u → (w0.alloc (.cells #[] 33)).cell? (ad.add j) = some u) := flatF_news (Kd.C_below HR.out (below_alloc (Below.refl _ _) _))
    have HONE := Lib.hid (flatF_one l)
    have hn9 : 0 + l.length ≤ maxLen := by unfold maxLen; omega
    have hn10 : (0 + l.length) * 32 ≤ 140737488355328 := by omega
    have hsz2 : w0.heap.size ≤ (w0.alloc (.cells #[] 33)).heap.size := by simp
    have HSZ := Lib.hid hsz2
    clear hsz2
    have hq := fun w => Lib.run_eql_slice_nil (P := Tryd.prog) w 27 33 (some ad) l.length c 0 0 Tryd.underlying27
    simp only [Option.isNone_some] at hq
    by_cases hp : 0 < l.length
    · go_enter Tryd.func25, Tryd.ntmps25
      go_wp2_with (at_builtin; go_loud (refine wpList_append_lies _ rfl (.tmp 5) (.tmp 6) 27 rfl w0.heap.size 33 i0 _ 2 32 Tryd.underlying27 hi0 hz0 hz1 hz2 rfl (by omega) (.slice (some ⟨w0.heap.size, 0, none⟩) 0 0) 0 [] rfl HO1.out ad l.length c (flatF l) rfl (flatF_length l) HN.out HONE.out hp hn9 hn10 HSZ.out _ rfl ?_; intro gg cap w9 hown9 hgrow hat hlt9; have HO9 := Lib.hid hown9; have HB9 : Hid (Below w0.heap.size w0 w9) := HB1.out.grown hgrow HSZ.out (fun g hg => own_ge HO1.out hg); clear hown9 hgrow))
      go_ret
      refine ⟨⟨_, rfl, ?_⟩, HB9.out⟩
      have h := HO9.out
      rw [Nat.zero_add, List.nil_append] at h
      exact h
    · obtain rfl : l = [] := List.eq_nil_of_length_eq_zero (by omega)
      go_enter Tryd.func25, Tryd.ntmps25
      have hap : ∀ ty (w : World), (Builtin.append_ #[27, 27] ty #[.slice (some ⟨w0.heap.size, 0, none⟩) 0 0, .slice (some ad) 0 c]).run Tryd.prog w = .ok (.slice (some ⟨w0.heap.size, 0, none⟩) 0 0) w := fun ty w => by
        simp [Builtin.append_, run_underlying (P := Tryd.prog) Tryd.underlying27, Go.sizeOf, typeInfo, hi0, Builtin.lenOf, Builtin.firstCells, storeCells, loadCells, loadCellsFrom]
      simp only [List.length_nil] at hq
      go_wp2_with fail
      go_ret
      exact ⟨⟨_, rfl, HO1.out⟩, HB1.out⟩
end Go.Proofs.YtaebjpfgjgnpoaaDoor
