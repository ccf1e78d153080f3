/- The siphash part: what the state's write does. -/
import Derived.Test.YtbcmmmcbineipaaDoorSipB
import Derived.Test.YtbcmmmcbineipaaDoorPRx2
set_option linter.unusedVariables false
set_option linter.unusedSimpArgs false
namespace Go.Proofs.YtbcmmmcbineipaaDoor
open Go.RowKit Go.Proofs.YtbcmmmcbineipaaDoorW.PrintWords Go.Proofs.YtbcmmmcbineipaaDoorW.PrintLast Go.Proofs.YtbcmmmcbineipaaDoorW.PrintMore
open Go.Proofs.YtbcmmmcbineipaaDoor.PR

section
variable {P : Program}
/-- append(q, s...), q a row that may begin inside its block, s a string. -/
theorem q_append_str (w : World) (base : Nat) (t u ty e : TypeId) (i : TypeInfo) (ht : P.underlying t = some (.slice e)) (hu : P.underlying u = some .string) (hi : P.info? e = some i) (hz : i.zero = some (.int .u8 0))
    (hsize : i.size = 1) (hby : i.bytes = 1)
    (v : Value) (n : Nat) (xs : List Value) (hown : QRow w base e 1 v n xs) (s : ByteArray)
    (h63 : n + s.size ≤ maxLen) (hbytes : n + s.size ≤ 140737488355328) (hbase : base ≤ w.heap.size) :
    ∃ v' w', (Builtin.append_ #[t, u] ty #[v, .string s]).run P w = .ok v' w' ∧ QRow w' base e 1 v' (n + s.size) (xs ++ Lib.strCells s) ∧ w.grownBy w' v.ownBlock := by
  have hxl : xs.length = n := by simpa using hown.1
  have grows : ∀ (b : Addr) (cap : Nat), cap < n + s.size → (∀ j x, xs[j]? = some x → w.cell? (b.add j) = some x) → v = .slice (some b) n cap →
      ∃ v' w', (Builtin.append_ #[t, u] ty #[v, .string s]).run P w = .ok v' w' ∧ QRow w' base e 1 v' (n + s.size) (xs ++ Lib.strCells s) ∧ w.grownBy w' v.ownBlock := by
    intro b cap hcap hcells hv
    have hr := Lib.run_append_grow_string (P := P) w t u ty e i (.int .u8 0) ht hu hi hz b n cap xs (by rw [hsize]; simpa using hxl) hcells s hcap (by simp only [maxLen] at h63; omega) (by rw [hby]; exact growslice_fits (by simp only [maxLen] at h63; omega) (by omega))
    have hge := grownCap_ge w (n + s.size) cap e
    have hcm : grownCap w (n + s.size) cap e ≤ maxLen := grownCap_le_maxLen w (n + s.size) cap e h63
    refine ⟨_, _, by rw [hv]; exact hr, q_of_own ⟨by simp [hxl, Lib.strCells_length], .inr ⟨w.heap.size, _, _, rfl, hbase, heap_alloc_new w.drew _, hge, hcm, ?_, ?_⟩⟩, ⟨rfl, rfl, rfl, by simp, fun k hk _ => Below.heap_alloc w.drew _ k hk⟩⟩
    · have hz1 : (Value.int IntKind.u8 0).cells.size = 1 := rfl
      simp only [Array.size_append, List.size_toArray, size_zeroCells, hz1, hxl, Lib.strCells_length]
      omega
    · simp only [Array.toList_append, List.append_assoc]
      rw [← List.append_assoc]
      exact List.take_left' (by simp [hxl, Lib.strCells_length])
  rcases hown.2 with ⟨h0, A, hv, hA⟩ | ⟨g, off, cap, cur, hv, hbg, hg, hnc, hcm, hcs, htake⟩
  · have hx : xs = [] := List.eq_nil_of_length_eq_zero (by omega)
    cases A with
    | none =>
      subst h0
      obtain ⟨v', w', hr, ho', hg', _⟩ := Lib.run_append_own_string (P := P) w base t u ty e i ht hu hi hz hsize hby v 0 xs ⟨hown.1, .inl ⟨hv, rfl⟩⟩ s h63 hbytes hbase
      exact ⟨v', w', hr, q_of_own ho', hg'⟩
    | some b =>
      by_cases hs0 : s.size = 0
      · have hn : Lib.strCells s = [] := List.eq_nil_of_length_eq_zero (by rw [Lib.strCells_length]; exact hs0)
        refine ⟨v, w, ?_, by rw [hs0, hn, List.append_nil]; exact hown, ⟨rfl, rfl, rfl, Nat.le_refl _, fun _ _ _ => rfl⟩⟩
        have hf := Lib.run_firstCells_string (P := P) w 1 s
        rw [hs0, hn] at hf
        rw [hv]
        simp [Builtin.append_, run_underlying ht, run_underlying hu, sizeOf, typeInfo, hi, hsize, Builtin.lenOf, hs0, hf, storeCells]
      · exact grows b 0 (by omega) (fun j x hx' => by rw [hx] at hx'; simp at hx') (by rw [hv, h0])
  · rw [Nat.mul_one] at hv hcs htake
    rw [Nat.mul_one] at htake
    by_cases hroom : n + s.size ≤ cap
    · have hf := Lib.run_firstCells_string (P := P) w 1 s
      have hst := run_storeCells_cells (P := P) g (off + n) (Lib.strCells s) 0 w
        (fun j hj => by rw [cell_of_row w g _ cur e (0, 0) hg]; simp; rw [Lib.strCells_length] at hj; omega) (fun j _ => blk_frozen hg _) (Lib.strCells_oneCell s)
      simp only [Nat.add_zero] at hst
      have hr : (Builtin.append_ #[t, u] ty #[.slice (some ⟨g, off, none⟩) n cap, .string s]).run P w = .ok (.slice (some ⟨g, off, none⟩) (n + s.size) cap) (w.setCells g (off + n) (Lib.strCells s)) := by
        simp [Builtin.append_, run_underlying ht, run_underlying hu, sizeOf, typeInfo, hi, hsize, Builtin.lenOf, hroom, hf, Addr.add_lit, hst]
      obtain ⟨cur', h3, h4, h5⟩ := setCells_row (Lib.strCells s) (off + n) w cur hg (by rw [Lib.strCells_length]; omega)
      obtain ⟨s1, s2, s3, s4⟩ := setCells_same g (Lib.strCells s) (off + n) w
      refine ⟨_, _, by rw [hv]; exact hr, ⟨by simp [hxl, Lib.strCells_length], .inr ⟨g, off, cap, cur', by rw [Nat.mul_one], hbg, h3, hroom, hcm, by rw [h4, hcs, Nat.mul_one], ?_⟩⟩,
        ⟨s1, s2, s3, by rw [s4]; exact Nat.le_refl _, fun k _ hk => setCells_far _ _ k (fun he => hk (by rw [hv, he]; simp [Value.ownBlock]))⟩⟩
      rw [h5, Nat.mul_one, Nat.mul_one, List.append_assoc, List.drop_append_of_le_length (by rw [List.length_take, Array.length_toList]; omega), List.drop_take]
      rw [show off + n - off = n by omega, htake, ← List.append_assoc]
      exact List.take_left' (by simp [hxl, Lib.strCells_length])
    · refine grows ⟨g, off, none⟩ cap (by omega) (fun j x hx => ?_) hv
      rw [add_at, cell_of_row w g _ cur e (0, 0) hg]
      rw [← htake, List.getElem?_take] at hx
      split at hx
      · rw [List.getElem?_drop] at hx
        rw [← Array.getElem?_toList]
        exact hx
      · cases hx
theorem wpList_q_append_str {w : World} {ops : Array Oper} {rest : List Oper} {o : Oper} {a : Act} {Q : Exit → Act → World → Prop} (hgd : o.guard = none) (sl x : Operand) (t u : TypeId)
    (ho : o.op = .call { callee := .builtin .append, args := #[sl, x], argTypes := #[t, u] })
    (base : Nat) (e : TypeId) (ht : P.underlying t = some (.slice e)) (hu : P.underlying u = some .string) (hinfo : (P.info? e).map (fun i => (i.zero, i.size, i.bytes)) = some (some (.int .u8 0), 1, 1))
    (v : Value) (xs : List Int) (hs : a.eval sl = v) (hown : QRow w base e 1 v xs.length (nums .u8 xs)) (s : ByteArray) (hx : a.eval x = .string s)
    (hbytes : xs.length + s.size ≤ 140737488355328) (hbase : base ≤ w.heap.size)
    (h : ∀ v' w', QRow w' base e 1 v' (xs ++ bytesOf s).length (nums .u8 (xs ++ bytesOf s)) → w.grownBy w' v.ownBlock → wpList P ops Q rest (a.put o.dst v') w') : wpList P ops Q (o :: rest) a w := by
  obtain ⟨i, hi, hzz⟩ := Option.map_eq_some_iff.1 hinfo
  simp only [Prod.mk.injEq] at hzz
  obtain ⟨hz0, hz1, hz2⟩ := hzz
  refine wpList_plain hgd fun K hK => ?_
  obtain ⟨v', w', hr, h2, h3⟩ := q_append_str (P := P) w base t u o.type e i ht hu hi hz0 hz1 hz2 v xs.length (nums .u8 xs) hown s (by simp only [maxLen]; omega) hbytes hbase
  have hl2 : (xs ++ bytesOf s).length = xs.length + s.size := by rw [List.length_append, bytesOf_length]
  have hc : nums .u8 (xs ++ bytesOf s) = nums .u8 xs ++ Lib.strCells s := by
    rw [nums_append]
    congr 1
    simp [nums, bytesOf, Lib.strCells]
  unfold Oper.wp execOp
  simp only [ho, resolve, invoke, builtin, Sem.run_bind, Sem.run_pure, Result.andThen_ok, List.map_toArray, List.map_cons, List.map_nil, hs, hx, hr]
  exact hK _ _ (h v' w' (by rw [hl2, hc]; exact h2) h3)
end
end Go.Proofs.YtbcmmmcbineipaaDoor
