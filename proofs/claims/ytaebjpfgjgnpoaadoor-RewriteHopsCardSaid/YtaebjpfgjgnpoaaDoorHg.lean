/- The parts of a list of values. -/
import Derived.Test.YtaebjpfgjgnpoaaDoorHf
set_option linter.unusedVariables false
set_option linter.unusedSimpArgs false
namespace Go.Proofs.YtaebjpfgjgnpoaaDoor
open Go.RowKit Go.Shelf Go.Proofs.YtaebjpfgjgnpoaaDoorW.PrintWords Go.Proofs.YtaebjpfgjgnpoaaDoorW.PrintLast Go.Proofs.YtaebjpfgjgnpoaaDoorW.PrintMore
open Go.Proofs.YtaebjpfgjgnpoaaDoor.PR
attribute [local go_sem] Oper.semAt_some

theorem own_kept_nc {w w' : World} {base e size n : Nat} {v : Value} {xs : List Value} {row : Option Nat} (h : w.ownsRow base e size v n xs) (hg : w.grownBy w' row) (hr : ∀ r, row = some r → ∃ o : Obj, w.heap[r]? = some o ∧ o.isCells = false) : w'.ownsRow base e size v n xs := by
  refine h.kept hg ?_
  rcases ho : v.ownBlock with _ | g
  · exact .inl rfl
  · refine .inr (fun e' => ?_)
    obtain ⟨o, h1, h2⟩ := hr g e'.symm
    obtain ⟨cells, hc⟩ := own_typed h g ho
    rw [hc] at h1
    cases h1
    exact absurd h2 (by simp [Obj.isCells])
theorem own_le {w : World} {base base' size n : Nat} {e : TypeId} {v : Value} {xs : List Value} (h : w.ownsRow base e size v n xs) (hb : base' ≤ base) : w.ownsRow base' e size v n xs := by
  refine ⟨h.1, h.2.imp id ?_⟩
  rintro ⟨g, cap, cur, h1, h2, h3⟩
  exact ⟨g, cap, cur, h1, by omega, h3⟩
def keptS (pre : List ByteArray) : List ByteArray := (pre.map trimS).filter (fun p => !p.data.toList.isEmpty)
def listS (l : List ByteArray) : List ByteArray := keptS ((splitC 44 (joinS l).data.toList).map strL)
theorem keptS_snoc (pre : List ByteArray) (x : ByteArray) : keptS (pre ++ [x]) = keptS pre ++ (if (trimS x).data.toList.isEmpty = true then [] else [trimS x]) := by
  unfold keptS
  rw [List.map_append, List.filter_append]
  congr 1
  rw [List.map_singleton, List.filter_cons]
  cases (trimS x).data.toList.isEmpty <;> rfl
theorem keptS_length (pre : List ByteArray) : (keptS pre).length ≤ pre.length := by
  unfold keptS
  refine Nat.le_trans (List.length_filter_le _ _) ?_
  rw [List.length_map]
  exact Nat.le_refl _
theorem listS_eq (l : List ByteArray) : listS l = (listC (l.map (·.data.toList))).map strL := by
  unfold listS keptS
  rw [← parts_join]
  show List.filter _ (List.map trimS (List.map strL (splitC 44 ([44].intercalate (l.map (·.data.toList)))))) = _
  unfold partsC
  rw [List.map_map, List.filter_map, List.filter_map, List.map_map]
  rfl
theorem splitC_length (c : UInt8) (s : List UInt8) : (splitC c s).length ≤ s.length + 1 := by
  induction s with
  | nil => exact Nat.le_refl _
  | cons b t ih =>
    rw [splitC]
    by_cases h : b = c
    · rw [if_pos h]
      simp only [List.length_cons]
      omega
    · rw [if_neg h]
      cases hs : splitC c t with
      | nil => simp
      | cons p r =>
        rw [hs] at ih
        simp only [List.length_cons] at ih ⊢
        omega
/-- The loop's state: what has been kept lies in memory of its own. -/
def ListI (w0 w3 : World) (Bo : Nat) (pre : List ByteArray) (W : World) : Prop :=
  (∃ v, Boxed W Bo 41 v ∧ W.ownsRow w3.heap.size 9 1 v (keptS pre).length ((keptS pre).map .string)) ∧ Below w0.heap.size w0 W ∧ w3.heap.size ≤ W.heap.size
set_option maxRecDepth 100000 in
set_option maxHeartbeats 800000 in
theorem list_calls (v : Value) (base : Nat) (l : List ByteArray) (w0 : World) (ho : w0.ownsRow base 9 1 v l.length (l.map .string)) (hl : l.length ≤ 1000000) (hj : (joinS l).size ≤ 1000000) :
    Calls Tryd.prog 21 #[v] w0 fun e w' => (∃ v', e = .returned v' ∧ w'.ownsRow w0.heap.size 9 1 v' (listS l).length ((listS l).map .string)) ∧ Below w0.heap.size w0 w' := by
  obtain ⟨A0, c0, rfl⟩ := own_form ho
  have HO := Lib.hid ho
  clear ho
  obtain ⟨i0, hi0, hz0, hz1, hz2⟩ := info_parts infoStr
  refine (callsIn_wide (n := 8)).1 ?_
  refine callsIn_of_wp_marks Tryd.func21 rfl trivial ?_ rfl
  simp only [Tryd.ntmps21, List.size_toArray, List.length_cons, List.length_nil, Nat.reduceAdd, Nat.reduceSub, Array.replicate_succ, Array.replicate_zero, List.push_toArray, List.append_toArray, List.nil_append, List.cons_append]
  have hB1 := below_alloc (Below.refl w0.heap.size w0) (Obj.cells #[Value.slice none 0 0] 41)
  have b1 := Boxed.new w0 41 (.slice none 0 0)
  have ho1 := HO.out.alloc (Obj.cells #[Value.slice none 0 0] 41)
  gi_wp2_with fail
  generalize hw1 : w0.alloc (Obj.cells #[Value.slice none 0 0] 41) = w1 at hB1 b1 ho1 ⊢
  clear hw1
  refine ⟨trivial, CallsIn.mono (callsIn_wide.2 (join_calls (.slice A0 l.length c0) base l w1 ho1 hl hj)) ?_⟩
  rintro e w2 ⟨rfl, hb2⟩
  have hB2 := hB1.trans (hb2.mono hB1.size)
  have b2 : Boxed w2 w0.heap.size 41 (.slice none 0 0) := blk_below b1 hb2
  clear hb2 hB1 b1 ho1
  obtain ⟨js, Hjs⟩ : ∃ js : ByteArray, Hid (js = joinS l) := ⟨_, rfl⟩
  have hjs : js.size ≤ 1000000 := by rw [Hjs.out]; exact hj
  rw [← Hjs.out]
  gi_wp2_with fail
  refine ⟨trivial, CallsIn.mono (callsIn_wide.2 (splitSeq_calls js w2)) ?_⟩
  rintro e w3 ⟨rfl, hw3⟩
  have hsz3 : w3.heap.size = w2.heap.size + 3 := by rw [hw3]; simp
  have bs : Boxed w3 w2.heap.size 9 (.string js) := by rw [hw3]; exact ((Boxed.new w2 9 _).alloc _).alloc _
  have bp : Boxed w3 (w2.heap.size + 1) 9 (.string ⟨#[44]⟩) := by
    rw [hw3]
    have h := Boxed.new (w2.alloc (.cells #[.string js] 9)) 9 (.string ⟨#[44]⟩)
    rw [World.size_alloc] at h
    exact h.alloc _
  have bv : Boxed w3 (w2.heap.size + 2) 3 (.int .i64 0) := by
    rw [hw3]
    have h := Boxed.new ((w2.alloc (.cells #[.string js] 9)).alloc (.cells #[.string ⟨#[44]⟩] 9)) 3 (.int .i64 0)
    rw [World.size_alloc, World.size_alloc] at h
    exact h
  have b3 : Boxed w3 w0.heap.size 41 (.slice none 0 0) := by rw [hw3]; exact ((b2.alloc _).alloc _).alloc _
  have hB23 : Below w2.heap.size w2 w3 := by rw [hw3]; exact below_alloc (below_alloc (below_alloc (Below.refl _ _) _) _) _
  have hB3 := hB2.trans (hB23.mono hB2.size)
  have hlo : w0.heap.size < w2.heap.size := b2.lt
  clear hw3 hB2 b2 hB23
  have HBs := Lib.hid bs
  have HBp := Lib.hid bp
  have HBv := Lib.hid bv
  have HB3 := Lib.hid b3
  have HW3 := Lib.hid hB3
  clear bs bp bv b3 hB3
  gi_wp2_with fail
  obtain ⟨asg, Hasg⟩ : ∃ asg : ByteArray → Act, Hid (asg = fun x => { tmps := #[.slice A0 l.length c0, undef, .slice none 0 0, .pointer (some ⟨w0.heap.size, 0, none⟩), .string x, undef, .slice A0 l.length c0, .string js, .func (.func 50) #[] #[.pointer (some ⟨w2.heap.size + 1, 0, none⟩), .pointer (some ⟨w2.heap.size, 0, none⟩), .pointer (some ⟨w2.heap.size + 2, 0, none⟩)], .string x, undef, undef, undef, undef, undef, undef, undef, undef, undef], defers := [] }) := ⟨_, rfl⟩
  refine wpIn_rangeFunc_box (F := Fence.wide) rfl (by decide) (gf := 50) (lb := #[.pointer (some ⟨w2.heap.size + 1, 0, none⟩), .pointer (some ⟨w2.heap.size, 0, none⟩), .pointer (some ⟨w2.heap.size + 2, 0, none⟩)]) rfl trivial (enters_of Tryd.func50 (by kernel_rfl) rfl) (Bs := w2.heap.size) (by omega)
    (split_seq 7 (by decide) w0.heap.size (w2.heap.size + 1) w2.heap.size (w2.heap.size + 2) w3.heap.size 44 js.data.toList (by rw [Array.length_toList]; exact hjs) (by omega) (by omega) (by omega) (by omega) (by omega))
    (fun W hW => ⟨⟨blk_below HBp.out hW, blk_below HBs.out hW, blk_below HBv.out hW⟩, hW.size⟩)
    (fun h k => h.trans k) (fun W r o' hr => ⟨⟨rfl, rfl, rfl, by simp [World.putObj], fun k hk => World.putObj_heap_other (by omega)⟩, World.putObj_heap_other (by omega), World.putObj_heap_other (by omega), World.putObj_heap_other (by omega)⟩) (fun _ => rfl)
    (ListI w0 w3 w0.heap.size) ?hI ⟨⟨_, HB3.out, World.ownsRow_nil _ _ _ _⟩, HW3.out, Nat.le_refl _⟩ asg ?assign ?body ?done
  case hI =>
    rintro s A B row ⟨⟨v, hb, hown⟩, hB, hsz⟩ hg hr
    have h1 : some w0.heap.size ≠ row := fun e => by
      rcases hr _ e.symm with h | ⟨h, _⟩ <;> omega
    have h2 : v.ownBlock = none ∨ v.ownBlock ≠ row := by
      cases hv : v.ownBlock with
      | none => exact .inl rfl
      | some g =>
        refine .inr (fun e => ?_)
        obtain ⟨hge, hlt⟩ := hown.lt g hv
        rcases hr _ e.symm with h | ⟨_, o, ho, hoc⟩
        · omega
        · obtain ⟨cells, hc⟩ := own_typed hown g hv
          rw [hc] at ho
          cases ho
          simp [Obj.isCells] at hoc
    refine ⟨⟨v, hb.kept hg h1, hown.kept hg h2⟩, hB.grown hg (by have := hB.size; omega) (fun g e => ?_), Nat.le_trans hsz hg.size⟩
    rcases hr g e with h | ⟨h, _⟩ <;> omega
  case assign =>
    intro r x W K hK
    gi_wp2
    rw [Hasg.out] at hK
    exact hK
  case body =>
    rintro r pre x W hrl hok ⟨⟨v, hb, hown⟩, hB, hsz⟩ hlen
    have hx : x.size ≤ 1000000 := by rw [Array.length_toList] at hok; exact Nat.le_trans hok hjs
    have hn6 : (keptS pre).length ≤ 1000001 := by
      have h1 := keptS_length pre
      have h2 : (splitC 44 js.data.toList).length ≤ js.size + 1 := splitC_length 44 js.data.toList
      omega
    have HSn := Lib.hid (keptS_snoc pre x)
    obtain ⟨out, Hout⟩ : ∃ out : List ByteArray, Hid (out = keptS pre) := ⟨_, rfl⟩
    rw [← Hout.out] at hown HSn hn6
    have HOW := Lib.hid hown
    have HB := Lib.hid hb
    have HBW := Lib.hid hB
    have cB := hb.cell
    clear hown hb hB hlen hok
    rw [Hasg.out]
    gi_wp2_with fail
    refine ⟨trivial, (CallsIn.inRound r (callsIn_wide.2 (trim_calls x W hx))).mono ?_⟩
    rintro e w4 ⟨rfl, hb4⟩
    obtain ⟨tx, Htx⟩ : ∃ tx : ByteArray, Hid (tx = trimS x) := ⟨_, rfl⟩
    rw [← Htx.out] at HSn ⊢
    have hO4 := own_later HOW.out hb4
    have h4 : Boxed w4 w0.heap.size 41 v := blk_below HB.out hb4
    have hk4 : KeepsOthers W w4 := KeepsOthers.of_grownBy (row := none) ⟨hb4.os, hb4.tape, hb4.output, hb4.size, fun k hk _ => hb4.block k hk⟩ (by simp)
    have hs4 : SepKp w0.heap.size (w2.heap.size + 1) w2.heap.size (w2.heap.size + 2) W w4 := ⟨hb4.mono HBW.out.size, hb4.block _ (by omega), hb4.block _ (by omega), hb4.block _ (by omega)⟩
    have hB4 := HBW.out.trans (hb4.mono HBW.out.size)
    have hz4 := hb4.size
    clear hb4 HOW HB HBW
    have HOW := Lib.hid hO4
    have HB := Lib.hid h4
    have HBW := Lib.hid hB4
    have HK := Lib.hid hk4
    have HS := Lib.hid hs4
    have cB := h4.cell
    clear hO4 h4 hB4 hk4 hs4
    have hn8 : out.length < maxLen := by unfold maxLen; omega
    have hn9 : out.length + 1 ≤ maxLen := by unfold maxLen; omega
    have hn10 : (out.length + 1) * 16 ≤ 140737488355328 := by omega
    by_cases he : tx.data.toList.isEmpty = true
    · rw [if_pos he, List.append_nil] at HSn
      have hne : tx = ⟨#[]⟩ := data_inj (List.isEmpty_iff.1 he)
      subst hne
      clear he
      gi_wp2_with fail
      exact ⟨HK.out, HS.out, ⟨v, HB.out, by rw [HSn.out]; exact HOW.out⟩, HBW.out, by omega⟩
    · rw [if_neg he] at HSn
      have hne : tx.toList.isEmpty = false := by
        rw [Lib.toList_data]
        simpa using he
      clear he
      have hOa := HOW.out.alloc (Obj.cells #[Value.string tx] 9)
      have hBa := HB.out.alloc (Obj.cells #[Value.string tx] 9)
      have hnr := hBa.not_row (by decide) hOa
      have HOA := Lib.hid hOa
      have HBA := Lib.hid hBa
      have HNR := Lib.hid hnr
      clear hOa hBa hnr
      gi_wp2_with (gi_at_builtin; (refine wpListIn_append_own_at _ rfl (.tmp 14) (.tmp 16) 41 rfl w3.heap.size 9 i0 _ 1 16 Tryd.underlying41 hi0 hz0 hz1 hz2 rfl (by decide) v out.length (out.map .string) rfl HOA.out ⟨w4.heap.size, 0, none⟩ 1 1 [.string tx] rfl rfl (cell_one_new _ _ _) (by simp [Value.oneCell']) hn9 hn10 (by simp; omega) ?_; intro v5 w5 hown5 hgrow5 hnil hat; obtain ⟨gg, cap, rfl, hgb, hgl⟩ := hown5.form (by omega); have g6 : Boxed w5 w0.heap.size 41 v := HBA.out.kept hgrow5 HNR.out; have p6 := g6.cell; have q6 := g6.frozen))
      have hz5 := hgrow5.size
      rw [World.size_alloc] at hz5
      have hb5 : Below w3.heap.size w4 w5 := ((Below.refl w3.heap.size w4).alloc (by omega) _).grown hgrow5 (by rw [World.size_alloc]; omega) (fun k e => own_ge HOA.out e)
      have hgs := grownBy_setCell' w5 w0.heap.size (Value.slice (some ⟨gg, 0, none⟩) (out.length + 1) cap)
      have hbl : ∀ k, k < w3.heap.size → k ≠ w0.heap.size → (w5.setCell ⟨w0.heap.size, 0, none⟩ (Value.slice (some ⟨gg, 0, none⟩) (out.length + 1) cap)).heap[k]? = w4.heap[k]? := fun k hk hne => (hgs.block k (by omega) (fun e => hne (by injection e))).trans (hb5.block k hk)
      have hko : KeepsOthers (w4.alloc (Obj.cells #[Value.string tx] 9)) w5 := KeepsOthers.of_grownBy hgrow5 (fun j o ej hj => by
        obtain ⟨cells, hc⟩ := own_typed HOA.out j ej
        rw [hc] at hj
        cases hj
        rfl)
      have hB5 : Below w0.heap.size w4 (w5.setCell ⟨w0.heap.size, 0, none⟩ (Value.slice (some ⟨gg, 0, none⟩) (out.length + 1) cap)) := (hb5.mono (show w0.heap.size ≤ w3.heap.size by omega)).setCell (p := ⟨w0.heap.size, 0, none⟩) (Nat.le_refl _) _
      refine ⟨((HK.out.trans (KeepsOthers.alloc _ _)).trans hko).trans (KeepsOthers.setCell _ _ _), HS.out.trans ⟨hB5, hbl _ (by omega) (by omega), hbl _ (by omega) (by omega), hbl _ (by omega) (by omega)⟩, ⟨_, g6.set _, ?_⟩, HBW.out.trans hB5, ?_⟩
      · rw [HSn.out, List.length_append, List.map_append]
        exact hown5.kept hgs (.inr (fun e => g6.not_row (by decide) hown5 e.symm))
      · have := hgs.size
        omega
  case done =>
    rintro D xs W hD hxs ⟨⟨v, hb, hown⟩, hB, hsz⟩ hK
    have hfi : keptS xs = listS l := by rw [hxs, Hjs.out]; rfl
    rw [hfi] at hown
    have c6 := hb.cell
    gi_wp2
    refine ⟨by simp, .inl ⟨_, _, rfl, run_takeDeferred hK, ?_⟩⟩
    have hbl : Below w3.heap.size W (W.putObj D (.deferred none)) := ⟨rfl, rfl, rfl, by simp [World.putObj], fun k hk => World.putObj_heap_other (by omega)⟩
    have hO9 := own_kept_nc hown (grownBy_putObj' W D (.deferred none)) (fun r e => by cases e; exact ⟨_, hK, rfl⟩)
    exact ⟨_, results_tmp rfl _ _ _, ⟨_, rfl, own_le hO9 (by omega)⟩, hB.trans (hbl.mono (by omega))⟩
end Go.Proofs.YtaebjpfgjgnpoaaDoor
