/- What is named in a list: parts, lowered in place. -/
import Derived.Test.YtaebjpfgjgnpoaaDoorHg
set_option linter.unusedVariables false
set_option linter.unusedSimpArgs false
namespace Go.Proofs.YtaebjpfgjgnpoaaDoor
open Go.RowKit Go.Shelf Go.Proofs.YtaebjpfgjgnpoaaDoorW.PrintWords Go.Proofs.YtaebjpfgjgnpoaaDoorW.PrintLast Go.Proofs.YtaebjpfgjgnpoaaDoorW.PrintMore
open Go.Proofs.YtaebjpfgjgnpoaaDoor.PR
attribute [local go_sem] Oper.semAt_some

theorem own_put {w : World} {base size n m g cap j : Nat} {e : TypeId} {xs : List Value} (h : w.ownsRow base e size (.slice (some ⟨g, 0, none⟩) n cap) m xs) (u : Value) : (w.setCell ⟨g, j, none⟩ u).ownsRow base e size (.slice (some ⟨g, 0, none⟩) n cap) m (xs.set j u) := by
  obtain ⟨h1, h2⟩ := h
  refine ⟨by rw [List.length_set]; exact h1, ?_⟩
  rcases h2 with ⟨h2, _⟩ | ⟨g', cap', cur, hv, hg, hh, hr⟩
  · cases h2
  · cases hv
    refine .inr ⟨g, cap, cur.setIfInBounds j u, rfl, hg, blk_set hh j u, hr.1, hr.2.1, by simpa using hr.2.2.1, ?_⟩
    rw [Array.toList_setIfInBounds, List.take_set, hr.2.2.2]
theorem own_frozen {w : World} {base size n m g cap : Nat} {e : TypeId} {xs : List Value} (h : w.ownsRow base e size (.slice (some ⟨g, 0, none⟩) n cap) m xs) (j : Nat) : w.frozen? ⟨g, j, none⟩ = false := by
  obtain ⟨h1, h2⟩ := h
  rcases h2 with ⟨h2, _⟩ | ⟨g', cap', cur, hv, hg, hh, hr⟩
  · cases h2
  · cases hv
    simp [World.frozen?, hh]
def halfS (l : List ByteArray) (k : Nat) : List ByteArray := (l.take k).map lowS ++ l.drop k
theorem halfS_length (l : List ByteArray) (k : Nat) (hk : k ≤ l.length) : (halfS l k).length = l.length := by
  unfold halfS
  rw [List.length_append, List.length_map, List.length_take, List.length_drop]
  omega
theorem halfS_at (l : List ByteArray) (k : Nat) (hk : k < l.length) (h : k < (halfS l k).length) : (halfS l k)[k] = l[k] := by
  apply Option.some.inj
  rw [← List.getElem?_eq_getElem h, ← List.getElem?_eq_getElem hk]
  unfold halfS
  rw [List.getElem?_append_right (by simp; omega)]
  simp [Nat.min_eq_left (Nat.le_of_lt hk)]
theorem halfS_set (l : List ByteArray) (k : Nat) (hk : k < l.length) : (halfS l k).set k (lowS l[k]) = halfS l (k + 1) := by
  unfold halfS
  rw [List.set_append_right _ _ (by simp; omega), List.take_succ_eq_append_getElem hk, List.map_append]
  have hd := List.drop_eq_getElem_cons hk
  simp [Nat.min_eq_left (Nat.le_of_lt hk)]
  rw [hd]
  rfl
theorem splitC_mem_le (c : UInt8) (s : List UInt8) : ∀ p ∈ splitC c s, p.length ≤ s.length := by
  induction s with
  | nil => intro p hp; simp [splitC] at hp; subst hp; exact Nat.le_refl _
  | cons b t ih =>
    intro p hp
    rw [splitC] at hp
    by_cases h : b = c
    · rw [if_pos h] at hp
      rcases List.mem_cons.1 hp with rfl | hp
      · exact Nat.zero_le _
      · exact Nat.le_trans (ih p hp) (by simp)
    · rw [if_neg h] at hp
      cases hs : splitC c t with
      | nil => exact absurd hs (splitC_ne c t)
      | cons q r =>
        rw [hs] at hp ih
        rcases List.mem_cons.1 hp with rfl | hp
        · have := ih q (by simp)
          simp only [List.length_cons]
          omega
        · exact Nat.le_trans (ih p (by simp [hp])) (by simp)
theorem trimS_size (x : ByteArray) : (trimS x).size ≤ x.size := by
  unfold trimS
  rw [strL_size]
  exact trim_length _
theorem listS_size (l : List ByteArray) : ∀ x ∈ listS l, x.size ≤ (joinS l).size := by
  intro x hx
  unfold listS keptS at hx
  obtain ⟨hx, _⟩ := List.mem_filter.1 hx
  rw [List.map_map] at hx
  obtain ⟨p, hp, rfl⟩ := List.mem_map.1 hx
  refine Nat.le_trans (trimS_size _) ?_
  rw [strL_size]
  exact splitC_mem_le 44 _ p hp
theorem listS_length (l : List ByteArray) : (listS l).length ≤ (joinS l).size + 1 := by
  unfold listS
  refine Nat.le_trans (keptS_length _) ?_
  rw [List.length_map]
  exact splitC_length 44 (joinS l).data.toList
/-- Tokens. -/
def tokS (l : List S40) (nm : ByteArray) : List ByteArray := (listS (allF l nm)).map lowS
set_option maxRecDepth 100000 in
set_option maxHeartbeats 400000 in
theorem tokens_calls (A : Option Addr) (c : Nat) (l : List S40) (nm : ByteArray) (w0 : World) (hr : Kd.C k40 w0 A l.length l) (hc : l.length ≤ c) (hl : l.length ≤ 1000000) (hs : ∀ f ∈ l, f.f0.size ≤ 1000000) (hn : nm.size ≤ 1000000) (hj : (joinS (allF l nm)).size ≤ 1000000) :
    Calls Tryd.prog 13 #[.slice A l.length c, .string nm] w0 fun e w' => (∃ v, e = .returned v ∧ w'.ownsRow w0.heap.size 9 1 v (tokS l nm).length ((tokS l nm).map .string)) ∧ Below w0.heap.size w0 w' := by
  have hAll := fun w h => all_calls A c l nm w h hc hl hs hn
  have HAll := Lib.hid hAll
  have HR := Lib.hid hr
  clear hr hAll
  have hal : (allF l nm).length ≤ 1000000 := Nat.le_trans (allF_length l nm) hl
  go_enter Tryd.func13, Tryd.ntmps13
  go_wp2_with fail
  refine (HAll.out _ HR.out).mono ?_
  rintro e w1 ⟨⟨v1, rfl, ho1⟩, hb1⟩
  obtain ⟨al, Hal⟩ : ∃ al : List ByteArray, Hid (al = allF l nm) := ⟨_, rfl⟩
  rw [← Hal.out] at ho1 hj hal
  have HB1 := Lib.hid hb1
  have HO1 := Lib.hid ho1
  clear hb1 ho1
  go_wp2_with fail
  refine (list_calls v1 w0.heap.size al w1 HO1.out hal hj).mono ?_
  rintro e w2 ⟨⟨v2, rfl, ho2⟩, hb2⟩
  obtain ⟨ll, Hll⟩ : ∃ ll : List ByteArray, Hid (ll = listS al) := ⟨_, rfl⟩
  rw [← Hll.out] at ho2
  have hsz : ∀ x ∈ ll, x.size ≤ 1000000 := fun x hx => Nat.le_trans (listS_size al x (by rw [← Hll.out]; exact hx)) hj
  have hll : ll.length ≤ 1000001 := by
    have := listS_length al
    rw [← Hll.out] at this
    omega
  have HSZ := Lib.hid hsz
  have HB2 : Hid (Below w0.heap.size w0 w2) := HB1.out.trans (hb2.mono HB1.out.size)
  have HO2 := Lib.hid (own_le ho2 HB1.out.size)
  clear hb2 ho2 hsz HO1 HB1
  obtain ⟨A2, c2, rfl⟩ := own_form HO2.out
  go_wp2_with fail
  go_loopw [14] (fun i wr => ∃ k : Nat, k ≤ ll.length ∧ i = .int .i64 k ∧ Hid (wr.ownsRow w0.heap.size 9 1 (.slice A2 ll.length c2) ll.length ((halfS ll k).map .string)) ∧ Hid (Below w0.heap.size w0 wr)) (fun i _ => ll.length - (intOf i).toNat)
  case atStart => exact ⟨0, Nat.zero_le _, rfl, HO2.out, HB2.out⟩
  case round =>
    obtain ⟨k, hk, rfl, HO, HB⟩ := hrel
    by_cases hlt : k < ll.length
    · obtain ⟨g, cap, hv, hge, hgl⟩ := HO.out.form (by omega)
      injection hv with e1 e2 e3
      subst e1 e3
      have hxl := own_cells HO.out (halfS_length ll k hk).symm k (by rw [halfS_length ll k hk]; exact hlt)
      rw [halfS_at ll k hlt] at hxl
      have hst := halfS_set ll k hlt
      obtain ⟨x, Hx⟩ : ∃ x : ByteArray, Hid (x = ll[k]) := ⟨ll[k], rfl⟩
      rw [← Hx.out] at hxl hst
      have hxs : x.size ≤ 1000000 := by rw [Hx.out]; exact HSZ.out _ (List.getElem_mem hlt)
      have HST := Lib.hid hst
      clear hst
      go_wp2_with fail
      refine (lower_calls x wr hxs).mono ?_
      rintro e w3 ⟨rfl, hb3⟩
      have ey : (⟨(low x.data.toList).toArray⟩ : ByteArray) = lowS x := rfl
      rw [ey]
      obtain ⟨y, Hy⟩ : ∃ y : ByteArray, Hid (y = lowS x) := ⟨_, rfl⟩
      rw [← Hy.out] at HST ⊢
      have HB3 : Hid (Below w0.heap.size w0 w3) := HB.out.trans (hb3.mono HB.out.size)
      have HO3 := Lib.hid (own_later HO.out hb3)
      clear hb3 hxl ey
      have c3 := own_cells HO3.out (halfS_length ll k hk).symm k (by rw [halfS_length ll k hk]; exact hlt)
      have f3 := own_frozen HO3.out k
      have HOn : Hid ((w3.setCell ⟨g, k, none⟩ (.string y)).ownsRow w0.heap.size 9 1 (.slice (some ⟨g, 0, none⟩) ll.length c2) ll.length ((halfS ll (k + 1)).map .string)) := by
        have h := own_put (j := k) HO3.out (.string y)
        rw [← List.map_set, HST.out] at h
        exact h
      have HBn : Hid (Below w0.heap.size w0 (w3.setCell ⟨g, k, none⟩ (.string y))) := HB3.out.setCell (p := ⟨g, k, none⟩) hge _
      go_wp2_with fail
      go_roundw
      case rel => exact ⟨k + 1, by omega, by go_num, HOn, HBn⟩
      case measure => simp [intOf]; omega
    · obtain rfl : k = ll.length := by omega
      have hfin : halfS ll ll.length = tokS l nm := by
        unfold halfS tokS
        rw [List.take_length, List.drop_length, List.append_nil, Hll.out, Hal.out]
      rw [hfin] at HO
      have hln : ll.length = (tokS l nm).length := by
        unfold tokS
        rw [List.length_map, Hll.out, Hal.out]
      go_wp2_with fail
      go_ret
      exact ⟨⟨_, rfl, by rw [← hln]; exact HO.out⟩, HB.out⟩
end Go.Proofs.YtaebjpfgjgnpoaaDoor
