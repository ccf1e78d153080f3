/- The fields of a name: the walks. -/
import Derived.Test.YtaebjpfgjgnpoaaDoorHb
import Derived.Laws.OwnMore
set_option linter.unusedVariables false
set_option linter.unusedSimpArgs false
namespace Go.Proofs.YtaebjpfgjgnpoaaDoor
open Go.RowKit Go.Proofs.YtaebjpfgjgnpoaaDoorW.PrintWords Go.Proofs.YtaebjpfgjgnpoaaDoorW.PrintLast Go.Proofs.YtaebjpfgjgnpoaaDoorW.PrintMore
open Go.Proofs.YtaebjpfgjgnpoaaDoor.PR

def lowS (s : ByteArray) : ByteArray := ⟨(low s.data.toList).toArray⟩
theorem lowS_list (s : ByteArray) : (lowS s).data.toList = low s.data.toList := rfl
theorem lowS_size (s : ByteArray) : (lowS s).size = s.size := by
  show (low s.data.toList).toArray.size = _
  rw [List.size_toArray, low_length, Array.length_toList]
  rfl
/-- The same in small letters? -/
def foldB (a b : ByteArray) : Bool := decide (low a.data.toList = low b.data.toList)
theorem data_inj {a b : ByteArray} (h : a.data.toList = b.data.toList) : a = b := by
  obtain ⟨⟨a⟩⟩ := a
  obtain ⟨⟨b⟩⟩ := b
  simp only at h
  subst h
  rfl
theorem list_eqB (a b : ByteArray) : (a.toList == b.toList) = decide (a.data.toList = b.data.toList) := by
  rw [Lib.toList_data, Lib.toList_data, Bool.eq_iff_iff, beq_iff_eq, decide_eq_true_iff]
set_option maxHeartbeats 400000 in
theorem fold_calls (a b : ByteArray) (w0 : World) (ha : a.size ≤ 1000000) (hb : b.size ≤ 1000000) :
    Calls Tryd.prog 39 #[.string a, .string b] w0 fun e w' => e = .returned (.bool (foldB a b)) ∧ Below w0.heap.size w0 w' := by
  have h1 := fun w => lower_calls a w ha
  have h2 := fun w => lower_calls b w hb
  have e1 : (⟨(low a.data.toList).toArray⟩ : ByteArray) = lowS a := rfl
  have e2 : (⟨(low b.data.toList).toArray⟩ : ByteArray) = lowS b := rfl
  rw [e1] at h1
  rw [e2] at h2
  have H1 := Lib.hid h1
  have H2 := Lib.hid h2
  have hres : foldB a b = ((lowS a).toList == (lowS b).toList) := by rw [list_eqB]; rfl
  have HRes := Lib.hid hres
  clear h1 h2 e1 e2 hres
  go_enter Tryd.func39, Tryd.ntmps39
  go_wp2_with fail
  refine (H1.out _).mono ?_
  rintro e w1 ⟨rfl, hb1⟩
  have HB1 := Lib.hid hb1
  clear hb1
  go_wp2_with fail
  refine (H2.out _).mono ?_
  rintro e w2 ⟨rfl, hb2⟩
  have HB2 : Hid (Below w0.heap.size w0 w2) := HB1.out.trans (hb2.mono HB1.out.size)
  clear hb2
  go_wp2_with fail
  go_ret
  exact ⟨by rw [HRes.out]; rfl, HB2.out⟩
set_option maxHeartbeats 400000 in
theorem is_calls (x : S40) (nm : ByteArray) (w0 : World) (ha : x.f0.size ≤ 1000000) (hb : nm.size ≤ 1000000) :
    Calls Tryd.prog 28 #[.agg #[.string x.f0, .string x.f1], .string nm] w0 fun e w' => e = .returned (.bool (foldB x.f0 nm)) ∧ Below w0.heap.size w0 w' := by
  have HF : Hid (∀ w, Calls Tryd.prog 39 #[.string x.f0, .string nm] w fun e w' => e = .returned (.bool (foldB x.f0 nm)) ∧ Below w.heap.size w w') := fun w => fold_calls x.f0 nm w ha hb
  have HB0 := Lib.hid (below_alloc (Below.refl w0.heap.size w0) (.cells #[.string x.f0, .string x.f1] 33))
  go_enter Tryd.func28, Tryd.ntmps28
  go_wp2_with fail
  refine (HF.out _).mono ?_
  rintro e w1 ⟨rfl, hb1⟩
  have HB1 : Hid (Below w0.heap.size w0 w1) := HB0.out.trans (hb1.mono HB0.out.size)
  clear hb1
  go_wp2_with fail
  go_ret
  exact ⟨rfl, HB1.out⟩
theorem fld_at {w : World} {A : Option Addr} {l : List S40} (h : Kd.C k40 w A l.length l) (k : Nat) (hk : k < l.length) : ∃ ad, A = some ad ∧ w.cell? (ad.add (k * 2)) = some (.string l[k].f0) ∧ w.cell? ⟨(ad.add (k * 2)).block, (ad.add (k * 2)).off + 1, none⟩ = some (.string l[k].f1) := by
  obtain ⟨ad, rfl, hc0, hc1⟩ := at_T40 h (k : Int) (by omega) (by omega)
  have ex : rd_T40 l (k : Int) = l[k] := by simp [rd_T40, List.getD_eq_getElem?_getD, List.getElem?_eq_getElem hk]
  rw [ex] at hc0 hc1
  simp only [Int.toNat_natCast] at hc0 hc1
  exact ⟨ad, rfl, hc0, hc1⟩
theorem own_form {w : World} {base size : Nat} {e : TypeId} {v : Value} {n : Nat} {xs : List Value} (h : w.ownsRow base e size v n xs) : ∃ A c, v = .slice A n c := by
  rcases h.2 with ⟨h1, h2⟩ | ⟨g, cap, cur, h1, _⟩
  · exact ⟨none, 0, by rw [h1, h2]⟩
  · exact ⟨_, _, h1⟩
theorem own_ge {w : World} {base : Nat} {e : TypeId} {size : Nat} {v : Value} {n g : Nat} {xs : List Value} (h : w.ownsRow base e size v n xs) (hg : v.ownBlock = some g) : base ≤ g := by
  rcases h.2 with ⟨rfl, _⟩ | ⟨g', cap, cur, rfl, hb, hgb, _⟩
  · simp [Value.ownBlock] at hg
  · obtain rfl : g = g' := by simpa [Value.ownBlock] using hg.symm
    exact hb
theorem own_later {w wx : World} {base : Nat} {e : TypeId} {size : Nat} {v : Value} {n : Nat} {xs : List Value} (h : w.ownsRow base e size v n xs) (hb : Below w.heap.size w wx) : wx.ownsRow base e size v n xs := by
  rcases ho : v.ownBlock with _ | g
  · exact h.kept (row := none) ⟨hb.os, hb.tape, hb.output, hb.size, fun k hk _ => hb.block k hk⟩ (.inl ho)
  · exact h.kept (row := none) ⟨hb.os, hb.tape, hb.output, hb.size, fun k hk _ => hb.block k hk⟩ (.inr (by rw [ho]; simp))
theorem own_strs {w : World} {base t n : Nat} {v : Value} {l : List ByteArray} (h : w.ownsRow base t 1 v n (l.map .string)) (hn : n = l.length) : ∃ A c, v = .slice A l.length c ∧ l.length ≤ c ∧ Kd.C Kd.string w A l.length l := by
  subst hn
  rcases h.2 with ⟨rfl, h0⟩ | ⟨g, cap, cur, rfl, hbg, hg, hnc, hcm, hcs, htake⟩
  · obtain rfl : l = [] := List.eq_nil_of_length_eq_zero h0
    exact ⟨none, 0, rfl, Nat.le_refl _, ⟨rfl, by show 0 ≤ _; omega, fun h => absurd h (by simp)⟩⟩
  · refine ⟨_, cap, rfl, hnc, Kd.C_of_reads (d := ByteArray.empty) ⟨rfl, by unfold maxLen at hcm; omega, fun hp => ⟨_, rfl, fun j hj => ?_⟩⟩⟩
    rw [add_at, Nat.zero_add, cell_of_row w g j cur t (0, 0) hg]
    have h1 : cur[j]? = (cur.toList.take (l.length * 1))[j]? := by rw [List.getElem?_take, if_pos (by omega), Array.getElem?_toList]
    rw [h1, htake, List.getElem?_map, List.getElem?_eq_getElem hj, List.getD_eq_getElem?_getD, List.getElem?_eq_getElem hj]
    rfl
theorem infoStr : (Tryd.prog.info? 9).map (fun i => (i.zero, i.size, i.bytes)) = some (some (.string ⟨#[]⟩), 1, 16) := by kernel_rfl
/-- The values of a name. -/
def allF (l : List S40) (nm : ByteArray) : List ByteArray := (l.filter fun f => foldB f.f0 nm).map (·.f1)
theorem allF_succ (l : List S40) (nm : ByteArray) (k : Nat) (h : k < l.length) : allF (l.take (k + 1)) nm = allF (l.take k) nm ++ (if foldB l[k].f0 nm = true then [l[k].f1] else []) := by
  unfold allF
  rw [List.take_succ_eq_append_getElem h, List.filter_append, List.map_append]
  congr 1
  rw [List.filter_cons]
  split <;> rfl
theorem allF_length (l : List S40) (nm : ByteArray) : (allF l nm).length ≤ l.length := by
  unfold allF
  rw [List.length_map]
  exact List.length_filter_le _ _
set_option maxHeartbeats 400000 in
set_option maxRecDepth 100000 in
theorem all_calls (A : Option Addr) (c : Nat) (l : List S40) (nm : ByteArray) (w0 : World) (hr : Kd.C k40 w0 A l.length l) (hc : l.length ≤ c) (hl : l.length ≤ 1000000) (hs : ∀ f ∈ l, f.f0.size ≤ 1000000) (hn : nm.size ≤ 1000000) :
    Calls Tryd.prog 22 #[.slice A l.length c, .string nm] w0 fun e w' => (∃ v, e = .returned v ∧ w'.ownsRow w0.heap.size 9 1 v (allF l nm).length ((allF l nm).map .string)) ∧ Below w0.heap.size w0 w' := by
  have HR := Lib.hid hr
  have HS := Lib.hid hs
  clear hr hs
  obtain ⟨i0, hi0, hz0, hz1, hz2⟩ := info_parts infoStr
  go_enter Tryd.func22, Tryd.ntmps22
  go_wp2_with fail
  go_loopw [5, 10] (fun v i wr => ∃ k : Nat, k ≤ l.length ∧ i = .int .i64 k ∧ Hid (wr.ownsRow w0.heap.size 9 1 v (allF (l.take k) nm).length ((allF (l.take k) nm).map .string)) ∧ Hid (Below w0.heap.size w0 wr)) (fun _ i _ => l.length - (intOf i).toNat)
  case atStart => exact ⟨0, Nat.zero_le _, rfl, World.ownsRow_nil _ _ _ _, Below.refl _ _⟩
  case round =>
    obtain ⟨k, hk, rfl, HO, HB⟩ := hrel
    by_cases hlt : k < l.length
    · obtain ⟨ad, hAd, hc0, hc1⟩ := fld_at (Kd.C_below HR.out HB.out) k hlt
      subst hAd
      obtain ⟨x, Hx⟩ : ∃ x : S40, Hid (x = l[k]) := ⟨l[k], rfl⟩
      rw [← Hx.out] at hc0 hc1
      have hxs : x.f0.size ≤ 1000000 := by rw [Hx.out]; exact HS.out _ (List.getElem_mem hlt)
      have hsu := allF_succ l nm k hlt
      rw [← Hx.out] at hsu
      have hle := allF_length (l.take k) nm
      rw [List.length_take] at hle
      obtain ⟨N, HN⟩ : ∃ N : List ByteArray, Hid (N = allF (l.take k) nm) := ⟨_, rfl⟩
      rw [← HN.out] at HO hsu hle
      have HSU := Lib.hid hsu
      clear hsu
      have hnb := blk_new wr (.cells #[.string x.f0, .string x.f1] 33)
      have HNB := Lib.hid hnb
      have HB1 := Lib.hid (below_alloc HB.out (.cells #[.string x.f0, .string x.f1] 33))
      have HO1 := Lib.hid (HO.out.alloc (.cells #[.string x.f0, .string x.f1] 33))
      clear hnb
      go_wp2_with fail
      generalize wr.alloc (.cells #[.string x.f0, .string x.f1] 33) = w1 at HNB HB1 HO1 ⊢
      refine (is_calls x nm w1 hxs hn).mono ?_
      rintro e w2 ⟨rfl, hb2⟩
      have HB2 : Hid (Below w0.heap.size w0 w2) := HB1.out.trans (hb2.mono HB1.out.size)
      have HO2 := Lib.hid (own_later HO1.out hb2)
      have hX2 := blk_below HNB.out hb2
      have x1 := blk_cell hX2 1
      simp only [List.getElem?_toArray, List.getElem?_cons_zero, List.getElem?_cons_succ] at x1
      clear hb2 HB1 HO1 HNB hX2 hc0 hc1
      obtain ⟨b, Hb⟩ : ∃ b : Bool, Hid (b = foldB x.f0 nm) := ⟨_, rfl⟩
      rw [← Hb.out]
      cases b with
      | false =>
        have HOn : Hid (w2.ownsRow w0.heap.size 9 1 u5 (allF (l.take (k + 1)) nm).length ((allF (l.take (k + 1)) nm).map .string)) := by
          rw [HSU.out, ← Hb.out, if_neg (by simp), List.append_nil]
          exact HO2.out
        go_wp2_with fail
        go_roundw
        case rel => exact ⟨k + 1, by omega, by go_num, HOn, HB2⟩
        case measure => simp [intOf]; omega
      | true =>
        obtain ⟨A1, c1, hv⟩ := own_form HO2.out
        have hn9 : N.length + 1 ≤ maxLen := by unfold maxLen; omega
        have hn10 : (N.length + 1) * 16 ≤ 140737488355328 := by omega
        have hsz0 := HB2.out.size
        have hsz2 : w0.heap.size ≤ (w2.alloc (.cells #[Value.string x.f1] 9)).heap.size := by rw [World.size_alloc]; omega
        have HSZ := Lib.hid hsz2
        clear hsz2
        subst hv
        go_wp2_with (at_builtin; refine wpList_append_lies _ rfl (.tmp 17) (.tmp 20) 41 rfl w0.heap.size 9 i0 _ 1 16 Tryd.underlying41 hi0 hz0 hz1 hz2 rfl (by omega) (.slice A1 N.length c1) N.length (N.map .string) rfl (HO2.out.alloc _) ⟨w2.heap.size, 0, none⟩ 1 1 [.string x.f1] rfl rfl (World.news_of_block (cs := #[.string x.f1]) (t := 9) (fr := (0, 0)) (blk_new w2 _)) (by simp [Value.oneCell']) (by omega) hn9 hn10 HSZ.out _ rfl ?_; intro gg cap w9 hown9 hgrow hat hlt9; have HO9 := Lib.hid hown9; have HB9 : Hid (Below w0.heap.size w0 w9) := (HB2.out.alloc hsz0 _).grown hgrow HSZ.out (fun g hg => own_ge HO2.out hg); clear hown9 hgrow)
        have HOn : Hid (w9.ownsRow w0.heap.size 9 1 (.slice (some ⟨gg, 0, none⟩) (N.length + 1) cap) (allF (l.take (k + 1)) nm).length ((allF (l.take (k + 1)) nm).map .string)) := by
          have h := HO9.out
          rw [HSU.out, ← Hb.out, if_pos rfl, List.map_append, List.length_append]
          exact h
        go_roundw
        case rel => exact ⟨k + 1, by omega, by go_num, HOn, HB9⟩
        case measure => simp [intOf]; omega
    · obtain rfl : k = l.length := by omega
      rw [List.take_length] at HO
      go_wp2_with fail
      go_ret
      exact ⟨⟨_, rfl, HO.out⟩, HB.out⟩
end Go.Proofs.YtaebjpfgjgnpoaaDoor
