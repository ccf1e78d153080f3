/- Fields: rows of two cells; DeleteFunc over them. -/
import Derived.Test.YtaebjpfgjgnpoaaDoorHk
set_option linter.unusedVariables false
set_option linter.unusedSimpArgs false
namespace Go.Proofs.YtaebjpfgjgnpoaaDoor
open Go.RowKit Go.Shelf Go.Proofs.YtaebjpfgjgnpoaaDoorW.PrintWords Go.Proofs.YtaebjpfgjgnpoaaDoorW.PrintLast Go.Proofs.YtaebjpfgjgnpoaaDoorW.PrintMore
open Go.Proofs.YtaebjpfgjgnpoaaDoor.PR
attribute [local go_sem] Oper.semAt_some

def encF (e : S40) : List Value := [.string e.f0, .string e.f1]
def flatF (l : List S40) : List Value := l.flatMap encF
theorem flatF_append (a b : List S40) : flatF (a ++ b) = flatF a ++ flatF b := List.flatMap_append
theorem flatF_length (l : List S40) : (flatF l).length = l.length * 2 := by
  induction l with
  | nil => rfl
  | cons p l ih =>
    show (encF p ++ flatF l).length = _
    rw [List.length_append, ih, List.length_cons]
    show 2 + _ = _
    omega
theorem flatF_get (l : List S40) (k : Nat) (hk : k < l.length) : (flatF l)[k * 2]? = some (.string l[k].f0) ∧ (flatF l)[k * 2 + 1]? = some (.string l[k].f1) := by
  induction l generalizing k with
  | nil => simp at hk
  | cons p l ih =>
    cases k with
    | zero => exact ⟨rfl, rfl⟩
    | succ k =>
      have h := ih k (by simpa using hk)
      have e1 : (k + 1) * 2 = k * 2 + 2 := by omega
      rw [e1]
      exact h
theorem flatF_set (l : List S40) (k : Nat) (x : S40) : ((flatF l).set (k * 2) (.string x.f0)).set (k * 2 + 1) (.string x.f1) = flatF (l.set k x) := by
  induction l generalizing k with
  | nil => rfl
  | cons p l ih =>
    cases k with
    | zero => rfl
    | succ k =>
      have h := ih k
      have e1 : (k + 1) * 2 = k * 2 + 1 + 1 := by omega
      rw [e1]
      show Value.string p.f0 :: Value.string p.f1 :: ((flatF l).set (k * 2) (Value.string x.f0)).set (k * 2 + 1) (Value.string x.f1) = Value.string p.f0 :: Value.string p.f1 :: flatF (l.set k x)
      rw [h]
theorem flatF_take (l : List S40) (k : Nat) : (flatF l).take (k * 2) = flatF (l.take k) := by
  induction l generalizing k with
  | nil => simp [flatF]
  | cons p l ih =>
    cases k with
    | zero => rfl
    | succ k =>
      have e1 : (k + 1) * 2 = k * 2 + 1 + 1 := by omega
      rw [e1, List.take_succ_cons]
      show Value.string p.f0 :: Value.string p.f1 :: (flatF l).take (k * 2) = encF p ++ flatF (l.take k)
      rw [ih]
      rfl
theorem flds_reads {w : World} {g : Nat} {l : List S40} (hl : l.length ≤ 9223372036854775807) (hc : ∀ (k : Nat) (hk : k < l.length), w.cell? ⟨g, k * 2, none⟩ = some (.string l[k].f0) ∧ w.cell? ⟨g, k * 2 + 1, none⟩ = some (.string l[k].f1)) :
    Kd.C k40 w (some ⟨g, 0, none⟩) l.length l := by
  refine ⟨rfl, hl, fun hn => ⟨_, rfl, fun j p hj => ?_⟩⟩
  obtain ⟨hj1, rfl⟩ := List.getElem?_eq_some_iff.1 hj
  obtain ⟨h0, h1⟩ := hc j hj1
  refine ⟨[.string l[j].f0, .string l[j].f1], rfl, ⟨[.string l[j].f0], [.string l[j].f1], rfl, rfl, rfl⟩, fun i u hu => ?_⟩
  rw [show k40.sz = 2 from rfl, add_at, Nat.zero_add]
  match i, hu with
  | 0, hu => rw [Nat.add_zero, h0]; exact hu
  | 1, hu => rw [h1]; exact hu
theorem fld_cells {w : World} {base t n m g cap : Nat} {l : List S40} (h : w.ownsRow base t 2 (.slice (some ⟨g, 0, none⟩) n cap) m (flatF l)) (hn : m = l.length) (k : Nat) (hk : k < l.length) : w.cell? ⟨g, k * 2, none⟩ = some (.string l[k].f0) ∧ w.cell? ⟨g, k * 2 + 1, none⟩ = some (.string l[k].f1) := by
  subst hn
  rcases h.2 with ⟨h1, _⟩ | ⟨g', cap', cur, hv, hbg, hg, hnc, hcm, hcs, htake⟩
  · cases h1
  · cases hv
    have hcell : ∀ j, j < l.length * 2 → w.cell? ⟨g, j, none⟩ = (flatF l)[j]? := fun j hj => by
      rw [cell_of_row w g j cur t (0, 0) hg, ← htake, List.getElem?_take, if_pos hj, Array.getElem?_toList]
    rw [hcell _ (by omega), hcell _ (by omega)]
    exact flatF_get l k hk
theorem own_flds {w : World} {base t n : Nat} {v : Value} {l : List S40} (h : w.ownsRow base t 2 v n (flatF l)) (hn : n = l.length) : ∃ A c, v = .slice A l.length c ∧ l.length ≤ c ∧ Kd.C k40 w A l.length l := by
  subst hn
  rcases h.2 with ⟨rfl, h0⟩ | ⟨g, cap, cur, rfl, hbg, hg, hnc, hcm, hcs, htake⟩
  · obtain rfl : l = [] := List.eq_nil_of_length_eq_zero h0
    exact ⟨none, 0, rfl, Nat.le_refl _, ⟨rfl, by show 0 ≤ _; omega, fun h => absurd h (by simp)⟩⟩
  · exact ⟨_, cap, rfl, hnc, flds_reads (by unfold maxLen at hcm; omega) (fun k hk => fld_cells h rfl k hk)⟩
set_option maxRecDepth 100000 in
set_option maxHeartbeats 800000 in
theorem delete_flds (v : Value) (base : Nat) (l : List S40) (g : Nat) (pb fb : Array Value) (p : S40 → Bool) (w0 : World) (ho : w0.ownsRow base 33 2 v l.length (flatF l)) (hbs : base ≤ w0.heap.size) (hl : l.length ≤ 1000001)
    (eg : ∀ args w, (callFunc g args).run Tryd.prog w = .ok (.enter g args) w)
    (hp : ∀ x ∈ l, ∀ W, Below base w0 W → Calls Tryd.prog g (pb ++ #[.agg #[.string x.f0, .string x.f1]] ++ fb) W fun e w' => e = .returned (.bool (p x)) ∧ Below W.heap.size W w') :
    Calls Tryd.prog 24 #[v, .func (.func g) pb fb] w0 fun e w' => (∃ v', e = .returned v' ∧ w'.ownsRow base 33 2 v' (outS p l).length (flatF (outS p l))) ∧ Below base w0 w' := by
  obtain ⟨A0, c0, rfl, hc0, hC0⟩ := own_flds ho rfl
  have hidx := idx_flds A0 c0 l g pb fb p w0 hC0 hl eg (fun x hx W hW => hp x hx W (hW.mono hbs))
  have HI := Lib.hid hidx
  have HP := Lib.hid hp
  have HO := Lib.hid ho
  clear hidx hp ho hC0
  go_enter Tryd.func24, Tryd.ntmps24
  go_wp2_with fail
  refine HI.out.mono ?_
  rintro e w1 ⟨⟨i, rfl, hi⟩, hb1⟩
  have HO1 := Lib.hid (own_later HO.out hb1)
  have HB1 := Lib.hid (hb1.mono hbs)
  clear HI hb1
  rcases hi with ⟨rfl, hn⟩ | ⟨k, hk, rfl, h1, h2⟩
  · have hon := outS_none hn
    clear hn
    go_wp2_with fail
    go_ret
    exact ⟨⟨_, rfl, by rw [hon]; exact HO1.out⟩, HB1.out⟩
  · have hst := KeptI.start hk h1 h2
    have HST := Lib.hid hst
    have hne1 : ((k : Int) == -1) = false := beq_eq_false_iff_ne.2 (by omega)
    clear hst h1 h2
    obtain ⟨gr, cap, hv, hge, hgl⟩ := HO1.out.form (by omega)
    injection hv with e1 e2 e3
    subst e1 e3
    clear e2 HO
    go_wp2_with fail
    go_loopw [5, 6, 7] (fun vi vj _ wr => ∃ (i j : Nat) (ys : List S40), vi = .int .i64 i ∧ vj = .int .i64 j ∧ Hid (KeptI p l i j ys) ∧ Hid (wr.ownsRow base 33 2 (.slice (some ⟨gr, 0, none⟩) l.length c0) l.length (flatF ys)) ∧ Hid (Below base w0 wr)) (fun _ vj _ _ => l.length - (intOf vj).toNat)
    case atStart => exact ⟨k, k + 1, l, rfl, by go_num, HST.out, HO1.out, HB1.out⟩
    case round =>
      obtain ⟨i, j, ys, rfl, rfl, HK, HOr, HBr⟩ := hrel
      have hK := HK.out
      have hij := hK.2.1
      have hjl := hK.2.2.1
      have hyl := hK.1
      by_cases hlt : j < l.length
      · have cj := fld_cells HOr.out hyl.symm j (by omega)
        rw [hK.at hlt (by omega)] at cj
        obtain ⟨cj0, cj1⟩ := cj
        have hcall := HP.out l[j] (List.getElem_mem hlt)
        have hkeep := fun h => hK.keep hlt h
        have hskip := fun h => hK.skip hlt h
        clear hK
        obtain ⟨x, Hx⟩ : ∃ x : S40, Hid (x = l[j]) := ⟨l[j], rfl⟩
        obtain ⟨old, Hold⟩ : ∃ x : S40, Hid (x = ys[i]) := ⟨ys[i], rfl⟩
        rw [← Hx.out] at cj0 cj1 hcall hkeep hskip
        have HC := Lib.hid hcall
        have HKE := Lib.hid hkeep
        have HSK := Lib.hid hskip
        clear hcall hkeep hskip
        have hszr := HBr.out.size
        have hnw := blk_new wr (.cells #[.string x.f0, .string x.f1] 33)
        have HNW := Lib.hid hnw
        have HBa : Hid (Below base w0 (wr.alloc (.cells #[.string x.f0, .string x.f1] 33))) := HBr.out.alloc (by omega) _
        have HOa := Lib.hid (HOr.out.alloc (.cells #[.string x.f0, .string x.f1] 33))
        clear hnw
        cases hq : p x with
        | true =>
          rw [hq] at HC HSK
          clear hq
          go_wp2_with fail
          generalize wr.alloc (.cells #[.string x.f0, .string x.f1] 33) = wa at HNW HBa HOa ⊢
          refine (HC.out _ HBa.out).mono ?_
          rintro e w' ⟨rfl, hb'⟩
          have hsza := HBa.out.size
          have HOn := Lib.hid (own_later HOa.out hb')
          have HBn : Hid (Below base w0 w') := HBa.out.trans (hb'.mono (by omega))
          clear hb' cj0 cj1
          go_wp2_with fail
          go_roundw
          case rel => exact ⟨i, j + 1, ys, rfl, by go_num, HSK.out (by simp), HOn, HBn⟩
          case measure => simp [intOf]; omega
        | false =>
          rw [hq] at HC HKE
          clear hq
          go_wp2_with fail
          generalize hwa : wr.alloc (.cells #[.string x.f0, .string x.f1] 33) = wa at HNW HBa HOa ⊢
          refine (HC.out _ HBa.out).mono ?_
          rintro e w' ⟨rfl, hb'⟩
          have hsza := HBa.out.size
          have hX := blk_below HNW.out hb'
          have x0 := blk_cell hX 0
          have x1 := blk_cell hX 1
          simp only [List.getElem?_toArray, List.getElem?_cons_zero, List.getElem?_cons_succ] at x0 x1
          have ko := own_later HOa.out hb'
          obtain ⟨ci0, ci1⟩ := fld_cells ko hyl.symm i (by omega)
          have fi0 := own_frozen ko (i * 2)
          have fi1 := own_frozen ko (i * 2 + 1)
          have HOn : Hid (((w'.setCell ⟨gr, i * 2, none⟩ (.string x.f0)).setCell ⟨gr, i * 2 + 1, none⟩ (.string x.f1)).ownsRow base 33 2 (.slice (some ⟨gr, 0, none⟩) l.length c0) l.length (flatF (ys.set i x))) := by
            have h := own_put (j := i * 2 + 1) (own_put (j := i * 2) ko (.string x.f0)) (.string x.f1)
            rw [flatF_set] at h
            exact h
          have HBn : Hid (Below base w0 ((w'.setCell ⟨gr, i * 2, none⟩ (.string x.f0)).setCell ⟨gr, i * 2 + 1, none⟩ (.string x.f1))) := ((HBa.out.trans (hb'.mono (by omega))).setCell (p := ⟨gr, i * 2, none⟩) hge _).setCell (p := ⟨gr, i * 2 + 1, none⟩) hge _
          clear hb' cj0 cj1 hX ko hwa
          go_wp2_with fail
          go_roundw
          case rel => exact ⟨i + 1, j + 1, ys.set i x, by go_num, by go_num, HKE.out (by simp), HOn, HBn⟩
          case measure => simp [intOf]; omega
      · obtain rfl : j = l.length := by omega
        have hdn := hK.done
        have hln := hK.len
        rw [List.take_length] at hln
        obtain ⟨wc, hcl, hoc, hbc⟩ := clear_own (m := i) HOr.out hij (by decide) Tryd.underlying27 Tryd.zeroValue33 rfl (by simp [Value.cells, Value.oneCell'])
        have HBc := Lib.hid (hbc base w0 hge HBr.out)
        have HOc : Hid (wc.ownsRow base 33 2 (.slice (some ⟨gr, 0, none⟩) i c0) i (flatF (outS p l))) := by
          rw [← hdn, ← flatF_take]
          exact hoc
        have hci := hcl
        have HLN := Lib.hid hln
        clear hoc hbc hdn hK hcl hln
        go_wp2_with fail
        go_ret
        exact ⟨⟨_, rfl, by rw [← HLN.out]; exact HOc.out⟩, HBc.out⟩
end Go.Proofs.YtaebjpfgjgnpoaaDoor
