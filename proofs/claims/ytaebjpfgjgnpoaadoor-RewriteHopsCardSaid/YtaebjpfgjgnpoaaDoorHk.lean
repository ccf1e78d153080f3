/- DeleteFunc over strings. -/
import Derived.Test.YtaebjpfgjgnpoaaDoorHj
set_option linter.unusedVariables false
set_option linter.unusedSimpArgs false
namespace Go.Proofs.YtaebjpfgjgnpoaaDoor
open Go.RowKit Go.Shelf Go.Proofs.YtaebjpfgjgnpoaaDoorW.PrintWords Go.Proofs.YtaebjpfgjgnpoaaDoorW.PrintLast Go.Proofs.YtaebjpfgjgnpoaaDoorW.PrintMore
open Go.Proofs.YtaebjpfgjgnpoaaDoor.PR
attribute [local go_sem] Oper.semAt_some

set_option maxRecDepth 100000 in
set_option maxHeartbeats 800000 in
theorem delete_strs (v : Value) (base : Nat) (l : List ByteArray) (g : Nat) (pb fb : Array Value) (p : ByteArray → Bool) (w0 : World) (ho : w0.ownsRow base 9 1 v l.length (l.map .string)) (hbs : base ≤ w0.heap.size) (hl : l.length ≤ 1000001)
    (eg : ∀ args w, (callFunc g args).run Tryd.prog w = .ok (.enter g args) w)
    (hp : ∀ x ∈ l, ∀ W, Below base w0 W → Calls Tryd.prog g (pb ++ #[.string x] ++ fb) W fun e w' => e = .returned (.bool (p x)) ∧ Below W.heap.size W w') :
    Calls Tryd.prog 12 #[v, .func (.func g) pb fb] w0 fun e w' => (∃ v', e = .returned v' ∧ w'.ownsRow base 9 1 v' (outS p l).length ((outS p l).map .string)) ∧ Below base w0 w' := by
  obtain ⟨A0, c0, rfl, hc0, hC0⟩ := own_strs ho rfl
  have hidx := idx_strs A0 c0 l g pb fb p w0 hC0 hl eg (fun x hx W hW => hp x hx W (hW.mono hbs))
  have HI := Lib.hid hidx
  have HP := Lib.hid hp
  have HO := Lib.hid ho
  clear hidx hp ho hC0
  go_enter Tryd.func12, Tryd.ntmps12
  go_wp2_with fail
  refine HI.out.mono ?_
  rintro e w1 ⟨⟨i, rfl, hi⟩, hb1⟩
  have HO1 := Lib.hid (own_later HO.out hb1)
  have HB1 := Lib.hid (hb1.mono hbs)
  clear HI hb1
  rcases hi with ⟨rfl, hn⟩ | ⟨k, hk, rfl, h1, h2⟩
  · have hon := outS_none hn
    clear hn
    go_wp2_with fail
    go_ret
    exact ⟨⟨_, rfl, by rw [hon]; exact HO1.out⟩, HB1.out⟩
  · have hst := KeptI.start hk h1 h2
    have HST := Lib.hid hst
    have hne1 : ((k : Int) == -1) = false := beq_eq_false_iff_ne.2 (by omega)
    clear hst h1 h2
    obtain ⟨gr, cap, hv, hge, hgl⟩ := HO1.out.form (by omega)
    injection hv with e1 e2 e3
    subst e1 e3
    clear e2 HO
    go_wp2_with fail
    go_loopw [5, 6, 7] (fun vi vj _ wr => ∃ (i j : Nat) (ys : List ByteArray), vi = .int .i64 i ∧ vj = .int .i64 j ∧ Hid (KeptI p l i j ys) ∧ Hid (wr.ownsRow base 9 1 (.slice (some ⟨gr, 0, none⟩) l.length c0) l.length (ys.map .string)) ∧ Hid (Below base w0 wr)) (fun _ vj _ _ => l.length - (intOf vj).toNat)
    case atStart => exact ⟨k, k + 1, l, rfl, by go_num, HST.out, HO1.out, HB1.out⟩
    case round =>
      obtain ⟨i, j, ys, rfl, rfl, HK, HOr, HBr⟩ := hrel
      have hK := HK.out
      have hij := hK.2.1
      have hjl := hK.2.2.1
      have hyl := hK.1
      by_cases hlt : j < l.length
      · have cj := own_cells HOr.out hyl.symm j (by omega)
        rw [hK.at hlt (by omega)] at cj
        have ci := own_cells HOr.out hyl.symm i (by omega)
        have fi := own_frozen HOr.out i
        have hcall := HP.out l[j] (List.getElem_mem hlt) wr HBr.out
        have hkeep := fun h => hK.keep hlt h
        have hskip := fun h => hK.skip hlt h
        clear hK
        obtain ⟨x, Hx⟩ : ∃ x : ByteArray, Hid (x = l[j]) := ⟨l[j], rfl⟩
        obtain ⟨old, Hold⟩ : ∃ x : ByteArray, Hid (x = ys[i]) := ⟨ys[i], rfl⟩
        rw [← Hx.out] at cj hcall hkeep hskip
        rw [← Hold.out] at ci
        have HC := Lib.hid hcall
        have HKE := Lib.hid hkeep
        have HSK := Lib.hid hskip
        clear hcall hkeep hskip
        cases hq : p x with
        | true =>
          rw [hq] at HC HSK
          clear hq
          go_wp2_with (go_at_fn g; refine HC.out.mono ?_; rintro e w' ⟨rfl, hb'⟩)
          go_roundw
          case rel => exact ⟨i, j + 1, ys, rfl, by go_num, HSK.out (by simp), own_later HOr.out hb', HBr.out.trans (hb'.mono (by have := HBr.out.size; omega))⟩
          case measure => simp [intOf]; omega
        | false =>
          rw [hq] at HC HKE
          clear hq
          go_wp2_with (go_at_fn g; refine HC.out.mono ?_; rintro e w' ⟨rfl, hb'⟩; have ko := own_later HOr.out hb'; have ci' := own_cells ko hyl.symm i (by omega); have fi' := own_frozen ko i; have KO := Lib.hid ko; clear ko)
          have HOn : Hid ((w'.setCell ⟨gr, i, none⟩ (.string x)).ownsRow base 9 1 (.slice (some ⟨gr, 0, none⟩) l.length c0) l.length ((ys.set i x).map .string)) := by
            have h := own_put (j := i) KO.out (.string x)
            rw [← List.map_set] at h
            exact h
          have HBn : Hid (Below base w0 (w'.setCell ⟨gr, i, none⟩ (.string x))) := (HBr.out.trans (hb'.mono (by have := HBr.out.size; omega))).setCell (p := ⟨gr, i, none⟩) hge _
          go_roundw
          case rel => exact ⟨i + 1, j + 1, ys.set i x, by go_num, by go_num, HKE.out (by simp), HOn, HBn⟩
          case measure => simp [intOf]; omega
      · obtain rfl : j = l.length := by omega
        have hdn := hK.done
        have hln := hK.len
        rw [List.take_length] at hln
        obtain ⟨wc, hcl, hoc, hbc⟩ := clear_own (m := i) HOr.out hij (by decide) Tryd.underlying41 Tryd.zeroValue9 rfl (by simp [Value.cells, Value.oneCell'])
        have HBc := Lib.hid (hbc base w0 hge HBr.out)
        have HOc : Hid (wc.ownsRow base 9 1 (.slice (some ⟨gr, 0, none⟩) i c0) i ((outS p l).map .string)) := by
          rw [← hdn, List.map_take]
          rw [Nat.mul_one] at hoc
          exact hoc
        rw [Nat.mul_one] at hcl
        have hci := hcl
        have HLN := Lib.hid hln
        clear hoc hbc hdn hK hcl hln
        go_wp2_with fail
        go_ret
        exact ⟨⟨_, rfl, by rw [← HLN.out]; exact HOc.out⟩, HBc.out⟩
end Go.Proofs.YtaebjpfgjgnpoaaDoor
