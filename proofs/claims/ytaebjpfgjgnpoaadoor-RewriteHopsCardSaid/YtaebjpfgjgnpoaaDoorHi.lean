/- The first element that a function value says yes to. -/
import Derived.Test.YtaebjpfgjgnpoaaDoorHh
set_option linter.unusedVariables false
set_option linter.unusedSimpArgs false
namespace Go.Proofs.YtaebjpfgjgnpoaaDoor
open Go.RowKit Go.Shelf Go.Proofs.YtaebjpfgjgnpoaaDoorW.PrintWords Go.Proofs.YtaebjpfgjgnpoaaDoorW.PrintLast Go.Proofs.YtaebjpfgjgnpoaaDoorW.PrintMore
open Go.Proofs.YtaebjpfgjgnpoaaDoor.PR
attribute [local go_sem] Oper.semAt_some

def IdxP {α : Type} (p : α → Bool) (l : List α) (i : Int) : Prop :=
  (i = -1 ∧ ∀ x ∈ l, p x = false) ∨ ∃ (k : Nat) (h : k < l.length), i = (k : Int) ∧ p l[k] = true ∧ ∀ x ∈ l.take k, p x = false
theorem IdxP.any {α : Type} {p : α → Bool} {l : List α} {i : Int} (h : IdxP p l i) : decide (0 ≤ i) = l.any p := by
  rcases h with ⟨rfl, h⟩ | ⟨k, hk, rfl, h1, h2⟩
  · rw [List.any_eq_false.2 (fun x hx => by rw [h x hx]; simp)]
    rfl
  · rw [List.any_eq_true.2 ⟨l[k], List.getElem_mem hk, h1⟩]
    simp
theorem mem_take_succ {α : Type} {p : α → Bool} {l : List α} {k : Nat} (hk : k < l.length) (h : ∀ x ∈ l.take k, p x = false) (h1 : p l[k] = false) : ∀ x ∈ l.take (k + 1), p x = false := by
  intro x hx
  rw [List.take_succ_eq_append_getElem hk] at hx
  rcases List.mem_append.1 hx with hx | hx
  · exact h x hx
  · rw [List.mem_singleton.1 hx]
    exact h1
set_option maxRecDepth 100000 in
set_option maxHeartbeats 400000 in
theorem idx_strs (A : Option Addr) (c : Nat) (l : List ByteArray) (g : Nat) (pb fb : Array Value) (p : ByteArray → Bool) (w0 : World) (hr : Kd.C Kd.string w0 A l.length l) (hl : l.length ≤ 1000001)
    (eg : ∀ args w, (callFunc g args).run Tryd.prog w = .ok (.enter g args) w)
    (hp : ∀ x ∈ l, ∀ W, Below w0.heap.size w0 W → Calls Tryd.prog g (pb ++ #[.string x] ++ fb) W fun e w' => e = .returned (.bool (p x)) ∧ Below W.heap.size W w') :
    Calls Tryd.prog 20 #[.slice A l.length c, .func (.func g) pb fb] w0 fun e w' => (∃ i : Int, e = .returned (.int .i64 i) ∧ IdxP p l i) ∧ Below w0.heap.size w0 w' := by
  have HR := Lib.hid hr
  have HP := Lib.hid hp
  clear hr hp
  go_enter Tryd.func20, Tryd.ntmps20
  go_wp2_with fail
  go_loopw [5, 8] (fun _ i wr => ∃ k : Nat, k ≤ l.length ∧ i = .int .i64 k ∧ Hid (Below w0.heap.size w0 wr) ∧ Hid (∀ x ∈ l.take k, p x = false)) (fun _ i _ => l.length - (intOf i).toNat)
  case atStart => exact ⟨0, Nat.zero_le _, rfl, Below.refl _ _, fun x hx => by simp at hx⟩
  case round =>
    obtain ⟨k, hk, rfl, HB, HT⟩ := hrel
    by_cases hlt : k < l.length
    · obtain ⟨ad, hAd, hc0⟩ := str_at (Kd.C_below HR.out HB.out) k hlt rfl
      subst hAd
      have hcall := HP.out l[k] (List.getElem_mem hlt) wr HB.out
      have hT1 := fun h => mem_take_succ hlt HT.out h
      obtain ⟨x, Hx⟩ : ∃ x : ByteArray, Hid (x = l[k]) := ⟨l[k], rfl⟩
      rw [← Hx.out] at hc0 hcall hT1
      obtain ⟨b, Hb⟩ : ∃ b : Bool, Hid (b = p x) := ⟨p x, rfl⟩
      rw [← Hb.out] at hcall hT1
      have hpt : b = true → IdxP p l (k : Int) := fun h => .inr ⟨k, hlt, rfl, by rw [← Hx.out, ← Hb.out]; exact h, HT.out⟩
      have HC := Lib.hid hcall
      have HT1 := Lib.hid hT1
      have HPT := Lib.hid hpt
      clear hcall hT1 hpt
      cases b with
      | true =>
        go_wp2_with (go_at_fn g; refine HC.out.mono ?_; rintro e w' ⟨rfl, hb'⟩)
        go_ret
        exact ⟨⟨_, rfl, HPT.out (by simp)⟩, HB.out.trans (hb'.mono HB.out.size)⟩
      | false =>
        go_wp2_with (go_at_fn g; refine HC.out.mono ?_; rintro e w' ⟨rfl, hb'⟩)
        go_roundw
        case rel => exact ⟨k + 1, by omega, by go_num, HB.out.trans (hb'.mono HB.out.size), HT1.out (by simp)⟩
        case measure => simp [intOf]; omega
    · obtain rfl : k = l.length := by omega
      rw [List.take_length] at HT
      go_wp2_with fail
      go_ret
      exact ⟨⟨_, rfl, .inl ⟨rfl, HT.out⟩⟩, HB.out⟩
set_option maxRecDepth 100000 in
set_option maxHeartbeats 400000 in
theorem idx_flds (A : Option Addr) (c : Nat) (l : List S40) (g : Nat) (pb fb : Array Value) (p : S40 → Bool) (w0 : World) (hr : Kd.C k40 w0 A l.length l) (hl : l.length ≤ 1000001)
    (eg : ∀ args w, (callFunc g args).run Tryd.prog w = .ok (.enter g args) w)
    (hp : ∀ x ∈ l, ∀ W, Below w0.heap.size w0 W → Calls Tryd.prog g (pb ++ #[.agg #[.string x.f0, .string x.f1]] ++ fb) W fun e w' => e = .returned (.bool (p x)) ∧ Below W.heap.size W w') :
    Calls Tryd.prog 38 #[.slice A l.length c, .func (.func g) pb fb] w0 fun e w' => (∃ i : Int, e = .returned (.int .i64 i) ∧ IdxP p l i) ∧ Below w0.heap.size w0 w' := by
  have HR := Lib.hid hr
  have HP := Lib.hid hp
  clear hr hp
  go_enter Tryd.func38, Tryd.ntmps38
  go_wp2_with fail
  go_loopw [5, 8] (fun _ i wr => ∃ k : Nat, k ≤ l.length ∧ i = .int .i64 k ∧ Hid (Below w0.heap.size w0 wr) ∧ Hid (∀ x ∈ l.take k, p x = false)) (fun _ i _ => l.length - (intOf i).toNat)
  case atStart => exact ⟨0, Nat.zero_le _, rfl, Below.refl _ _, fun x hx => by simp at hx⟩
  case round =>
    obtain ⟨k, hk, rfl, HB, HT⟩ := hrel
    by_cases hlt : k < l.length
    · obtain ⟨ad, hAd, hc0, hc1⟩ := fld_at (Kd.C_below HR.out HB.out) k hlt
      subst hAd
      have hcall := HP.out l[k] (List.getElem_mem hlt) wr HB.out
      have hT1 := fun h => mem_take_succ hlt HT.out h
      obtain ⟨x, Hx⟩ : ∃ x : S40, Hid (x = l[k]) := ⟨l[k], rfl⟩
      rw [← Hx.out] at hc0 hc1 hcall hT1
      obtain ⟨b, Hb⟩ : ∃ b : Bool, Hid (b = p x) := ⟨p x, rfl⟩
      rw [← Hb.out] at hcall hT1
      have hpt : b = true → IdxP p l (k : Int) := fun h => .inr ⟨k, hlt, rfl, by rw [← Hx.out, ← Hb.out]; exact h, HT.out⟩
      have HC := Lib.hid hcall
      have HT1 := Lib.hid hT1
      have HPT := Lib.hid hpt
      clear hcall hT1 hpt
      cases b with
      | true =>
        go_wp2_with (go_at_fn g; refine HC.out.mono ?_; rintro e w' ⟨rfl, hb'⟩)
        go_ret
        exact ⟨⟨_, rfl, HPT.out (by simp)⟩, HB.out.trans (hb'.mono HB.out.size)⟩
      | false =>
        go_wp2_with (go_at_fn g; refine HC.out.mono ?_; rintro e w' ⟨rfl, hb'⟩)
        go_roundw
        case rel => exact ⟨k + 1, by omega, by go_num, HB.out.trans (hb'.mono HB.out.size), HT1.out (by simp)⟩
        case measure => simp [intOf]; omega
    · obtain rfl : k = l.length := by omega
      rw [List.take_length] at HT
      go_wp2_with fail
      go_ret
      exact ⟨⟨_, rfl, .inl ⟨rfl, HT.out⟩⟩, HB.out⟩
/-- What a bound method says. -/
theorem contains_is (A : Option Addr) (c : Nat) (l : List ByteArray) (x : S40) (w0 : World) (hr : Kd.C Kd.string w0 A l.length l) (hl : l.length ≤ 1000001) (hx : x.f0.size ≤ 1000000) (hs : ∀ n ∈ l, n.size ≤ 1000000) :
    Calls Tryd.prog 27 #[.slice A l.length c, .func (.func 28) #[.agg #[.string x.f0, .string x.f1]] #[]] w0 fun e w' => e = .returned (.bool (l.any (fun n => foldB x.f0 n))) ∧ Below w0.heap.size w0 w' := by
  have hidx := idx_strs A c l 28 #[.agg #[.string x.f0, .string x.f1]] #[] (fun n => foldB x.f0 n) w0 hr hl (enters_of Tryd.func28 (by kernel_rfl) rfl) (fun n hn W _ => is_calls x n W hx (hs n hn))
  have HI := Lib.hid hidx
  clear hidx hr
  go_enter Tryd.func27, Tryd.ntmps27
  go_wp2_with fail
  refine HI.out.mono ?_
  rintro e w1 ⟨⟨i, rfl, hi⟩, hb1⟩
  have ha := hi.any
  have HA := Lib.hid ha
  clear hi ha
  go_wp2_with fail
  go_ret
  exact ⟨by rw [← HA.out]; rfl, hb1⟩
end Go.Proofs.YtaebjpfgjgnpoaaDoor
