/- The iterator over a ring. -/
import Derived.RangeFuncNested
import Derived.RangeFuncBound
import Derived.RangeFuncCalls
import Derived.RangeFuncLeaves
import Derived.RangeFuncBox
import Derived.Shelf.Abstract
import Derived.Shelf.RegionOpen
import Derived.WalkKit
import Derived.OwnWalkIn
import Derived.TacticsInMore
import Derived.LoopNIn
import Derived.LoopIn
import Derived.Test.YtbcmmmcbineipaaDoorStl
set_option linter.unusedVariables false
set_option linter.unusedSimpArgs false
namespace Go.Proofs.YtbcmmmcbineipaaDoor
open Go.RowKit Go.Shelf Go.Proofs.YtbcmmmcbineipaaDoorW.PrintWords Go.Proofs.YtbcmmmcbineipaaDoorW.PrintLast Go.Proofs.YtbcmmmcbineipaaDoorW.PrintMore
open Go.Proofs.YtbcmmmcbineipaaDoor.PR
attribute [local go_sem] Oper.semAt_some

/-- The points from a place on, round. -/
def rnd (l : List S67) (s : Nat) : List S67 := (List.range l.length).map fun i => l.getD ((s + i) % l.length) ⟨0, ByteArray.empty⟩
theorem rnd_length (l : List S67) (s : Nat) : (rnd l s).length = l.length := by simp [rnd]
theorem rnd_take (l : List S67) (s k : Nat) (hk : k < l.length) : (rnd l s).take (k + 1) = (rnd l s).take k ++ [l[(s + k) % l.length]'(Nat.mod_lt _ (by omega))] := by
  have h1 : k < (rnd l s).length := by rw [rnd_length]; exact hk
  rw [List.take_succ_eq_append_getElem h1]
  congr 1
  have h2 : (s + k) % l.length < l.length := Nat.mod_lt _ (by omega)
  simp [rnd, List.getD_eq_getElem?_getD, h2]

/-- What the iterator reads. -/
def Fa (Br Ba g s c : Nat) (A : Option Addr) (l : List S67) (W : World) : Prop :=
  W.cell? ⟨Br, 0, none⟩ = some (.pointer (some ⟨g, 0, none⟩)) ∧ W.cell? ⟨Ba, 0, none⟩ = some (.int .i64 s) ∧ W.cell? ⟨g, 0, none⟩ = some (.slice A l.length c) ∧ Kd.C k67 W A l.length l
theorem Fa.drew {Br Ba g s c : Nat} {A : Option Addr} {l : List S67} {W : World} (h : Fa Br Ba g s c A l W) : Fa Br Ba g s c A l W.drew :=
  ⟨h.1, h.2.1, h.2.2.1, Kd.C_below h.2.2.2 (Below.refl _ _).drew⟩

set_option maxRecDepth 100000 in
set_option maxHeartbeats 400000 in
theorem round1_in (n : Nat) (r Br Ba g s c : Nat) (A : Option Addr) (l : List S67) (hl : l.length ≤ 1000000) (hs : s ≤ l.length) (J Jx : List S67 → World → Prop) (Kp : World → World → Prop) (Fp : World → Prop)
    (hFa : ∀ W, Fp W → Fa Br Ba g s c A l W) (hFd : ∀ W, Fp W → Fp W.drew) (hKp : ∀ W W', Fp W → Kp W W' → Fp W')
    (hY : ∀ pre (x : S67) W, J pre W → pre.length < l.length → YieldAt Fence.wide (n - 1) Tryd.prog r #[.agg #[.int .u64 x.f0, .string x.f1]] W fun e W' =>
      (e = .returned (.bool true) ∧ J (pre ++ [x]) W' ∧ Kp W W') ∨ (e = .returned (.bool false) ∧ Jx (pre ++ [x]) W'))
    (W : World) (hF : Fp W) (h0 : J [] W) (hJd : ∀ pre W, J pre W → J pre W.drew) :
    CallsIn Fence.wide n Tryd.prog 43 #[.func (.yield r) #[] #[], .pointer (some ⟨Br, 0, none⟩), .pointer (some ⟨Ba, 0, none⟩)] W fun e W' => (∃ v, e = .returned v) ∧
      ((∃ ys, ys = rnd l s ∧ J ys W') ∨ (∃ pre, pre <+: rnd l s ∧ Jx pre W')) := by
  have HF0 := Lib.hid hF
  have HKP := Lib.hid hKp
  have hcr := (hFa _ hF).1
  have hca := (hFa _ hF).2.1
  have hcg := (hFa _ hF).2.2.1
  clear hF hKp
  have HY := Lib.hid hY
  clear hY
  refine callsIn_of_wp Tryd.func43 rfl trivial ?_ rfl
  simp only [Tryd.ntmps43, List.size_toArray, List.length_cons, List.length_nil, Nat.reduceAdd, Nat.reduceSub, Array.replicate_succ, Array.replicate_zero, List.push_toArray, List.append_toArray, List.nil_append, List.cons_append]
  gi_wp2
  gi_loopw [10] (fun i wr => ∃ k : Nat, k ≤ l.length ∧ i = .int .i64 k ∧ J ((rnd l s).take k) wr ∧ Hid (Fp wr))
    (fun i _ => l.length - (intOf i).toNat)
  case atStart => exact ⟨0, Nat.zero_le _, rfl, h0, HF0.out⟩
  case round =>
    obtain ⟨k, hk, rfl, hJs, HB⟩ := hrel
    clear hcr hca hcg
    have JS := Lib.hid hJs
    clear hJs
    by_cases hlt : k < l.length
    · have cr := (hFa _ HB.out).1
      have ca := (hFa _ HB.out).2.1
      have cg := (hFa _ HB.out).2.2.1
      obtain ⟨q, Hq⟩ : ∃ q : Nat, Hid (q = (s + k) % l.length) := ⟨_, rfl⟩
      have hq : q < l.length := by rw [Hq.out]; exact Nat.mod_lt _ (by omega)
      obtain ⟨ad, rfl, hc0, hc1⟩ := pt_at (hFa _ HB.out).2.2.2 q hq
      obtain ⟨x, Hx⟩ : ∃ x : S67, Hid (x = l[q]) := ⟨l[q], rfl⟩
      rw [← Hx.out] at hc0 hc1
      have hx2 : l[(s + k) % l.length]'(Nat.mod_lt _ (by omega)) = x := by
        have h := Hq.out
        subst h
        exact Hx.out.symm
      have HX := Lib.hid hx2
      clear hx2
      obtain ⟨fn, tmps, assign, body, hy, hR⟩ := HY.out _ x wr.drew (hJd _ _ JS.out) (by rw [List.length_take, rnd_length]; omega)
      have HR := Lib.hid hR
      clear hR
      have hne : ¬ l = [] := fun h => by rw [h] at hlt; exact absurd hlt (by simp)
      have hmod : ((s : Int) + k) % (l.length : Int) = (q : Int) := by
        rw [Hq.out]
        push_cast
        rfl
      have hmod2 : ((s : Int) + k).tmod (l.length : Int) = (q : Int) := by
        rw [Int.tmod_eq_emod_of_nonneg (by omega), hmod]
      have hwr : IntKind.i64.wrap ((s : Int) + k) = s + k := by unfold IntKind.wrap; simp [IntKind.bits, IntKind.signed]; omega
      gi_wp2
      refine wpIn_region_still_tail 16 (by kernel_rfl) (by kernel_rfl) ?_
      simp only [List.take_succ_cons, List.take_zero, List.drop_succ_cons, List.drop_zero]
      repeat still_step
      try refine wpStill_nil ?_
      change wpListIn _ _ _ _ _ _ _ (World.drew wr)
      gi_wp2
      refine ⟨fun h => (by cases h), HR.out.mono ?_⟩
      rintro e W3 (⟨rfl, hJ3, hk3⟩ | ⟨rfl, hJx3⟩)
      · have HJ3 := Lib.hid hJ3
        clear hJ3
        gi_wp2
        go_roundw
        case rel => exact ⟨k + 1, by omega, by go_num, by rw [rnd_take l s k hlt, HX.out]; exact HJ3.out, HKP.out _ _ (hFd _ HB.out) hk3⟩
        case measure => simp [intOf]; omega
      · have HJ3 := Lib.hid hJx3
        clear hJx3
        gi_wp2
        refine bodyPost_ret (results_none rfl _ _ _) rfl ?_
        refine ⟨⟨_, rfl⟩, .inr ⟨_, ?_, HJ3.out⟩⟩
        rw [← HX.out, ← rnd_take l s k hlt]
        exact List.take_prefix _ _
    · obtain rfl : k = l.length := by omega
      gi_wp2
      go_end0
      exact ⟨⟨_, rfl⟩, .inl ⟨_, rfl, by have := JS.out; rwa [List.take_of_length_le (by rw [rnd_length]; omega)] at this⟩⟩

/-- The iterator, as a loop reads it. -/
theorem rnd_stops (n : Nat) (Br Ba g s c : Nat) (A : Option Addr) (l : List S67) (hl : l.length ≤ 1000000) (hs : s ≤ l.length) (Kp : World → World → Prop) (Fp : World → Prop)
    (hFa : ∀ W, Fp W → Fa Br Ba g s c A l W) (hFd : ∀ W, Fp W → Fp W.drew) (hKp : ∀ W W', Fp W → Kp W W' → Fp W') (w : World) (hF : ∀ W, Below w.heap.size w W → Fp W) :
    SeqStopsK Fence.wide n Tryd.prog 43 #[.pointer (some ⟨Br, 0, none⟩), .pointer (some ⟨Ba, 0, none⟩)] (fun x : S67 => #[Value.agg #[.int .u64 x.f0, .string x.f1]]) Kp (fun ys => ys = rnd l s) (fun pre => pre <+: rnd l s) l.length w :=
  fun r J Jx W hW hJ _ hY h0 => round1_in n r Br Ba g s c A l hl hs J Jx Kp Fp hFa hFd hKp hY W (hF W hW) h0
    fun pre W' h => hJ pre W' W'.drew none h ⟨rfl, rfl, rfl, Nat.le_refl _, fun _ _ _ => rfl⟩ (fun r e => by cases e)

set_option maxHeartbeats 400000 in
theorem round_calls (g s : Nat) (w : World) : Calls Tryd.prog 29 #[.pointer (some ⟨g, 0, none⟩), .int .i64 s] w fun e w' =>
    e = .returned (.func (.func 43) #[] #[.pointer (some ⟨w.heap.size, 0, none⟩), .pointer (some ⟨w.heap.size + 1, 0, none⟩)]) ∧ w' = (w.alloc (.cells #[.pointer (some ⟨g, 0, none⟩)] 28)).alloc (.cells #[.int .i64 s] 3) := by
  go_enter Tryd.func29, Tryd.ntmps29
  go_wp2
  go_ret
  exact ⟨rfl, rfl⟩
end Go.Proofs.YtbcmmmcbineipaaDoor
