/- A region that draws its order, whose head is quiet and whose tail is forced: inside the wide fence. The iterator over a ring. Who answers. -/
import Derived.StillTail
import Derived.StillTailTactics
import Derived.OrdersIn
import Derived.TacticsIn
import Derived.Test.YtbcmmmcbineipaaDoorMb
import Derived.RangeFuncNested
import Derived.RangeFuncBound
import Derived.RangeFuncCalls
import Derived.RangeFuncLeaves
import Derived.RangeFuncBox
import Derived.Shelf.Abstract
import Derived.Shelf.RegionOpen
import Derived.WalkKit
import Derived.OwnWalkIn
import Derived.TacticsInMore
import Derived.LoopNIn
import Derived.LoopIn
set_option linter.unusedVariables false
set_option linter.unusedSimpArgs false
namespace Go.Proofs.YtbcmmmcbineipaaDoor
variable {P : Program} {ops : Array Oper} {md : Region.Mode} {w : World} {n : Nat}
theorem oper_wpIn_of_still {o : Oper} {a : Act} {K : Act → Prop} {K' : Act → World → Prop} {Q' : Exit → Act → World → Prop} (h : ∀ a, K a → K' a w) (hh : o.still P a w K) : o.wpIn Fence.wide n P a w K' Q' := by
  unfold Oper.still at hh
  unfold Oper.wpIn
  refine ⟨fun _ _ => trivial, ?_⟩
  rw [show Fence.wide.round = none from rfl, Oper.semAt_none]
  generalize (execOp a.eval o).run P w = r at *
  cases r with
  | ok n w' =>
    cases n <;> simp only [Oper.stillUpon] at hh <;> simp only [Oper.uponIn]
    case enter f args =>
      obtain ⟨rfl, v, hc, hn⟩ := hh
      refine ⟨fun h => (by cases h), callsIn_wide.2 (hc.mono fun e w'' ⟨he, hw⟩ => by subst he; subst hw; exact h _ hn)⟩
    all_goals (obtain ⟨rfl, h2⟩ := hh; exact h _ h2)
  | halt x w' => simp only [Oper.stillUpon] at hh
theorem wpOpIn_of_stOp {i : Nat} {a : Act} {K : Act → Prop} {K' : Act → World → Prop} {Q' : Exit → Act → World → Prop} (h : ∀ a, K a → K' a w) (hh : stOp P ops w i K a) : wpOpIn Fence.wide n P ops Q' i K' a w := by
  unfold stOp at hh
  unfold wpOpIn
  split
  · rename_i ho; simp only [ho] at hh; exact h _ hh
  · rename_i o ho
    simp only [ho] at hh
    split
    · rename_i hw; simp only [hw, if_true] at hh; exact oper_wpIn_of_still h hh
    · rename_i hw; simp only [hw] at hh; exact ⟨fun _ _ => trivial, h _ hh⟩
theorem wpAnyIn_of_head {m g : Nat} {L : Array Bool → Act → Prop} {Q' : Exit → Act → World → Prop} (hL : ∀ listed a, L listed a → wpAnyIn Fence.wide n P md ops Q' g listed a w) :
    ∀ (f : Nat) (listed : Array Bool) (a : Act), wpAnyL P md ops w m L f listed a → wpAnyIn Fence.wide n P md ops Q' (f + g) listed a w
  | 0, listed, a, h => by rw [Nat.zero_add]; exact hL _ _ h
  | f + 1, listed, a, h => by
    rw [show f + 1 + g = (f + g) + 1 by omega]
    exact ⟨fun h0 => absurd h0 h.1, fun i hi => wpOpIn_of_stOp (fun a' h' => wpAnyIn_of_head hL f _ a' h') (h.2 i hi).2⟩
theorem wpAnyIn_of_seq {Q' : Exit → Act → World → Prop} : ∀ (l : List Oper) (k : Nat) (listed : Array Bool) (a : Act) (w : World), (∀ j, l[j]? = ops[k + j]?) →
    Region.seqB md ops l.length k listed = true → wpListIn Fence.wide n P ops Q' l a w → wpAnyIn Fence.wide n P md ops Q' l.length listed a w
  | [], _, _, _, _, _, hB, h => ⟨by simpa [Region.seqB] using hB, h⟩
  | o :: l, k, listed, a, w, hl, hB, h => by
    have h0 : ops[k]? = some o := by simpa using (hl 0).symm
    simp only [List.length_cons, Region.seqB, Bool.and_eq_true, decide_eq_true_eq] at hB
    refine ⟨fun h1 => (by rw [hB.1] at h1; cases h1), fun i hi => ?_⟩
    rw [hB.1] at hi
    have hik : i = k := by simpa using hi
    subst hik
    have hw : wpOpIn Fence.wide n P ops Q' i (wpListIn Fence.wide n P ops Q' l) a w := by unfold wpOpIn; simp only [h0]; exact h
    exact wpOpIn_mono (fun a' w' h' => wpAnyIn_of_seq l (i + 1) _ a' w' (fun j => by have := hl (j + 1); simpa [Nat.add_assoc, Nat.add_comm 1 j] using this) hB.2 h') hw
theorem wpIn_region_still_tail {id : Nat} {Q : Exit → Act → World → Prop} {a : Act} {w : World} {l : List Oper} (m : Nat) (hm : P.follows .mixedOrders = true) (hB : Region.lexTailB .any l.toArray m = true)
    (h : wpStill P l.toArray { w with drawn := w.drawn + 1 } (fun a' => wpListIn Fence.wide n P l.toArray Q (l.drop m) a' { w with drawn := w.drawn + 1 }) (l.take m) a) : (Code.region id l.toArray true).wpIn Fence.wide n P Q a w := by
  simp only [Region.lexTailB, Bool.and_eq_true, decide_eq_true_eq] at hB
  obtain ⟨⟨⟨⟨hsel, hn⟩, hs⟩, hc⟩, hlex⟩ := hB
  have hn' : m < l.length := by simpa using hn
  have htl : (l.take m).length = m := by simp; omega
  have hdl : (l.drop m).length = l.toArray.size - m := by simp
  have inv0 : HeadInv .any l.toArray m (Array.replicate l.toArray.size false) :=
    ⟨by simp, fun j oj _ hl => (by rw [getD_replicate_false] at hl; cases hl), fun t _ ht => getD_in (by simpa using ht) (getD_replicate_false _ _)⟩
  have H := wpAnyL_lex (md := .any) (g := l.toArray.size - m) hsel hs hc hn (l.take m) 0 _ a (fun j hj => by
    have hj' : j < m := by rw [htl] at hj; exact hj
    simp [hj']) (by simpa using htl) inv0 (by rw [htl]; exact hlex) h
  refine wpIn_region_any hm ?_
  have := wpAnyIn_of_head (n := n) (Q' := Q) (g := l.toArray.size - m) (fun listed a' hL => by
    have := wpAnyIn_of_seq (n := n) (md := .any) (Q' := Q) (l.drop m) m listed a' { w with drawn := w.drawn + 1 } (fun j => by simp [List.getElem?_drop]) (by rw [hdl]; exact hL.1) hL.2
    rwa [hdl] at this) _ _ _ H
  rw [htl, show m + (l.toArray.size - m) = l.toArray.size by omega] at this
  exact this
end Go.Proofs.YtbcmmmcbineipaaDoor
set_option linter.unusedVariables false
set_option linter.unusedSimpArgs false
namespace Go.Proofs.YtbcmmmcbineipaaDoor
open Go.RowKit Go.Shelf Go.Proofs.YtbcmmmcbineipaaDoorW.PrintWords Go.Proofs.YtbcmmmcbineipaaDoorW.PrintLast Go.Proofs.YtbcmmmcbineipaaDoorW.PrintMore
open Go.Proofs.YtbcmmmcbineipaaDoor.PR
attribute [local go_sem] Oper.semAt_some

/-- The points from a place on, round. -/
def rnd (l : List S67) (s : Nat) : List S67 := (List.range l.length).map fun i => l.getD ((s + i) % l.length) ⟨0, ByteArray.empty⟩
theorem rnd_length (l : List S67) (s : Nat) : (rnd l s).length = l.length := by simp [rnd]
theorem rnd_take (l : List S67) (s k : Nat) (hk : k < l.length) : (rnd l s).take (k + 1) = (rnd l s).take k ++ [l[(s + k) % l.length]'(Nat.mod_lt _ (by omega))] := by
  have h1 : k < (rnd l s).length := by rw [rnd_length]; exact hk
  rw [List.take_succ_eq_append_getElem h1]
  congr 1
  have h2 : (s + k) % l.length < l.length := Nat.mod_lt _ (by omega)
  simp [rnd, List.getD_eq_getElem?_getD, h2]

/-- What the iterator reads. -/
def Fa (Br Ba g s c : Nat) (A : Option Addr) (l : List S67) (W : World) : Prop :=
  W.cell? ⟨Br, 0, none⟩ = some (.pointer (some ⟨g, 0, none⟩)) ∧ W.cell? ⟨Ba, 0, none⟩ = some (.int .i64 s) ∧ W.cell? ⟨g, 0, none⟩ = some (.slice A l.length c) ∧ Kd.C k67 W A l.length l
theorem Fa.drew {Br Ba g s c : Nat} {A : Option Addr} {l : List S67} {W : World} (h : Fa Br Ba g s c A l W) : Fa Br Ba g s c A l W.drew :=
  ⟨h.1, h.2.1, h.2.2.1, Kd.C_below h.2.2.2 (Below.refl _ _).drew⟩

set_option maxRecDepth 100000 in
set_option maxHeartbeats 400000 in
theorem round1_in (n : Nat) (r Br Ba g s c : Nat) (A : Option Addr) (l : List S67) (hl : l.length ≤ 1000000) (hs : s ≤ l.length) (J Jx : List S67 → World → Prop) (Kp : World → World → Prop) (Fp : World → Prop)
    (hFa : ∀ W, Fp W → Fa Br Ba g s c A l W) (hFd : ∀ W, Fp W → Fp W.drew) (hKp : ∀ W W', Fp W → Kp W W' → Fp W')
    (hY : ∀ pre (x : S67) W, x ∈ l → J pre W → pre.length < l.length → YieldAt Fence.wide (n - 1) Tryd.prog r #[.agg #[.int .u64 x.f0, .string x.f1]] W fun e W' =>
      (e = .returned (.bool true) ∧ J (pre ++ [x]) W' ∧ Kp W W') ∨ (e = .returned (.bool false) ∧ Jx (pre ++ [x]) W'))
    (W : World) (hF : Fp W) (h0 : J [] W) (hJd : ∀ pre W, J pre W → J pre W.drew) :
    CallsIn Fence.wide n Tryd.prog 43 #[.func (.yield r) #[] #[], .pointer (some ⟨Br, 0, none⟩), .pointer (some ⟨Ba, 0, none⟩)] W fun e W' => (∃ v, e = .returned v) ∧
      ((∃ ys, ys = rnd l s ∧ J ys W') ∨ (∃ pre, pre <+: rnd l s ∧ Jx pre W')) := by
  have HF0 := Lib.hid hF
  have HKP := Lib.hid hKp
  have hcr := (hFa _ hF).1
  have hca := (hFa _ hF).2.1
  have hcg := (hFa _ hF).2.2.1
  clear hF hKp
  have HY := Lib.hid hY
  clear hY
  refine callsIn_of_wp Tryd.func43 rfl trivial ?_ rfl
  simp only [Tryd.ntmps43, List.size_toArray, List.length_cons, List.length_nil, Nat.reduceAdd, Nat.reduceSub, Array.replicate_succ, Array.replicate_zero, List.push_toArray, List.append_toArray, List.nil_append, List.cons_append]
  gi_wp2
  gi_loopw [10] (fun i wr => ∃ k : Nat, k ≤ l.length ∧ i = .int .i64 k ∧ J ((rnd l s).take k) wr ∧ Hid (Fp wr))
    (fun i _ => l.length - (intOf i).toNat)
  case atStart => exact ⟨0, Nat.zero_le _, rfl, h0, HF0.out⟩
  case round =>
    obtain ⟨k, hk, rfl, hJs, HB⟩ := hrel
    clear hcr hca hcg
    have JS := Lib.hid hJs
    clear hJs
    by_cases hlt : k < l.length
    · have cr := (hFa _ HB.out).1
      have ca := (hFa _ HB.out).2.1
      have cg := (hFa _ HB.out).2.2.1
      obtain ⟨q, Hq⟩ : ∃ q : Nat, Hid (q = (s + k) % l.length) := ⟨_, rfl⟩
      have hq : q < l.length := by rw [Hq.out]; exact Nat.mod_lt _ (by omega)
      obtain ⟨ad, rfl, hc0, hc1⟩ := pt_at (hFa _ HB.out).2.2.2 q hq
      obtain ⟨x, Hx⟩ : ∃ x : S67, Hid (x = l[q]) := ⟨l[q], rfl⟩
      rw [← Hx.out] at hc0 hc1
      have hx2 : l[(s + k) % l.length]'(Nat.mod_lt _ (by omega)) = x := by
        have h := Hq.out
        subst h
        exact Hx.out.symm
      have HX := Lib.hid hx2
      clear hx2
      obtain ⟨fn, tmps, assign, body, hy, hR⟩ := HY.out _ x wr.drew (by rw [Hx.out]; exact List.getElem_mem hq) (hJd _ _ JS.out) (by rw [List.length_take, rnd_length]; omega)
      have HR := Lib.hid hR
      clear hR
      have hne : ¬ l = [] := fun h => by rw [h] at hlt; exact absurd hlt (by simp)
      have hmod : ((s : Int) + k) % (l.length : Int) = (q : Int) := by
        rw [Hq.out]
        push_cast
        rfl
      have hmod2 : ((s : Int) + k).tmod (l.length : Int) = (q : Int) := by
        rw [Int.tmod_eq_emod_of_nonneg (by omega), hmod]
      have hwr : IntKind.i64.wrap ((s : Int) + k) = s + k := by unfold IntKind.wrap; simp [IntKind.bits, IntKind.signed]; omega
      gi_wp2
      refine wpIn_region_still_tail 16 (by kernel_rfl) (by kernel_rfl) ?_
      simp only [List.take_succ_cons, List.take_zero, List.drop_succ_cons, List.drop_zero]
      repeat still_step
      try refine wpStill_nil ?_
      change wpListIn _ _ _ _ _ _ _ (World.drew wr)
      gi_wp2
      refine ⟨fun h => (by cases h), HR.out.mono ?_⟩
      rintro e W3 (⟨rfl, hJ3, hk3⟩ | ⟨rfl, hJx3⟩)
      · have HJ3 := Lib.hid hJ3
        clear hJ3
        gi_wp2
        go_roundw
        case rel => exact ⟨k + 1, by omega, by go_num, by rw [rnd_take l s k hlt, HX.out]; exact HJ3.out, HKP.out _ _ (hFd _ HB.out) hk3⟩
        case measure => simp [intOf]; omega
      · have HJ3 := Lib.hid hJx3
        clear hJx3
        gi_wp2
        refine bodyPost_ret (results_none rfl _ _ _) rfl ?_
        refine ⟨⟨_, rfl⟩, .inr ⟨_, ?_, HJ3.out⟩⟩
        rw [← HX.out, ← rnd_take l s k hlt]
        exact List.take_prefix _ _
    · obtain rfl : k = l.length := by omega
      gi_wp2
      go_end0
      exact ⟨⟨_, rfl⟩, .inl ⟨_, rfl, by have := JS.out; rwa [List.take_of_length_le (by rw [rnd_length]; omega)] at this⟩⟩

/-- The iterator, as a loop reads it. -/
theorem rnd_stops (n : Nat) (Br Ba g s c : Nat) (A : Option Addr) (l : List S67) (hl : l.length ≤ 1000000) (hs : s ≤ l.length) (Kp : World → World → Prop) (Fp : World → Prop)
    (hFa : ∀ W, Fp W → Fa Br Ba g s c A l W) (hFd : ∀ W, Fp W → Fp W.drew) (hKp : ∀ W W', Fp W → Kp W W' → Fp W') (w : World) (hF : ∀ W, Below w.heap.size w W → Fp W) :
    SeqStopsK Fence.wide n Tryd.prog 43 #[.pointer (some ⟨Br, 0, none⟩), .pointer (some ⟨Ba, 0, none⟩)] (fun x : S67 => #[Value.agg #[.int .u64 x.f0, .string x.f1]]) Kp (fun ys => ys = rnd l s) (fun pre => pre <+: rnd l s) l.length w :=
  fun r J Jx W hW hJ _ hY h0 => round1_in n r Br Ba g s c A l hl hs J Jx Kp Fp hFa hFd hKp (fun pre x W _ => hY pre x W) W (hF W hW) h0
    fun pre W' h => hJ pre W' W'.drew none h ⟨rfl, rfl, rfl, Nat.le_refl _, fun _ _ _ => rfl⟩ (fun r e => by cases e)

/-- .. where what comes is known to be one of the points. -/
theorem rnd_stops_sub (n : Nat) (Br Ba g s c : Nat) (A : Option Addr) (l : List S67) (hl : l.length ≤ 1000000) (hs : s ≤ l.length) (Kp : World → World → Prop) (Fp : World → Prop)
    (hFa : ∀ W, Fp W → Fa Br Ba g s c A l W) (hFd : ∀ W, Fp W → Fp W.drew) (hKp : ∀ W W', Fp W → Kp W W' → Fp W') (w : World) (hF : ∀ W, Below w.heap.size w W → Fp W) (ok : S67 → Prop) (hok : ∀ p ∈ l, ok p) :
    SeqStopsK Fence.wide n Tryd.prog 43 #[.pointer (some ⟨Br, 0, none⟩), .pointer (some ⟨Ba, 0, none⟩)] (fun x : { p : S67 // ok p } => #[Value.agg #[.int .u64 x.1.f0, .string x.1.f1]]) Kp (fun ys => ys.map (·.1) = rnd l s) (fun pre => pre.map (·.1) <+: rnd l s) l.length w :=
  fun r J Jx W hW hJ hJx hY h0 =>
    (round1_in n r Br Ba g s c A l hl hs (fun pre W => ∃ pre', pre'.map (·.1) = pre ∧ J pre' W) (fun pre W => ∃ pre', pre'.map (·.1) = pre ∧ Jx pre' W) Kp Fp hFa hFd hKp
      (fun pre x W hx hp hlen => by
        obtain ⟨pre', rfl, hj⟩ := hp
        refine (hY pre' ⟨x, hok x hx⟩ W hj (by simpa using hlen)).mono ?_
        rintro e W' (⟨rfl, h1, h2⟩ | ⟨rfl, h1⟩)
        · exact .inl ⟨rfl, ⟨pre' ++ [⟨x, hok x hx⟩], by simp, h1⟩, h2⟩
        · exact .inr ⟨rfl, ⟨pre' ++ [⟨x, hok x hx⟩], by simp, h1⟩⟩)
      W (hF W hW) ⟨[], rfl, h0⟩ (fun pre W' h => by
        obtain ⟨pre', e, h⟩ := h
        exact ⟨pre', e, hJ pre' W' W'.drew none h ⟨rfl, rfl, rfl, Nat.le_refl _, fun _ _ _ => rfl⟩ (fun r e => by cases e)⟩)).mono
    fun e W' h => by
      obtain ⟨hv, ⟨ys, rfl, ys', e', hj⟩ | ⟨pre, hp, pre', rfl, hj⟩⟩ := h
      · exact ⟨hv, .inl ⟨ys', e', hj⟩⟩
      · exact ⟨hv, .inr ⟨pre', hp, hj⟩⟩

set_option maxHeartbeats 400000 in
theorem round_calls (g s : Nat) (w : World) : Calls Tryd.prog 29 #[.pointer (some ⟨g, 0, none⟩), .int .i64 s] w fun e w' =>
    e = .returned (.func (.func 43) #[] #[.pointer (some ⟨w.heap.size, 0, none⟩), .pointer (some ⟨w.heap.size + 1, 0, none⟩)]) ∧ w' = (w.alloc (.cells #[.pointer (some ⟨g, 0, none⟩)] 28)).alloc (.cells #[.int .i64 s] 3) := by
  go_enter Tryd.func29, Tryd.ntmps29
  go_wp2
  go_ret
  exact ⟨rfl, rfl⟩
end Go.Proofs.YtbcmmmcbineipaaDoor
set_option linter.unusedVariables false
set_option linter.unusedSimpArgs false
namespace Go.Proofs.YtbcmmmcbineipaaDoor
open Go.RowKit Go.Shelf Go.Proofs.YtbcmmmcbineipaaDoorW.PrintWords Go.Proofs.YtbcmmmcbineipaaDoorW.PrintLast Go.Proofs.YtbcmmmcbineipaaDoorW.PrintMore
open Go.Proofs.YtbcmmmcbineipaaDoor.PR
attribute [local go_sem] Oper.semAt_some

/-- The first name from a number on. -/
def pick (l : List S67) (x : Int) : ByteArray := ((rnd l (frm l x)).head?.map (·.f1)).getD ⟨#[]⟩

set_option maxRecDepth 100000 in
set_option maxHeartbeats 800000 in
theorem pick_calls (g : Nat) (l : List S67) (x : Int) (w0 : World) (hr : RingAt w0 g l) (hso : ∀ (a b : Nat) (ha : a ≤ b) (hb : b < l.length), l[a].f0 ≤ l[b].f0) :
    Calls Tryd.prog 17 #[.pointer (some ⟨g, 0, none⟩), .int .u64 x] w0 fun e w' => e = .returned (.string (pick l x)) ∧ Below w0.heap.size w0 w' := by
  have HR := Lib.hid hr
  have HO := Lib.hid hso
  clear hr hso
  refine (callsIn_wide (n := 8)).1 ?_
  refine callsIn_of_wp_marks Tryd.func17 rfl trivial ?_ rfl
  simp only [Tryd.ntmps17, List.size_toArray, List.length_cons, List.length_nil, Nat.reduceAdd, Nat.reduceSub, Array.replicate_succ, Array.replicate_zero, List.push_toArray, List.append_toArray, List.nil_append, List.cons_append]
  have hB1 := below_alloc (Below.refl w0.heap.size w0) (Obj.cells #[Value.string { data := #[] }] 9)
  have hR1 := HR.out.below hB1
  have b1 := Boxed.new w0 9 (.string { data := #[] })
  gi_wp2_with fail
  generalize hw1 : w0.alloc (Obj.cells #[Value.string { data := #[] }] 9) = w1 at hB1 hR1 b1 ⊢
  clear hw1
  refine ⟨trivial, CallsIn.mono (callsIn_wide.2 (from_calls g l x w1 hR1 HO.out)) ?_⟩
  rintro e w2 ⟨rfl, hb2⟩
  have hB2 := hB1.trans (hb2.mono hB1.size)
  have hR2 := hR1.below hb2
  have b2 : Boxed w2 w0.heap.size 9 (.string { data := #[] }) := blk_below b1 hb2
  clear hb2 hR1 b1 hB1
  obtain ⟨s, Hs⟩ : ∃ s : Nat, Hid (s = frm l x) := ⟨_, rfl⟩
  have hsl : s ≤ l.length := by rw [Hs.out]; exact frm_le l x
  rw [← Hs.out]
  gi_wp2_with fail
  refine ⟨trivial, CallsIn.mono (callsIn_wide.2 (round_calls g s w2)) ?_⟩
  rintro e w3 ⟨rfl, hw3⟩
  have bBr : Boxed w3 w2.heap.size 28 (.pointer (some ⟨g, 0, none⟩)) := by rw [hw3]; exact (Boxed.new w2 28 _).alloc _
  have bBa : Boxed w3 (w2.heap.size + 1) 3 (.int .i64 s) := by rw [hw3]; exact blk_next w2 _ _
  have b3 : Boxed w3 w0.heap.size 9 (.string { data := #[] }) := by rw [hw3]; exact (b2.alloc _).alloc _
  have hB23 : Below w2.heap.size w2 w3 := by rw [hw3]; exact below_alloc (below_alloc (Below.refl _ _) _) _
  have hR3 := hR2.below hB23
  have hB3 := hB2.trans (hB23.mono hB2.size)
  clear hw3 hR2 hB2 b2
  obtain ⟨A, c, hg3, hC3, hc3, hl3⟩ := hR3
  have HBr := Lib.hid bBr
  have HBa := Lib.hid bBa
  have HB3 := Lib.hid b3
  have HG3 := Lib.hid hg3
  have HC3 := Lib.hid hC3
  have HW3 := Lib.hid hB3
  have hlt0 := b3.lt
  clear bBr bBa b3 hg3 hC3 hB3
  gi_wp2_with fail
  refine wpIn_rangeFunc_ownH (F := Fence.wide) rfl (by decide) (gf := 43) (lb := #[.pointer (some ⟨w2.heap.size, 0, none⟩), .pointer (some ⟨w2.heap.size + 1, 0, none⟩)]) rfl trivial (enters_of Tryd.func43 (by kernel_rfl) rfl)
    (rnd_stops 7 w2.heap.size (w2.heap.size + 1) g s c A l hl3 hsl (Below w3.heap.size) (fun W => Below w3.heap.size w3 W)
      (fun W h => ⟨(h.cell (p := ⟨w2.heap.size, 0, none⟩) HBr.out.lt).trans HBr.out.cell, (h.cell (p := ⟨w2.heap.size + 1, 0, none⟩) HBa.out.lt).trans HBa.out.cell, (h.cell (p := ⟨g, 0, none⟩) (blk_lt HG3.out)).trans (blk_cell HG3.out 0), Kd.C_below HC3.out h⟩)
      (fun W h => h.drew) (fun W W' h k => h.trans k) w3 (fun W h => h))
    belowK_t (belowK_b (Nat.le_refl _)) (Below.refl _ _) (fun _ => rfl)
    (fun pre W => (pre = [] ∧ Boxed W w0.heap.size 9 (.string { data := #[] })) ∧ Below w3.heap.size w3 W)
    (fun c pre W => (c = .ret ∧ ∃ p : S67, pre = [p] ∧ Boxed W w0.heap.size 9 (.string p.f1)) ∧ Below w0.heap.size w0 W)
    (OwnFrom.and (fun s A B row hs hg hr => ⟨hs.1, hs.2.kept hg (fun e => by have := (hr _ e.symm).1; omega)⟩) (ownFrom_below (Nat.le_refl _) (Nat.le_refl _)))
    (fun c => OwnFrom.and (fun s A B row hs hg hr => ⟨hs.1, by obtain ⟨p, h1, h2⟩ := hs.2; exact ⟨p, h1, h2.kept hg (fun e => by have := (hr _ e.symm).1; omega)⟩⟩) (ownFrom_below (Nat.le_refl _) (by omega)))
    ⟨⟨rfl, HB3.out⟩, Below.refl _ _⟩
    (fun p a' W => ∃ Bx, w3.heap.size ≤ Bx ∧ W.heap[Bx]? = some (.cells #[.int .u64 p.f0, .string p.f1] 67 (0, 0)) ∧ a' = { tmps := #[.pointer (some ⟨g, 0, none⟩), .int .u64 x, undef, undef, .pointer (some ⟨w0.heap.size, 0, none⟩), .pointer (some ⟨Bx, 0, none⟩), .pointer (some ⟨g, 0, none⟩), .pointer (some ⟨g, 0, none⟩), .int .u64 x, .int .i64 s, .func (.func 43) #[] #[.pointer (some ⟨w2.heap.size, 0, none⟩), .pointer (some ⟨w2.heap.size + 1, 0, none⟩)], .agg #[.int .u64 p.f0, .string p.f1], undef, undef], defers := [] })
    (fun p a' _ X Y row hs hg hr => by
      obtain ⟨Bx, h1, h2, h3⟩ := hs
      exact ⟨Bx, h1, (hg.block Bx (blk_lt h2) (fun e => by
        obtain ⟨o, ho, hoc⟩ := (hr _ e.symm).2
        rw [h2] at ho
        cases ho
        exact absurd hoc (by simp [Obj.isCells]))).trans h2, h3⟩)
    ?assign ?body ?done ?stop
  case assign =>
    rintro r pre p W K ⟨⟨hp, hb⟩, hB⟩ hK
    gi_wp2
    exact hK _ _ ((KeepsOthers.alloc _ _).from _) ((Below.refl _ W).alloc hB.size _) ⟨⟨hp, hb.alloc _⟩, hB.alloc hB.size _⟩ ⟨W.heap.size, hB.size, blk_new _ _, rfl⟩
  case body =>
    rintro r pre p a' W hl ⟨rr, hrr⟩ ⟨⟨rfl, hb⟩, hB⟩ ⟨Bx, hBx, hX, rfl⟩ hlt
    have cX := blk_cell hX 1
    have cR := hb.cell
    have fR := hb.frozen
    gi_wp2
    exact ⟨(KeepsOthers.setCell _ _ _).from _, ⟨rfl, p, rfl, hb.set _⟩, (HW3.out.trans (hB.mono HW3.out.size)).setCell (p := ⟨w0.heap.size, 0, none⟩) (Nat.le_refl _) _⟩
  case done =>
    rintro D ys W hD rfl ⟨⟨hp, hb⟩, hB⟩ hK
    have cR := hb.cell
    have fR := hb.frozen
    gi_wp2
    have hK' := (KeepsOthers.setCell W ⟨w0.heap.size, 0, none⟩ (.string { data := #[] })).same D _ hK rfl
    refine ⟨by simp, .inl ⟨_, _, rfl, run_takeDeferred hK', ?_⟩⟩
    have hc5 := cell_kept (World.cell?_setCell_same' W ⟨w0.heap.size, 0, none⟩ (.string { data := #[] }) (by rw [cR]; rfl)) (grownBy_putObj' _ D (.deferred none)) (fun r e => by cases e; exact ⟨_, hK', rfl⟩)
    have hpk : pick l x = { data := #[] } := by rw [pick, ← Hs.out, hp]; rfl
    refine ⟨.string { data := #[] }, ?_, by rw [hpk], ((HW3.out.trans (hB.mono HW3.out.size)).setCell (p := ⟨w0.heap.size, 0, none⟩) (Nat.le_refl _) _).trans (belowK_b (w := w3) (by omega) _ D _ _ (by omega) hK' rfl rfl)⟩
    simp [results, Tryd.f17, go_sem, hc5]
  case stop =>
    rintro D c pre W hD hpre ⟨⟨rfl, p, rfl, hb⟩, hB⟩ hK
    gi_wp2
    refine ⟨by simp, .inl ⟨_, _, rfl, run_takeDeferred hK, ?_⟩⟩
    have hc5 := cell_kept hb.cell (grownBy_putObj' _ D (.deferred none)) (fun r e => by cases e; exact ⟨_, hK, rfl⟩)
    have hpk : pick l x = p.f1 := by
      obtain ⟨t, ht⟩ := hpre
      rw [pick, ← Hs.out, ← ht]
      rfl
    refine ⟨.string p.f1, ?_, by rw [hpk], hB.trans (belowK_b (w := w3) (by omega) W D _ _ (by omega) hK rfl rfl)⟩
    simp [results, Tryd.f17, go_sem, hc5]
end Go.Proofs.YtbcmmmcbineipaaDoor
