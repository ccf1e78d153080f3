/- A region that draws its order: loads taken first under a condition on the world, up to a last operation that waits for all others. -/
import Derived.OrdersHeld
import Derived.Deep.RegionHeld3
import Derived.StillTail
set_option linter.unusedVariables false
set_option linter.unusedSimpArgs false
namespace Go.Proofs.YtbcmmmcbineipaaDoor
variable {P : Program} {ops : Array Oper} {Q : Exit → Act → World → Prop} {md : Region.Mode} {S : World → Prop}
def wpHl (P : Program) (md : Region.Mode) (ops : Array Oper) (Q : Exit → Act → World → Prop) (S : World → Prop) (n : Nat) (L : Array Bool → Act → World → Prop) : Nat → Array Bool → Act → World → Prop
  | 0, listed, a, w => L listed a w
  | f + 1, listed, a, w =>
    Region.ready md ops listed ≠ [] ∧ ∀ i ∈ Region.ready md ops listed, i < n ∧ wpOp P ops Q i (fun a' w' => S w' ∧ wpHl P md ops Q S n L f (listed.setIfInBounds i true) a' w') a w
theorem wpAny_of_hl {n g : Nat} {L : Array Bool → Act → World → Prop} (hL : ∀ listed a w, L listed a w → wpAny P md ops Q g listed a w) :
    ∀ (f : Nat) (listed : Array Bool) (a : Act) (w : World), wpHl P md ops Q S n L f listed a w → wpAny P md ops Q (f + g) listed a w
  | 0, listed, a, w, h => by rw [Nat.zero_add]; exact hL _ _ _ h
  | f + 1, listed, a, w, h => by
    rw [show f + 1 + g = (f + g) + 1 by omega]
    exact ⟨fun h0 => absurd h0 h.1, fun i hi => wpOp_mono (fun a' w' h' => wpAny_of_hl hL f _ a' w' h'.2) (h.2 i hi).2⟩
/-- Where a head is still to come up, whatever comes up keeps the head's word. -/
theorem wpHl_first {n i : Nat} {oi : Oper} {v : Value} {L : Array Bool → Act → World → Prop} (hi : ops[i]? = some oi) (hsel : ∀ (j : Nat) (o : Oper) cs b, ops[j]? = some o → o.op ≠ .select cs b)
    (hs : Region.sinkB md ops n = true) (hc : Region.chainB md ops n = true) (hn : n < ops.size) (hin : i < n)
    (hdone : ∀ listed a w, L listed a w → ∀ j ∈ Region.ready md ops listed, n ≤ j)
    (hQ : ∀ c a w, Q (.panic c) (a.put oi.dst v) w → Q (.panic c) a w) :
    ∀ (fuel : Nat) (listed : Array Bool) (a : Act) (w : World), HeadInv md ops n listed →
      (∀ j oj, ops[j]? = some oj → j ≠ i → listed.getD j true = false → (∀ e ∈ oj.after, Region.binds md e = true → e.on ≠ i) → oi.apart ops oj = true) →
      i ∈ Region.ready md ops listed → YieldsIf P ops S oi v a → S w →
      wpHl P md ops Q S n L fuel (listed.setIfInBounds i true) (a.put oi.dst v) w → wpHl P md ops Q S n L (fuel + 1) listed a w := by
  intro fuel
  induction fuel with
  | zero =>
    intro listed a w inv _ hr hy hS H
    have hun := (mem_ready.1 hr).1
    refine ⟨fun h => (by rw [h] at hr; cases hr), fun j hj => ?_⟩
    have hjn : j < n := by
      rcases Nat.lt_or_ge j n with h | h
      · exact h
      · exact absurd hj (tail_waits hs hc hn inv _ i rfl hin hun j h)
    refine ⟨hjn, ?_⟩
    by_cases hji : j = i
    · subst hji; exact hy.wpOp hi hS ⟨hS, H⟩
    · have := hdone _ _ _ H j (ready_mono hj hji)
      omega
  | succ fuel ih =>
    intro listed a w inv hfree hr hy hS H
    have hun := (mem_ready.1 hr).1
    refine ⟨fun h => (by rw [h] at hr; cases hr), fun j hj => ?_⟩
    have hjn : j < n := by
      rcases Nat.lt_or_ge j n with h | h
      · exact h
      · exact absurd hj (tail_waits hs hc hn inv _ i rfl hin hun j h)
    refine ⟨hjn, ?_⟩
    by_cases hji : j = i
    · subst hji; exact hy.wpOp hi hS ⟨hS, H⟩
    · have h1 := (H.2 j (ready_mono hj hji)).2
      obtain ⟨hjun, oj, hoj, hall⟩ := mem_ready.1 hj
      have hnot : ∀ e ∈ oj.after, Region.binds md e = true → e.on ≠ i := fun e he hb heq => by
        have h1 := hall e he hb
        rw [heq, getD_both hun] at h1
        cases h1
      have h2 := wpOp_putIf hoj (hfree j oj hoj hji hjun hnot) (fun cs b => hsel i oi cs b hi) (fun cs b => hsel j oj cs b hoj) hQ hy h1
      have hfree' : ∀ k ok, ops[k]? = some ok → k ≠ i → (listed.setIfInBounds j true).getD k true = false →
          (∀ e ∈ ok.after, Region.binds md e = true → e.on ≠ i) → oi.apart ops ok = true := fun k ok hk hki hun hno => by
        refine hfree k ok hk hki ?_ hno
        by_cases hjk : j = k
        · subst hjk; exact hjun
        · rw [getD_set_ne true hjk] at hun; exact hun
      refine wpOp_mono (fun a' w' h3 => ⟨h3.2.1, ih (listed.setIfInBounds j true) a' w' (inv.set hj hjn) hfree' (ready_mono hr (Ne.symm hji)) h3.1 h3.2.1 ?_⟩) h2
      rw [Array.setIfInBounds_comm _ _ hji]
      exact h3.2.2
/-- A head of operations and one last operation, which waits for all: the state of the walk. -/
structure HdSt (P : Program) (ops : Array Oper) (Q : Exit → Act → World → Prop) (S : World → Prop) (n f : Nat) (listed : Array Bool) (a : Act) (w : World) : Prop where
  go : HeadInv .any ops n listed → wpHl P .any ops Q S n (fun l' a' w' => Region.seqB .any ops 1 n l' = true ∧ wpList P ops Q (ops.toList.drop n) a' w') f listed a w
def hdB (ops : Array Oper) (n : Nat) : Bool := Region.noSelect ops && decide (n + 1 = ops.size) && Region.sinkB .any ops n && Region.chainB .any ops n
theorem hdB_spec {n : Nat} (h : hdB ops n = true) : Region.noSelect ops = true ∧ n + 1 = ops.size ∧ Region.sinkB .any ops n = true ∧ Region.chainB .any ops n = true := by
  simp only [hdB, Bool.and_eq_true, decide_eq_true_eq] at h
  exact ⟨h.1.1.1, h.1.1.2, h.1.2, h.2⟩
theorem HdSt.take {n f i : Nat} {oi : Oper} {v : Value} {listed : Array Bool} {a : Act} {w : World} (hB : hdB ops n = true) (hi : ops[i]? = some oi) (hin : i < n)
    (hf : Region.free .any ops listed i = true) (hr : (Region.ready .any ops listed).contains i = true)
    (hQ : ∀ c a w, Q (.panic c) (a.put oi.dst v) w → Q (.panic c) a w) (hy : YieldsIf P ops S oi v a) (hS : S w)
    (h : HdSt P ops Q S n f (listed.setIfInBounds i true) (a.put oi.dst v) w) : HdSt P ops Q S n (f + 1) listed a w := by
  obtain ⟨h1, h2, h3, h4⟩ := hdB_spec hB
  have hr' : i ∈ Region.ready .any ops listed := by simpa using hr
  exact ⟨fun inv => wpHl_first hi (Region.noSelect_spec h1) h3 h4 (by omega) hin (fun l' a' w' hL => seqB_ready hL.1) hQ f listed a w inv (Region.free_spec hi hf) hr' hy hS (h.go (inv.set hr' hin))⟩
/-- .. its temporary named. -/
theorem HdSt.takeAt {n f i : Nat} (d : Tmp) {oi : Oper} {v : Value} {listed : Array Bool} {a : Act} {w : World} (hB : hdB ops n = true) (hi : ops[i]? = some oi) (hd : oi.dst = some d) (hin : i < n)
    (hf : Region.free .any ops listed i = true) (hr : (Region.ready .any ops listed).contains i = true)
    (hQ : ∀ c a w, Q (.panic c) (a.put oi.dst v) w → Q (.panic c) a w) (hy : YieldsIf P ops S oi v a) (hS : S w)
    (h : HdSt P ops Q S n f (listed.setIfInBounds i true) (a.put (some d) v) w) : HdSt P ops Q S n (f + 1) listed a w :=
  HdSt.take hB hi hin hf hr hQ hy hS (by rw [hd]; exact h)
/-- One operation alone may come up. -/
theorem HdSt.one {n f i : Nat} {o : Oper} {listed : Array Bool} {a : Act} {w : World} (hr : Region.ready .any ops listed = [i]) (hin : i < n) (ho : ops[i]? = some o)
    (h : ∀ K' : Act → World → Prop, Shut (∀ a w, S w → (S w → HdSt P ops Q S n f (listed.setIfInBounds i true) a w) → K' a w) → if Region.wanted o (yielded ops a.tmps) = true then Oper.wp P o a w K' Q else K' (a.put o.dst undef) w) :
    HdSt P ops Q S n (f + 1) listed a w := by
  have hi : i ∈ Region.ready .any ops listed := by rw [hr]; simp
  refine ⟨fun inv => ⟨by rw [hr]; simp, fun j hj => ?_⟩⟩
  obtain rfl : j = i := by rw [hr] at hj; simpa using hj
  exact ⟨hin, wpOp_step ho (fun K' hK => h K' (fun a w hS hW => hK a w ⟨hS, (hW hS).go (inv.set hi hin)⟩))⟩
theorem HdSt.done {n : Nat} {listed : Array Bool} {a : Act} {w : World} (hq : Region.seqB .any ops 1 n listed = true) (h : wpList P ops Q (ops.toList.drop n) a w) : HdSt P ops Q S n 0 listed a w :=
  ⟨fun _ => ⟨hq, h⟩⟩
theorem hd_region {id n : Nat} {a : Act} {w : World} (hm : P.follows .mixedOrders = true) (hB : hdB ops n = true) (hS : S w.drew)
    (h : S w.drew → HdSt P ops Q S n n (Array.replicate ops.size false) a w.drew) : (Code.region id ops true).wp P Q a w := by
  obtain ⟨h1, h2, h3, h4⟩ := hdB_spec hB
  have inv0 : HeadInv .any ops n (Array.replicate ops.size false) :=
    ⟨by simp, fun j oj _ hl => (by rw [getD_replicate_false] at hl; cases hl), fun t _ ht => getD_in (by simpa using ht) (getD_replicate_false _ _)⟩
  refine wp_region_any hm ?_
  have hd1 : (ops.toList.drop n).length = 1 := by simp; omega
  have := wpAny_of_hl (Q := Q) (g := 1) (fun listed a' w' hL => by
    have := wpAny_of_seq (md := .any) (Q' := Q) (ops.toList.drop n) n listed a' w' (fun j => by simp [List.getElem?_drop]) (by rw [hd1]; exact hL.1) hL.2
    rwa [hd1] at this) _ _ _ _ ((h hS).go inv0)
  exact (congrArg (fun k => wpAny P .any ops Q k (Array.replicate ops.size false) a w.drew) h2).mp this
end Go.Proofs.YtbcmmmcbineipaaDoor
