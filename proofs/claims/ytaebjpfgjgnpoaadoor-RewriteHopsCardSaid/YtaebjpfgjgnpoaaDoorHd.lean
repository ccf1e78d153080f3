/- A loop over an iterator that writes a variable of its own between two rounds: the law. -/
import Derived.RangeFuncNested
set_option linter.unusedVariables false
namespace Go.Proofs.YtaebjpfgjgnpoaaDoor
open Go.RowKit

/-- An iterator that turns the one block Bs between two rounds (the variable that it has captured), and hands on what S tells. -/
def SeqBox {α : Type} (F : Fence) (n : Nat) (P : Program) (g : Nat) (lb : Array Value) (encs : α → Array Value) (Kp : World → World → Prop) (Fp : World → Prop) (ok : α → Prop) (S : List α → Prop) (N Bs : Nat) : Prop :=
  ∀ (l : Nat) (J : List α → World → Prop) (W : World), Fp W → (∀ s A B row, J s A → A.grownBy B row → (∀ r, row = some r → r = Bs) → J s B) →
    (∀ pre x W1, ok x → J pre W1 → pre.length < N → YieldAt F (n - 1) P l (encs x) W1 fun e W' => e = .returned (.bool true) ∧ J (pre ++ [x]) W' ∧ Kp W1 W') →
    J [] W → CallsIn F n P g (#[.func (.yield l) #[] #[]] ++ lb) W fun e W' => (∃ v, e = .returned v) ∧ ∃ xs, S xs ∧ J xs W'

theorem putObj_grown (W : World) (l : Nat) (o : Obj) : W.grownBy (W.putObj l o) (some l) := grownBy_putObj' W l o

/-- What a round of the caller's keeps: its own two blocks of book-keeping stand. -/
theorem wpIn_rangeFunc_box {α : Type} {F : Fence} {n : Nat} {P : Program} {g : Operand} {ps : Array Tmp} {assign body : Code} {Q : Exit → Act → World → Prop} {a : Act} {w : World}
    (hro : F.round = none) (h1 : 1 ≤ n) {gf : Nat} {lb : Array Value} (hg : a.eval g = .func (.func gf) #[] lb) (hFg : F.fn gf) (eg : ∀ args w, (callFunc gf args).run P w = .ok (.enter gf args) w)
    {encs : α → Array Value} {Kp : World → World → Prop} {Fp : World → Prop} {ok : α → Prop} {S : List α → Prop} {N Bs : Nat} (hBs : Bs < w.heap.size) (hseq : SeqBox F (n - 1) P gf lb encs Kp Fp ok S N Bs) (hFp : ∀ W, Below w.heap.size w W → Fp W)
    (hKt : ∀ {A B C : World}, Kp A B → Kp B C → Kp A C) (hKb : ∀ (W : World) (l : Nat) (o' : Obj), w.heap.size ≤ l → Kp W (W.putObj l o')) (hps : ∀ x, (encs x).size = ps.size)
    (I : List α → World → Prop) (hI : ∀ s A B row, I s A → A.grownBy B row → (∀ r, row = some r → r = Bs ∨ (w.heap.size ≤ r ∧ ∃ o : Obj, A.heap[r]? = some o ∧ o.isCells = false)) → I s B) (h0 : I [] w) (asg : α → Act)
    (hassign : ∀ (l : Nat) (x : α) (W : World) (K : Act → World → Prop), K (asg x) W → assign.wpIn (F.inRound l) (n - 1 - 1) P (Exit.then K (fun _ _ _ => False)) { tmps := (ps.zip (encs x)).foldl (fun t (p, v) => t.setIfInBounds p v) a.tmps, defers := [] } W)
    (hbody : ∀ (l : Nat) (pre : List α) (x : α) (W : World), w.heap.size ≤ l → ok x → I pre W → pre.length < N → body.wpIn (F.inRound l) (n - 1 - 1) P (fun e _ W3 => e = .normal ∧ KeepsOthers W W3 ∧ Kp W W3 ∧ I (pre ++ [x]) W3) (asg x) W)
    (hdone : ∀ (D : Nat) (xs : List α) (W : World), w.heap.size ≤ D → S xs → I xs W → W.heap[D]? = some (.deferred (some [])) → Q .normal { a with defers := { target := .collected D, args := #[] } :: a.defers } W) :
    (Code.rangeFunc g ps assign body).wpIn F n P Q a w := by
  refine wpIn_rangeFunc ?_
  intro fn hfn
  rw [hro]
  obtain ⟨D, hD⟩ : ∃ D, D = w.heap.size := ⟨_, rfl⟩
  obtain ⟨rec, hrec⟩ : ∃ rec : LoopState → Option Code → Loop, rec = fun st pe => { state := st, pending := pe, fn, tmps := a.tmps, params := ps, assign, body, defers := w.heap.size } := ⟨_, rfl⟩
  obtain ⟨V, hV⟩ : ∃ V, (w.alloc (.deferred (some []))).alloc (.loop (rec .ready none)) = V := ⟨_, rfl⟩
  have hLoop : V.heap[D + 1]? = some (.loop (rec .ready none)) := by
    have h := World.alloc_heap_new (w.alloc (.deferred (some []))) (.loop (rec .ready none))
    rw [World.size_alloc, hV, ← hD] at h
    exact h
  have hDef : V.heap[D]? = some (.deferred (some [])) := by
    rw [← hV, hD]
    exact (Below.heap_alloc _ _ _ (by simp)).trans (World.alloc_heap_new w _)
  have hbel : Below w.heap.size w V := by
    rw [← hV]
    exact ((Below.refl _ w).alloc (Nat.le_refl _) _).alloc (by simp) _
  have grow : ∀ (W : World) (o : Obj), W.grownBy (W.alloc o) none := fun W o => World.grownBy_alloc W o none
  have hIV : I [] V := by
    rw [← hV]
    exact hI _ _ _ _ (hI _ _ _ _ h0 (grow _ _) (fun r e => by cases e)) (grow _ _) (fun r e => by cases e)
  refine ⟨w.heap.size + 1, [{ target := .collected w.heap.size, args := #[] }], V, { target := .fn (.func gf) lb, args := #[.func (.yield (w.heap.size + 1)) #[] #[]] }, V, gf,
    #[.func (.yield (w.heap.size + 1)) #[] #[]] ++ lb, V, ?_, ?_, ?_, ?_, fun _ => h1, ?_⟩
  · rw [← hV, hrec]
    exact run_enterLoop_outer _ _ _ _ _
  · simp only [resolve, hg]
    simp [go_sem]
  · intro f' hf'
    simp [Target.leads] at hf'
    subst hf'
    exact hFg
  · simp [invoke, go_sem, eg]
  · rw [← hD]
    have book : ∀ (k : Nat) (o : Obj) (A B : World) (row : Option Nat), D ≤ k → A.heap[k]? = some o → A.grownBy B row → (∀ r, row = some r → r = Bs) → B.heap[k]? = some o := fun k o A B row hk hA hg' hr => by
      refine (hg'.block k (Array.getElem?_eq_some_iff.1 hA).1 (fun e => ?_)).trans hA
      have := hr k e.symm
      omega
    refine (hseq (D + 1) (fun pre W => I pre W ∧ W.heap[D + 1]? = some (.loop (rec .ready none)) ∧ W.heap[D]? = some (.deferred (some []))) V (hFp V hbel)
      (fun s A B row hs hg' hr => ⟨hI s A B row hs.1 hg' (fun r e => .inl (hr r e)), book _ _ A B row (by omega) hs.2.1 hg' hr, book _ _ A B row (Nat.le_refl _) hs.2.2 hg' hr⟩) ?_ ⟨hIV, hLoop, hDef⟩).mono ?_
    · rintro pre x W hok ⟨hi, hl, hk⟩ hlen
      have hlt : D + 1 < W.heap.size := (Array.getElem?_eq_some_iff.1 hl).1
      have hy := run_yield (P := P) (args := encs x) hl (by rw [hrec]; exact hps x)
      rw [hrec] at hy
      refine ⟨fn, _, assign, body, hy, roundIn_of_wpIn hfn (hassign _ x W _ ?_)⟩
      clear hy
      refine ⟨_, run_beginRound hl (by rw [hrec]), ?_⟩
      obtain ⟨W2, hW2⟩ : ∃ W2, W2 = W.putObj (D + 1) (.loop { rec .ready none with state := .busy }) := ⟨_, rfl⟩
      rw [← hW2]
      have hl2 : W2.heap[D + 1]? = some (.loop { rec .ready none with state := .busy }) := by rw [hW2]; exact World.putObj_heap_same hlt
      have hk2 : W2.heap[D]? = some (.deferred (some [])) := by rw [hW2]; exact (World.putObj_heap_other (by omega)).trans hk
      have hi2 : I pre W2 := by rw [hW2]; exact hI _ _ _ _ hi (putObj_grown _ _ _) (fun r e => by cases e; exact .inr ⟨by omega, _, hl, rfl⟩)
      have hkp2 : Kp W W2 := by rw [hW2]; exact hKb _ _ _ (by omega)
      refine wpIn_mono (hbody _ pre x W2 (by omega) hok hi2 hlen) ?_
      rintro e a3 W3 ⟨rfl, hko, hkp3, hi3⟩
      have hl3 : W3.heap[D + 1]? = some (.loop { rec .ready none with state := .busy }) := hko.same _ _ hl2 rfl
      have hk3 : W3.heap[D]? = some (.deferred (some [])) := hko.same _ _ hk2 rfl
      have hend := run_endRound (P := P) none hl3
      rw [hrec] at hend
      refine ⟨_, _, hend, rfl, ⟨?_, ?_, ?_⟩, hKt hkp2 (hKt hkp3 (hKb _ _ _ (by omega)))⟩
      · exact hI _ _ _ _ hi3 (putObj_grown _ _ _) (fun r e => by cases e; exact .inr ⟨by omega, _, hl3, rfl⟩)
      · rw [hrec]
        exact World.putObj_heap_same (Array.getElem?_eq_some_iff.1 hl3).1
      · exact (World.putObj_heap_other (by omega)).trans hk3
    · rintro e W2 ⟨⟨v, rfl⟩, xs, hS, hi, hl, hk⟩
      refine ⟨none, _, by have := run_endLoop (P := P) hl (by rw [hrec]; simp); rw [hrec] at this; exact this, ?_⟩
      rw [← hD] at hdone
      exact hdone D xs _ (Nat.le_refl _) hS (hI _ _ _ _ hi (putObj_grown _ _ _) (fun r e => by cases e; exact .inr ⟨by omega, _, hl, rfl⟩)) ((World.putObj_heap_other (by omega)).trans hk)
end Go.Proofs.YtaebjpfgjgnpoaaDoor
