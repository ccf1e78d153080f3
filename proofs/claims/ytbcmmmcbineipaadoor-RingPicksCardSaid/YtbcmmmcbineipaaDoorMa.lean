/- The siphash part: what the state's round and take do. The siphash part: what the state's take does. The siphash part: what the state's write does. The siphash part: what the state's write does. The siphash part: what the state's end does. The siphash part: the sum. May a ring be made? -/
import Derived.Test.YtbcmmmcbineipaaDoorProg
import Derived.WalkKit
import Derived.WalkLawsBesides
import Derived.WalkSpells
import Derived.StillTailTactics
import Derived.Below
import Derived.OwnWalk
import Derived.Outline
import Derived.KernelRfl
import Derived.LoopTactic
import Derived.Lib.Hide
import Derived.Test.YtbcmmmcbineipaaDoorPRx2
import Derived.Laws.CopyOwn
import Derived.Maps.OwnSet
import Derived.Carry
set_option linter.unusedVariables false
set_option linter.unusedSimpArgs false
namespace Go.Proofs.YtbcmmmcbineipaaDoor
open Go.RowKit

/-- A word turned left; p = 2^k, q = 2^(64-k). -/
def rot (x p q : Int) : Int := Go.bits .or .u64 (IntKind.u64.wrap (x * p)) (x / q)

def RotSaid (k p q : Int) : Prop := ∀ (x : Int) (w : World), Calls Tryd.prog 62 #[.int .u64 x, .int .i64 k] w fun e w' => e = .returned (.int .u64 (rot x p q)) ∧ w' = w
theorem rot13 : RotSaid 13 8192 2251799813685248 := by
  intro x w
  have h1 : Go.bits .and .u64 13 63 = 13 := by decide
  have h2 : IntKind.u64.wrap 13 = 13 := by decide
  go_enter Tryd.func62, Tryd.ntmps62
  go_wp2
  go_ret
  exact ⟨rfl, rfl⟩
theorem rot16 : RotSaid 16 65536 281474976710656 := by
  intro x w
  have h1 : Go.bits .and .u64 16 63 = 16 := by decide
  have h2 : IntKind.u64.wrap 16 = 16 := by decide
  go_enter Tryd.func62, Tryd.ntmps62
  go_wp2
  go_ret
  exact ⟨rfl, rfl⟩
theorem rot17 : RotSaid 17 131072 140737488355328 := by
  intro x w
  have h1 : Go.bits .and .u64 17 63 = 17 := by decide
  have h2 : IntKind.u64.wrap 17 = 17 := by decide
  go_enter Tryd.func62, Tryd.ntmps62
  go_wp2
  go_ret
  exact ⟨rfl, rfl⟩
theorem rot21 : RotSaid 21 2097152 8796093022208 := by
  intro x w
  have h1 : Go.bits .and .u64 21 63 = 21 := by decide
  have h2 : IntKind.u64.wrap 21 = 21 := by decide
  go_enter Tryd.func62, Tryd.ntmps62
  go_wp2
  go_ret
  exact ⟨rfl, rfl⟩
theorem rot32 : RotSaid 32 4294967296 4294967296 := by
  intro x w
  have h1 : Go.bits .and .u64 32 63 = 32 := by decide
  have h2 : IntKind.u64.wrap 32 = 32 := by decide
  go_enter Tryd.func62, Tryd.ntmps62
  go_wp2
  go_ret
  exact ⟨rfl, rfl⟩

/-- Four words. -/
structure Sip where
  a : Int
  b : Int
  c : Int
  d : Int
def sround (s : Sip) : Sip :=
  let a := IntKind.u64.wrap (s.a + s.b)
  let b := Go.bits .xor .u64 (rot s.b 8192 2251799813685248) a
  let a := rot a 4294967296 4294967296
  let c := IntKind.u64.wrap (s.c + s.d)
  let d := Go.bits .xor .u64 (rot s.d 65536 281474976710656) c
  let a := IntKind.u64.wrap (a + d)
  let d := Go.bits .xor .u64 (rot d 2097152 8796093022208) a
  let c := IntKind.u64.wrap (c + b)
  let b := Go.bits .xor .u64 (rot b 131072 140737488355328) c
  let c := rot c 4294967296 4294967296
  ⟨a, b, c, d⟩
/-- The state in memory: four words, what is left, how many there were. -/
def sipCells (s : Sip) (v : Value) (n : Int) : Array Value := #[.int .u64 s.a, .int .u64 s.b, .int .u64 s.c, .int .u64 s.d, v, .int .i64 n]

theorem fz_of {w : World} {g t i : Nat} {cs : Array Value} (h : Hid (w.heap[g]? = some (.cells cs t (0, 0)))) : w.frozen? ⟨g, i, none⟩ = false := by
  have h := h.out
  simp [World.frozen?, h]
theorem st_blk {w : World} {g t : Nat} {cs : Array Value} {u : Value} (h : Hid (w.heap[g]? = some (.cells cs t (0, 0)))) (i : Nat) : Hid ((w.setCell ⟨g, i, none⟩ u).heap[g]? = some (.cells (cs.setIfInBounds i u) t (0, 0))) := by
  have h := h.out
  show _ = _
  simp only [World.setCell, Array.getElem?_modify, if_true, h]
  rfl
theorem gb_drew {w w1 : World} {g : Option Nat} (h : Hid (w.grownBy w1 g)) : Hid (w.grownBy w1.drew g) := ⟨h.out.os, h.out.tape, h.out.output, h.out.size, h.out.block⟩
theorem gb_set {w w1 : World} {g : Nat} {u : Value} (h : Hid (w.grownBy w1 (some g))) (i : Nat) : Hid (w.grownBy (w1.setCell ⟨g, i, none⟩ u) (some g)) :=
  ⟨h.out.os, h.out.tape, h.out.output, by have := h.out.size; simp [World.setCell]; exact this, fun k hk hne => by
    rw [Below.heap_setCell _ _ _ _ (fun e => hne (by simpa using e))]; exact h.out.block k hk hne⟩
theorem gb_refl (w : World) (g : Option Nat) : Hid (w.grownBy w g) := ⟨rfl, rfl, rfl, Nat.le_refl _, fun _ _ _ => rfl⟩

set_option maxHeartbeats 4000000 in
set_option maxRecDepth 100000 in
theorem sround_calls (g : Nat) (a b c d : Int) (v : Value) (n : Int) (w0 : World) (hg : w0.heap[g]? = some (.cells #[.int .u64 a, .int .u64 b, .int .u64 c, .int .u64 d, v, .int .i64 n] 82 (0, 0))) :
    Calls Tryd.prog 47 #[.pointer (some ⟨g, 0, none⟩)] w0 fun e w' => e = .returned (.tuple #[]) ∧ w'.heap[g]? = some (.cells (sipCells (sround ⟨a, b, c, d⟩) v n) 82 (0, 0)) ∧ w0.grownBy w' (some g) := by
  have HG : Hid (w0.heap[g]? = some (.cells #[.int .u64 a, .int .u64 b, .int .u64 c, .int .u64 d, v, .int .i64 n] 82 (0, 0))) := hg
  clear hg
  have HK := gb_refl w0 (some g)
  obtain ⟨w, hw⟩ : ∃ w : World, w = w0 := ⟨_, rfl⟩
  rw [← hw] at HG
  replace HK : Hid (w0.grownBy w (some g)) := by rw [hw]; exact HK
  refine Eq.subst (motive := fun x => Calls Tryd.prog 47 #[.pointer (some ⟨g, 0, none⟩)] x _) hw ?_
  clear hw
  go_enter Tryd.func47, Tryd.ntmps47
  go_wp2
  -- statement 0
  have ca := cell_of_row w g 0 _ _ _ HG.out
  have cb := cell_of_row w g 1 _ _ _ HG.out
  have cc := cell_of_row w g 2 _ _ _ HG.out
  have cd := cell_of_row w g 3 _ _ _ HG.out
  simp only [List.getElem?_toArray, List.getElem?_cons_zero, List.getElem?_cons_succ] at ca cb cc cd
  have ffa : w.frozen? ⟨g, 0, none⟩ = false := fz_of HG.out
  go_still_tail 11, (by kernel_rfl)
  change wpList _ _ _ _ _ (World.drew w)
  replace HG : Hid ((World.drew w).heap[g]? = some (.cells #[.int .u64 a, .int .u64 b, .int .u64 c, .int .u64 d, v, .int .i64 n] 82 (0, 0))) := HG
  replace HK : Hid (w0.grownBy (World.drew w) (some g)) := gb_drew HK
  replace ffa : (World.drew w).frozen? ⟨g, 0, none⟩ = false := ffa
  have cqa : (World.drew w).cell? ⟨g, 0, none⟩ = some (.int .u64 a) := ca
  clear ca cb cc cd
  generalize World.drew w = wd0 at HG HK ffa cqa ⊢
  go_wp2
  clear ffa cqa
  obtain ⟨a0, Ha0⟩ : ∃ x_ : Int, Hid (x_ = IntKind.u64.wrap (a + b)) := ⟨_, rfl⟩
  rw [← Ha0.out]
  replace HG := st_blk (u := .int .u64 a0) HG 0
  simp only [List.setIfInBounds_toArray, List.set_cons_zero, List.set_cons_succ] at HG
  replace HK := gb_set (u := .int .u64 a0) HK 0
  generalize World.setCell wd0 ⟨g, 0, none⟩ (.int .u64 a0) = ws0 at HG HK ⊢
  -- statement 1
  have ca := cell_of_row ws0 g 0 _ _ _ HG.out
  have cb := cell_of_row ws0 g 1 _ _ _ HG.out
  have cc := cell_of_row ws0 g 2 _ _ _ HG.out
  have cd := cell_of_row ws0 g 3 _ _ _ HG.out
  simp only [List.getElem?_toArray, List.getElem?_cons_zero, List.getElem?_cons_succ] at ca cb cc cd
  have ffb : ws0.frozen? ⟨g, 1, none⟩ = false := fz_of HG.out
  have ffa : ws0.frozen? ⟨g, 0, none⟩ = false := fz_of HG.out
  go_still_tail 12, (by kernel_rfl)
  still_call (rot13 _ _)
  repeat still_step
  refine wpStill_nil ?_
  change wpList _ _ _ _ _ (World.drew ws0)
  replace HG : Hid ((World.drew ws0).heap[g]? = some (.cells #[.int .u64 a0, .int .u64 b, .int .u64 c, .int .u64 d, v, .int .i64 n] 82 (0, 0))) := HG
  replace HK : Hid (w0.grownBy (World.drew ws0) (some g)) := gb_drew HK
  replace ffb : (World.drew ws0).frozen? ⟨g, 1, none⟩ = false := ffb
  have cqb : (World.drew ws0).cell? ⟨g, 1, none⟩ = some (.int .u64 b) := cb
  replace ffa : (World.drew ws0).frozen? ⟨g, 0, none⟩ = false := ffa
  have cqa : (World.drew ws0).cell? ⟨g, 0, none⟩ = some (.int .u64 a0) := ca
  clear ca cb cc cd
  generalize World.drew ws0 = wd1 at HG HK ffb cqb ffa cqa ⊢
  go_wp2_with (go_at_call 62; refine (rot32 _ _).mono ?_; rintro e w1 ⟨rfl, rfl⟩)
  clear ffb cqb ffa cqa
  obtain ⟨b1, Hb1⟩ : ∃ x_ : Int, Hid (x_ = Go.bits .xor .u64 (rot b 8192 2251799813685248) a0) := ⟨_, rfl⟩
  rw [← Hb1.out]
  replace HG := st_blk (u := .int .u64 b1) HG 1
  simp only [List.setIfInBounds_toArray, List.set_cons_zero, List.set_cons_succ] at HG
  replace HK := gb_set (u := .int .u64 b1) HK 1
  obtain ⟨a1, Ha1⟩ : ∃ x_ : Int, Hid (x_ = rot a0 4294967296 4294967296) := ⟨_, rfl⟩
  rw [← Ha1.out]
  replace HG := st_blk (u := .int .u64 a1) HG 0
  simp only [List.setIfInBounds_toArray, List.set_cons_zero, List.set_cons_succ] at HG
  replace HK := gb_set (u := .int .u64 a1) HK 0
  generalize World.setCell (World.setCell wd1 ⟨g, 1, none⟩ (.int .u64 b1)) ⟨g, 0, none⟩ (.int .u64 a1) = ws1 at HG HK ⊢
  -- statement 2
  have ca := cell_of_row ws1 g 0 _ _ _ HG.out
  have cb := cell_of_row ws1 g 1 _ _ _ HG.out
  have cc := cell_of_row ws1 g 2 _ _ _ HG.out
  have cd := cell_of_row ws1 g 3 _ _ _ HG.out
  simp only [List.getElem?_toArray, List.getElem?_cons_zero, List.getElem?_cons_succ] at ca cb cc cd
  have ffc : ws1.frozen? ⟨g, 2, none⟩ = false := fz_of HG.out
  go_still_tail 11, (by kernel_rfl)
  change wpList _ _ _ _ _ (World.drew ws1)
  replace HG : Hid ((World.drew ws1).heap[g]? = some (.cells #[.int .u64 a1, .int .u64 b1, .int .u64 c, .int .u64 d, v, .int .i64 n] 82 (0, 0))) := HG
  replace HK : Hid (w0.grownBy (World.drew ws1) (some g)) := gb_drew HK
  replace ffc : (World.drew ws1).frozen? ⟨g, 2, none⟩ = false := ffc
  have cqc : (World.drew ws1).cell? ⟨g, 2, none⟩ = some (.int .u64 c) := cc
  clear ca cb cc cd
  generalize World.drew ws1 = wd2 at HG HK ffc cqc ⊢
  go_wp2
  clear ffc cqc
  obtain ⟨c2, Hc2⟩ : ∃ x_ : Int, Hid (x_ = IntKind.u64.wrap (c + d)) := ⟨_, rfl⟩
  rw [← Hc2.out]
  replace HG := st_blk (u := .int .u64 c2) HG 2
  simp only [List.setIfInBounds_toArray, List.set_cons_zero, List.set_cons_succ] at HG
  replace HK := gb_set (u := .int .u64 c2) HK 2
  generalize World.setCell wd2 ⟨g, 2, none⟩ (.int .u64 c2) = ws2 at HG HK ⊢
  -- statement 3
  have ca := cell_of_row ws2 g 0 _ _ _ HG.out
  have cb := cell_of_row ws2 g 1 _ _ _ HG.out
  have cc := cell_of_row ws2 g 2 _ _ _ HG.out
  have cd := cell_of_row ws2 g 3 _ _ _ HG.out
  simp only [List.getElem?_toArray, List.getElem?_cons_zero, List.getElem?_cons_succ] at ca cb cc cd
  have ffd : ws2.frozen? ⟨g, 3, none⟩ = false := fz_of HG.out
  go_still_tail 12, (by kernel_rfl)
  still_call (rot16 _ _)
  repeat still_step
  refine wpStill_nil ?_
  change wpList _ _ _ _ _ (World.drew ws2)
  replace HG : Hid ((World.drew ws2).heap[g]? = some (.cells #[.int .u64 a1, .int .u64 b1, .int .u64 c2, .int .u64 d, v, .int .i64 n] 82 (0, 0))) := HG
  replace HK : Hid (w0.grownBy (World.drew ws2) (some g)) := gb_drew HK
  replace ffd : (World.drew ws2).frozen? ⟨g, 3, none⟩ = false := ffd
  have cqd : (World.drew ws2).cell? ⟨g, 3, none⟩ = some (.int .u64 d) := cd
  clear ca cb cc cd
  generalize World.drew ws2 = wd3 at HG HK ffd cqd ⊢
  go_wp2
  clear ffd cqd
  obtain ⟨d3, Hd3⟩ : ∃ x_ : Int, Hid (x_ = Go.bits .xor .u64 (rot d 65536 281474976710656) c2) := ⟨_, rfl⟩
  rw [← Hd3.out]
  replace HG := st_blk (u := .int .u64 d3) HG 3
  simp only [List.setIfInBounds_toArray, List.set_cons_zero, List.set_cons_succ] at HG
  replace HK := gb_set (u := .int .u64 d3) HK 3
  generalize World.setCell wd3 ⟨g, 3, none⟩ (.int .u64 d3) = ws3 at HG HK ⊢
  -- statement 4
  have ca := cell_of_row ws3 g 0 _ _ _ HG.out
  have cb := cell_of_row ws3 g 1 _ _ _ HG.out
  have cc := cell_of_row ws3 g 2 _ _ _ HG.out
  have cd := cell_of_row ws3 g 3 _ _ _ HG.out
  simp only [List.getElem?_toArray, List.getElem?_cons_zero, List.getElem?_cons_succ] at ca cb cc cd
  have ffa : ws3.frozen? ⟨g, 0, none⟩ = false := fz_of HG.out
  go_still_tail 11, (by kernel_rfl)
  change wpList _ _ _ _ _ (World.drew ws3)
  replace HG : Hid ((World.drew ws3).heap[g]? = some (.cells #[.int .u64 a1, .int .u64 b1, .int .u64 c2, .int .u64 d3, v, .int .i64 n] 82 (0, 0))) := HG
  replace HK : Hid (w0.grownBy (World.drew ws3) (some g)) := gb_drew HK
  replace ffa : (World.drew ws3).frozen? ⟨g, 0, none⟩ = false := ffa
  have cqa : (World.drew ws3).cell? ⟨g, 0, none⟩ = some (.int .u64 a1) := ca
  clear ca cb cc cd
  generalize World.drew ws3 = wd4 at HG HK ffa cqa ⊢
  go_wp2
  clear ffa cqa
  obtain ⟨a4, Ha4⟩ : ∃ x_ : Int, Hid (x_ = IntKind.u64.wrap (a1 + d3)) := ⟨_, rfl⟩
  rw [← Ha4.out]
  replace HG := st_blk (u := .int .u64 a4) HG 0
  simp only [List.setIfInBounds_toArray, List.set_cons_zero, List.set_cons_succ] at HG
  replace HK := gb_set (u := .int .u64 a4) HK 0
  generalize World.setCell wd4 ⟨g, 0, none⟩ (.int .u64 a4) = ws4 at HG HK ⊢
  -- statement 5
  have ca := cell_of_row ws4 g 0 _ _ _ HG.out
  have cb := cell_of_row ws4 g 1 _ _ _ HG.out
  have cc := cell_of_row ws4 g 2 _ _ _ HG.out
  have cd := cell_of_row ws4 g 3 _ _ _ HG.out
  simp only [List.getElem?_toArray, List.getElem?_cons_zero, List.getElem?_cons_succ] at ca cb cc cd
  have ffd : ws4.frozen? ⟨g, 3, none⟩ = false := fz_of HG.out
  go_still_tail 12, (by kernel_rfl)
  still_call (rot21 _ _)
  repeat still_step
  refine wpStill_nil ?_
  change wpList _ _ _ _ _ (World.drew ws4)
  replace HG : Hid ((World.drew ws4).heap[g]? = some (.cells #[.int .u64 a4, .int .u64 b1, .int .u64 c2, .int .u64 d3, v, .int .i64 n] 82 (0, 0))) := HG
  replace HK : Hid (w0.grownBy (World.drew ws4) (some g)) := gb_drew HK
  replace ffd : (World.drew ws4).frozen? ⟨g, 3, none⟩ = false := ffd
  have cqd : (World.drew ws4).cell? ⟨g, 3, none⟩ = some (.int .u64 d3) := cd
  clear ca cb cc cd
  generalize World.drew ws4 = wd5 at HG HK ffd cqd ⊢
  go_wp2
  clear ffd cqd
  obtain ⟨d5, Hd5⟩ : ∃ x_ : Int, Hid (x_ = Go.bits .xor .u64 (rot d3 2097152 8796093022208) a4) := ⟨_, rfl⟩
  rw [← Hd5.out]
  replace HG := st_blk (u := .int .u64 d5) HG 3
  simp only [List.setIfInBounds_toArray, List.set_cons_zero, List.set_cons_succ] at HG
  replace HK := gb_set (u := .int .u64 d5) HK 3
  generalize World.setCell wd5 ⟨g, 3, none⟩ (.int .u64 d5) = ws5 at HG HK ⊢
  -- statement 6
  have ca := cell_of_row ws5 g 0 _ _ _ HG.out
  have cb := cell_of_row ws5 g 1 _ _ _ HG.out
  have cc := cell_of_row ws5 g 2 _ _ _ HG.out
  have cd := cell_of_row ws5 g 3 _ _ _ HG.out
  simp only [List.getElem?_toArray, List.getElem?_cons_zero, List.getElem?_cons_succ] at ca cb cc cd
  have ffc : ws5.frozen? ⟨g, 2, none⟩ = false := fz_of HG.out
  go_still_tail 11, (by kernel_rfl)
  change wpList _ _ _ _ _ (World.drew ws5)
  replace HG : Hid ((World.drew ws5).heap[g]? = some (.cells #[.int .u64 a4, .int .u64 b1, .int .u64 c2, .int .u64 d5, v, .int .i64 n] 82 (0, 0))) := HG
  replace HK : Hid (w0.grownBy (World.drew ws5) (some g)) := gb_drew HK
  replace ffc : (World.drew ws5).frozen? ⟨g, 2, none⟩ = false := ffc
  have cqc : (World.drew ws5).cell? ⟨g, 2, none⟩ = some (.int .u64 c2) := cc
  clear ca cb cc cd
  generalize World.drew ws5 = wd6 at HG HK ffc cqc ⊢
  go_wp2
  clear ffc cqc
  obtain ⟨c6, Hc6⟩ : ∃ x_ : Int, Hid (x_ = IntKind.u64.wrap (c2 + b1)) := ⟨_, rfl⟩
  rw [← Hc6.out]
  replace HG := st_blk (u := .int .u64 c6) HG 2
  simp only [List.setIfInBounds_toArray, List.set_cons_zero, List.set_cons_succ] at HG
  replace HK := gb_set (u := .int .u64 c6) HK 2
  generalize World.setCell wd6 ⟨g, 2, none⟩ (.int .u64 c6) = ws6 at HG HK ⊢
  -- statement 7
  have ca := cell_of_row ws6 g 0 _ _ _ HG.out
  have cb := cell_of_row ws6 g 1 _ _ _ HG.out
  have cc := cell_of_row ws6 g 2 _ _ _ HG.out
  have cd := cell_of_row ws6 g 3 _ _ _ HG.out
  simp only [List.getElem?_toArray, List.getElem?_cons_zero, List.getElem?_cons_succ] at ca cb cc cd
  have ffb : ws6.frozen? ⟨g, 1, none⟩ = false := fz_of HG.out
  have ffc : ws6.frozen? ⟨g, 2, none⟩ = false := fz_of HG.out
  go_still_tail 12, (by kernel_rfl)
  still_call (rot17 _ _)
  repeat still_step
  refine wpStill_nil ?_
  change wpList _ _ _ _ _ (World.drew ws6)
  replace HG : Hid ((World.drew ws6).heap[g]? = some (.cells #[.int .u64 a4, .int .u64 b1, .int .u64 c6, .int .u64 d5, v, .int .i64 n] 82 (0, 0))) := HG
  replace HK : Hid (w0.grownBy (World.drew ws6) (some g)) := gb_drew HK
  replace ffb : (World.drew ws6).frozen? ⟨g, 1, none⟩ = false := ffb
  have cqb : (World.drew ws6).cell? ⟨g, 1, none⟩ = some (.int .u64 b1) := cb
  replace ffc : (World.drew ws6).frozen? ⟨g, 2, none⟩ = false := ffc
  have cqc : (World.drew ws6).cell? ⟨g, 2, none⟩ = some (.int .u64 c6) := cc
  clear ca cb cc cd
  generalize World.drew ws6 = wd7 at HG HK ffb cqb ffc cqc ⊢
  go_wp2_with (go_at_call 62; refine (rot32 _ _).mono ?_; rintro e w1 ⟨rfl, rfl⟩)
  clear ffb cqb ffc cqc
  obtain ⟨b7, Hb7⟩ : ∃ x_ : Int, Hid (x_ = Go.bits .xor .u64 (rot b1 131072 140737488355328) c6) := ⟨_, rfl⟩
  replace HG := st_blk (u := .int .u64 b7) HG 1
  simp only [List.setIfInBounds_toArray, List.set_cons_zero, List.set_cons_succ] at HG
  replace HK := gb_set (u := .int .u64 b7) HK 1
  obtain ⟨c7, Hc7⟩ : ∃ x_ : Int, Hid (x_ = rot c6 4294967296 4294967296) := ⟨_, rfl⟩
  replace HG := st_blk (u := .int .u64 c7) HG 2
  simp only [List.setIfInBounds_toArray, List.set_cons_zero, List.set_cons_succ] at HG
  replace HK := gb_set (u := .int .u64 c7) HK 2
  refine bodyPost_end (results_none rfl _ _ _) rfl ⟨rfl, ?_, ?_⟩
  · rw [← Hb7.out, ← Hc7.out]
    have e : sipCells (sround ⟨a, b, c, d⟩) v n = #[.int .u64 a4, .int .u64 b7, .int .u64 c7, .int .u64 d5, v, .int .i64 n] := by
      rw [Hc7.out, Hb7.out, Hc6.out, Hd5.out, Ha4.out, Hd3.out, Hc2.out, Ha1.out, Hb1.out, Ha0.out]
      rfl
    rw [e]
    exact HG.out
  · rw [← Hb7.out, ← Hc7.out]
    exact HK.out

end Go.Proofs.YtbcmmmcbineipaaDoor
set_option linter.unusedVariables false
set_option linter.unusedSimpArgs false
namespace Go.Proofs.YtbcmmmcbineipaaDoor
open Go.RowKit

def srounds : Nat → Sip → Sip
  | 0, s => s
  | k + 1, s => sround (srounds k s)
def stake (s : Sip) (m : Int) : Sip :=
  let t := srounds 2 { s with d := Go.bits .xor .u64 s.d m }
  { t with a := Go.bits .xor .u64 t.a m }
theorem sround_calls' (g : Nat) (s : Sip) (v : Value) (n : Int) (w0 : World) (hg : w0.heap[g]? = some (.cells (sipCells s v n) 82 (0, 0))) :
    Calls Tryd.prog 47 #[.pointer (some ⟨g, 0, none⟩)] w0 fun e w' => e = .returned (.tuple #[]) ∧ w'.heap[g]? = some (.cells (sipCells (sround s) v n) 82 (0, 0)) ∧ w0.grownBy w' (some g) :=
  sround_calls g s.a s.b s.c s.d v n w0 hg
theorem sip_cell {w : World} {g : Nat} {s : Sip} {v : Value} {n : Int} (h : w.heap[g]? = some (.cells (sipCells s v n) 82 (0, 0))) :
    w.cell? ⟨g, 0, none⟩ = some (.int .u64 s.a) ∧ w.cell? ⟨g, 1, none⟩ = some (.int .u64 s.b) ∧ w.cell? ⟨g, 2, none⟩ = some (.int .u64 s.c) ∧ w.cell? ⟨g, 3, none⟩ = some (.int .u64 s.d) ∧ w.cell? ⟨g, 4, none⟩ = some v ∧ w.cell? ⟨g, 5, none⟩ = some (.int .i64 n) :=
  ⟨cell_of_row w g 0 _ _ _ h, cell_of_row w g 1 _ _ _ h, cell_of_row w g 2 _ _ _ h, cell_of_row w g 3 _ _ _ h, cell_of_row w g 4 _ _ _ h, cell_of_row w g 5 _ _ _ h⟩
theorem gb_trans {w w1 w2 : World} {g : Nat} (h : w.grownBy w1 (some g)) (k : w1.grownBy w2 (some g)) : w.grownBy w2 (some g) :=
  ⟨k.os.trans h.os, k.tape.trans h.tape, k.output.trans h.output, Nat.le_trans h.size k.size, fun i hi hne => (k.block i (Nat.lt_of_lt_of_le hi h.size) hne).trans (h.block i hi hne)⟩

set_option maxHeartbeats 4000000 in
set_option maxRecDepth 100000 in
theorem stake_calls (g : Nat) (s : Sip) (m : Int) (v : Value) (n : Int) (w0 : World) (hg : w0.heap[g]? = some (.cells (sipCells s v n) 82 (0, 0))) :
    Calls Tryd.prog 46 #[.pointer (some ⟨g, 0, none⟩), .int .u64 m] w0 fun e w' => e = .returned (.tuple #[]) ∧ w'.heap[g]? = some (.cells (sipCells (stake s m) v n) 82 (0, 0)) ∧ w0.grownBy w' (some g) := by
  have HG : Hid (w0.heap[g]? = some (.cells (sipCells s v n) 82 (0, 0))) := hg
  clear hg
  have c3 := (sip_cell HG.out).2.2.2.1
  have f3 : w0.frozen? ⟨g, 3, none⟩ = false := fz_of HG
  have HK := gb_refl w0 (some g)
  go_enter Tryd.func46, Tryd.ntmps46
  go_wp2
  replace HG := st_blk (u := .int .u64 (Go.bits .xor .u64 s.d m)) HG 3
  replace HG : Hid ((w0.setCell ⟨g, 3, none⟩ (.int .u64 (Go.bits .xor .u64 s.d m))).heap[g]? = some (.cells (sipCells { s with d := Go.bits .xor .u64 s.d m } v n) 82 (0, 0))) := HG
  replace HK := gb_set (u := .int .u64 (Go.bits .xor .u64 s.d m)) HK 3
  clear c3 f3
  generalize (w0.setCell ⟨g, 3, none⟩ (.int .u64 (Go.bits .xor .u64 s.d m))) = w1 at HG HK ⊢
  generalize hs1 : ({ s with d := Go.bits .xor .u64 s.d m } : Sip) = s1 at HG
  have Hs1 : Hid (({ s with d := Go.bits .xor .u64 s.d m } : Sip) = s1) := hs1
  clear hs1
  go_loopw [12] (fun x wr => ∃ k : Nat, k ≤ 2 ∧ x = .int .i64 k ∧ Hid (wr.heap[g]? = some (.cells (sipCells (srounds k s1) v n) 82 (0, 0))) ∧ Hid (w0.grownBy wr (some g))) (fun x _ => 2 - (intOf x).toNat)
  case atStart => exact ⟨0, by omega, rfl, HG, HK⟩
  case round =>
    obtain ⟨k, hk, rfl, HG, HK⟩ := hrel
    by_cases hlt : k < 2
    · go_wp2_with (go_at_call 47; refine (sround_calls' g _ v n _ HG.out).mono ?_; rintro e w2 ⟨rfl, hg2, hk2⟩; have HG2 := Lib.hid hg2; have HK2 := Lib.hid hk2; clear hg2 hk2)
      go_roundw
      case rel => exact ⟨k + 1, by omega, by go_num, HG2, gb_trans HK.out HK2.out⟩
      case measure => simp [intOf]; omega
    · obtain rfl : k = 2 := by omega
      have c0 := (sip_cell HG.out).1
      have f0 : wr.frozen? ⟨g, 0, none⟩ = false := fz_of HG
      go_wp2
      refine bodyPost_end (results_none rfl _ _ _) rfl ⟨rfl, ?_, ?_⟩
      · have e : stake s m = { srounds 2 s1 with a := Go.bits .xor .u64 (srounds 2 s1).a m } := by rw [← Hs1.out]; rfl
        rw [e]
        exact (st_blk HG 0).out
      · exact (gb_set HK 0).out
end Go.Proofs.YtbcmmmcbineipaaDoor
set_option linter.unusedVariables false
set_option linter.unusedSimpArgs false
namespace Go.Proofs.YtbcmmmcbineipaaDoor
open Go.RowKit Go.Proofs.YtbcmmmcbineipaaDoorW.PrintWords Go.Proofs.YtbcmmmcbineipaaDoorW.PrintLast Go.Proofs.YtbcmmmcbineipaaDoorW.PrintMore
open Go.Proofs.YtbcmmmcbineipaaDoor.PR

section
variable {P : Program}
/-- append(q, s...), q a row that may begin inside its block, s a string. -/
theorem q_append_str (w : World) (base : Nat) (t u ty e : TypeId) (i : TypeInfo) (ht : P.underlying t = some (.slice e)) (hu : P.underlying u = some .string) (hi : P.info? e = some i) (hz : i.zero = some (.int .u8 0))
    (hsize : i.size = 1) (hby : i.bytes = 1)
    (v : Value) (n : Nat) (xs : List Value) (hown : QRow w base e 1 v n xs) (s : ByteArray)
    (h63 : n + s.size ≤ maxLen) (hbytes : n + s.size ≤ 140737488355328) (hbase : base ≤ w.heap.size) :
    ∃ v' w', (Builtin.append_ #[t, u] ty #[v, .string s]).run P w = .ok v' w' ∧ QRow w' base e 1 v' (n + s.size) (xs ++ Lib.strCells s) ∧ w.grownBy w' v.ownBlock := by
  have hxl : xs.length = n := by simpa using hown.1
  have grows : ∀ (b : Addr) (cap : Nat), cap < n + s.size → (∀ j x, xs[j]? = some x → w.cell? (b.add j) = some x) → v = .slice (some b) n cap →
      ∃ v' w', (Builtin.append_ #[t, u] ty #[v, .string s]).run P w = .ok v' w' ∧ QRow w' base e 1 v' (n + s.size) (xs ++ Lib.strCells s) ∧ w.grownBy w' v.ownBlock := by
    intro b cap hcap hcells hv
    have hr := Lib.run_append_grow_string (P := P) w t u ty e i (.int .u8 0) ht hu hi hz b n cap xs (by rw [hsize]; simpa using hxl) hcells s hcap (by simp only [maxLen] at h63; omega) (by rw [hby]; exact growslice_fits (by simp only [maxLen] at h63; omega) (by omega))
    have hge := grownCap_ge w (n + s.size) cap e
    have hcm : grownCap w (n + s.size) cap e ≤ maxLen := grownCap_le_maxLen w (n + s.size) cap e h63
    refine ⟨_, _, by rw [hv]; exact hr, q_of_own ⟨by simp [hxl, Lib.strCells_length], .inr ⟨w.heap.size, _, _, rfl, hbase, heap_alloc_new w.drew _, hge, hcm, ?_, ?_⟩⟩, ⟨rfl, rfl, rfl, by simp, fun k hk _ => Below.heap_alloc w.drew _ k hk⟩⟩
    · have hz1 : (Value.int IntKind.u8 0).cells.size = 1 := rfl
      simp only [Array.size_append, List.size_toArray, size_zeroCells, hz1, hxl, Lib.strCells_length]
      omega
    · simp only [Array.toList_append, List.append_assoc]
      rw [← List.append_assoc]
      exact List.take_left' (by simp [hxl, Lib.strCells_length])
  rcases hown.2 with ⟨h0, A, hv, hA⟩ | ⟨g, off, cap, cur, hv, hbg, hg, hnc, hcm, hcs, htake⟩
  · have hx : xs = [] := List.eq_nil_of_length_eq_zero (by omega)
    cases A with
    | none =>
      subst h0
      obtain ⟨v', w', hr, ho', hg', _⟩ := Lib.run_append_own_string (P := P) w base t u ty e i ht hu hi hz hsize hby v 0 xs ⟨hown.1, .inl ⟨hv, rfl⟩⟩ s h63 hbytes hbase
      exact ⟨v', w', hr, q_of_own ho', hg'⟩
    | some b =>
      by_cases hs0 : s.size = 0
      · have hn : Lib.strCells s = [] := List.eq_nil_of_length_eq_zero (by rw [Lib.strCells_length]; exact hs0)
        refine ⟨v, w, ?_, by rw [hs0, hn, List.append_nil]; exact hown, ⟨rfl, rfl, rfl, Nat.le_refl _, fun _ _ _ => rfl⟩⟩
        have hf := Lib.run_firstCells_string (P := P) w 1 s
        rw [hs0, hn] at hf
        rw [hv]
        simp [Builtin.append_, run_underlying ht, run_underlying hu, sizeOf, typeInfo, hi, hsize, Builtin.lenOf, hs0, hf, storeCells]
      · exact grows b 0 (by omega) (fun j x hx' => by rw [hx] at hx'; simp at hx') (by rw [hv, h0])
  · rw [Nat.mul_one] at hv hcs htake
    rw [Nat.mul_one] at htake
    by_cases hroom : n + s.size ≤ cap
    · have hf := Lib.run_firstCells_string (P := P) w 1 s
      have hst := run_storeCells_cells (P := P) g (off + n) (Lib.strCells s) 0 w
        (fun j hj => by rw [cell_of_row w g _ cur e (0, 0) hg]; simp; rw [Lib.strCells_length] at hj; omega) (fun j _ => blk_frozen hg _) (Lib.strCells_oneCell s)
      simp only [Nat.add_zero] at hst
      have hr : (Builtin.append_ #[t, u] ty #[.slice (some ⟨g, off, none⟩) n cap, .string s]).run P w = .ok (.slice (some ⟨g, off, none⟩) (n + s.size) cap) (w.setCells g (off + n) (Lib.strCells s)) := by
        simp [Builtin.append_, run_underlying ht, run_underlying hu, sizeOf, typeInfo, hi, hsize, Builtin.lenOf, hroom, hf, Addr.add_lit, hst]
      obtain ⟨cur', h3, h4, h5⟩ := setCells_row (Lib.strCells s) (off + n) w cur hg (by rw [Lib.strCells_length]; omega)
      obtain ⟨s1, s2, s3, s4⟩ := setCells_same g (Lib.strCells s) (off + n) w
      refine ⟨_, _, by rw [hv]; exact hr, ⟨by simp [hxl, Lib.strCells_length], .inr ⟨g, off, cap, cur', by rw [Nat.mul_one], hbg, h3, hroom, hcm, by rw [h4, hcs, Nat.mul_one], ?_⟩⟩,
        ⟨s1, s2, s3, by rw [s4]; exact Nat.le_refl _, fun k _ hk => setCells_far _ _ k (fun he => hk (by rw [hv, he]; simp [Value.ownBlock]))⟩⟩
      rw [h5, Nat.mul_one, Nat.mul_one, List.append_assoc, List.drop_append_of_le_length (by rw [List.length_take, Array.length_toList]; omega), List.drop_take]
      rw [show off + n - off = n by omega, htake, ← List.append_assoc]
      exact List.take_left' (by simp [hxl, Lib.strCells_length])
    · refine grows ⟨g, off, none⟩ cap (by omega) (fun j x hx => ?_) hv
      rw [add_at, cell_of_row w g _ cur e (0, 0) hg]
      rw [← htake, List.getElem?_take] at hx
      split at hx
      · rw [List.getElem?_drop] at hx
        rw [← Array.getElem?_toList]
        exact hx
      · cases hx
theorem wpList_q_append_str {w : World} {ops : Array Oper} {rest : List Oper} {o : Oper} {a : Act} {Q : Exit → Act → World → Prop} (hgd : o.guard = none) (sl x : Operand) (t u : TypeId)
    (ho : o.op = .call { callee := .builtin .append, args := #[sl, x], argTypes := #[t, u] })
    (base : Nat) (e : TypeId) (ht : P.underlying t = some (.slice e)) (hu : P.underlying u = some .string) (hinfo : (P.info? e).map (fun i => (i.zero, i.size, i.bytes)) = some (some (.int .u8 0), 1, 1))
    (v : Value) (xs : List Int) (hs : a.eval sl = v) (hown : QRow w base e 1 v xs.length (nums .u8 xs)) (s : ByteArray) (hx : a.eval x = .string s)
    (hbytes : xs.length + s.size ≤ 140737488355328) (hbase : base ≤ w.heap.size)
    (h : ∀ v' w', QRow w' base e 1 v' (xs ++ bytesOf s).length (nums .u8 (xs ++ bytesOf s)) → w.grownBy w' v.ownBlock → wpList P ops Q rest (a.put o.dst v') w') : wpList P ops Q (o :: rest) a w := by
  obtain ⟨i, hi, hzz⟩ := Option.map_eq_some_iff.1 hinfo
  simp only [Prod.mk.injEq] at hzz
  obtain ⟨hz0, hz1, hz2⟩ := hzz
  refine wpList_plain hgd fun K hK => ?_
  obtain ⟨v', w', hr, h2, h3⟩ := q_append_str (P := P) w base t u o.type e i ht hu hi hz0 hz1 hz2 v xs.length (nums .u8 xs) hown s (by simp only [maxLen]; omega) hbytes hbase
  have hl2 : (xs ++ bytesOf s).length = xs.length + s.size := by rw [List.length_append, bytesOf_length]
  have hc : nums .u8 (xs ++ bytesOf s) = nums .u8 xs ++ Lib.strCells s := by
    rw [nums_append]
    congr 1
    simp [nums, bytesOf, Lib.strCells]
  unfold Oper.wp execOp
  simp only [ho, resolve, invoke, builtin, Sem.run_bind, Sem.run_pure, Result.andThen_ok, List.map_toArray, List.map_cons, List.map_nil, hs, hx, hr]
  exact hK _ _ (h v' w' (by rw [hl2, hc]; exact h2) h3)
end
end Go.Proofs.YtbcmmmcbineipaaDoor
set_option linter.unusedVariables false
set_option linter.unusedSimpArgs false
namespace Go.Proofs.YtbcmmmcbineipaaDoor
open Go.RowKit Go.Proofs.YtbcmmmcbineipaaDoorW.PrintWords Go.Proofs.YtbcmmmcbineipaaDoorW.PrintLast Go.Proofs.YtbcmmmcbineipaaDoorW.PrintMore
open Go.Proofs.YtbcmmmcbineipaaDoor.PR

/-- The word of the first eight bytes. -/
def sword (xs : List Int) : Int := (siphash_word.f 9 xs).getD 0
theorem sword_total (xs : List Int) (h : 8 ≤ xs.length) (d : Nat) : ∀ (x i : Int), 0 ≤ i → i + d = 8 → ∃ r, siphash_word.l0 (d + 1) xs x i = some r := by
  induction d with
  | zero =>
    intro x i h0 hd
    exact ⟨x, by simp only [siphash_word.l0]; rw [if_neg (by omega)]⟩
  | succ d ih =>
    intro x i h0 hd
    have e1 : wrap64 (i + 1) = i + 1 := by unfold wrap64; omega
    have e2 : 0 ≤ wrap64 (8 * i) := by unfold wrap64; omega
    obtain ⟨r, hr⟩ := ih (Go.bits .or .u64 x (shl .u64 (IntKind.u64.wrap (rd xs i)) (wrap64 (8 * i)))) (i + 1) (by omega) (by omega)
    refine ⟨r, ?_⟩
    rw [siphash_word.l0, if_pos (by omega), if_pos h0, if_pos (by omega), if_pos e2, e1]
    exact hr
theorem sword_some (xs : List Int) (h : 8 ≤ xs.length) : siphash_word.f 9 xs = some (sword xs) := by
  obtain ⟨r, hr⟩ := sword_total xs h 8 0 0 (by omega) (by omega)
  have : siphash_word.f 9 xs = some r := hr
  rw [sword, this]
  rfl
def absorb (s : Sip) (xs : List Int) : Sip × List Int :=
  if h : 8 ≤ xs.length then absorb (stake s (sword xs)) (xs.drop 8) else (s, xs)
termination_by xs.length
decreasing_by simp; omega
theorem absorb_step (s : Sip) (xs : List Int) (h : 8 ≤ xs.length) : absorb s xs = absorb (stake s (sword xs)) (xs.drop 8) := by
  rw [absorb, dif_pos h]
theorem absorb_end (s : Sip) (xs : List Int) (h : ¬ 8 ≤ xs.length) : absorb s xs = (s, xs) := by
  rw [absorb, dif_neg h]
theorem q_block_ne {w : World} {base g n : Nat} {v : Value} {xs : List Value} {cs : Array Value} (h : QRow w base 5 1 v n xs) (hg : w.heap[g]? = some (.cells cs 82 (0, 0))) : some g ≠ v.ownBlock := by
  intro e
  obtain ⟨_, cells, hc⟩ := q_typed h g e.symm
  rw [hg] at hc
  simp at hc
theorem q_reads {w : World} {base n : Nat} {v : Value} {xs : List Int} (h : QRow w base 5 1 v n (nums .u8 xs)) : ∃ A c, v = .slice A xs.length c ∧ xs.length = n ∧ n ≤ c ∧ n ≤ 9223372036854775807 ∧ Kd.C (Kd.int .u8) w A xs.length xs := by
  obtain ⟨A, c, rfl, hc⟩ := q_slice h
  have hl : xs.length = n := by have := h.1; simp [nums] at this; exact this
  refine ⟨A, c, by rw [hl], hl, hc, q_max h, ?_⟩
  refine Kd.C_of_reads (d := (0 : Int)) ?_
  rw [hl]
  refine ⟨hl, q_max h, fun hp => ?_⟩
  obtain ⟨ad, he, hcc⟩ := q_cells h hp
  refine ⟨ad, he, fun j hj => hcc j _ ?_⟩
  simp [nums, List.getElem?_eq_getElem (show j < xs.length by omega), List.getD_eq_getElem?_getD]

theorem q_drop8 {w : World} {base d : Nat} {A : Option Addr} {ys : List Int} (h : QRow w base 5 1 (.slice A ys.length d) ys.length (nums .u8 ys)) (h8 : 8 ≤ ys.length) :
    ∃ A', (∀ W : World, (Instr.slice 37 (.slice A ys.length d) (some (.int .i64 8)) none none).run Tryd.prog W = .ok (.slice A' (ys.drop 8).length (d - 8)) W) ∧
      QRow w base 5 1 (.slice A' (ys.drop 8).length (d - 8)) (ys.drop 8).length (nums .u8 (ys.drop 8)) := by
  have hinfo : (Tryd.prog.info? 5).map (fun i => (i.zero, i.size, i.bytes)) = some (some (.int .u8 0), 1, 1) := by kernel_rfl
  obtain ⟨i, hi, hzz⟩ := Option.map_eq_some_iff.1 hinfo
  simp only [Prod.mk.injEq] at hzz
  obtain ⟨hz0, hz1, hz2⟩ := hzz
  have h1 := cut_from (P := Tryd.prog) 37 5 .i64 Tryd.underlying37 hi 1 hz1 A ys.length d 8 (by omega) (by omega)
  have h2 := q_drop (k := 8) h h8
  have hl : (ys.drop 8).length = ys.length - 8 := List.length_drop
  have hn : (nums .u8 ys).drop (8 * 1) = nums .u8 (ys.drop 8) := by simp [nums, List.map_drop]
  rw [hn] at h2
  refine ⟨if d = 8 then A else A.map (·.add 8), fun W => ?_, ?_⟩
  · rw [hl]; exact h1 W
  · rw [hl]; exact h2

set_option maxHeartbeats 4000000 in
set_option maxRecDepth 100000 in
theorem swrite_calls (g : Nat) (s : Sip) (v : Value) (n : Int) (xs : List Int) (t : ByteArray) (w0 : World) (hg : w0.heap[g]? = some (.cells (sipCells s v n) 82 (0, 0)))
    (hq : QRow w0 g 5 1 v xs.length (nums .u8 xs)) (h0 : 0 ≤ n) (hn : n + t.size ≤ 4611686018427387904) (hb : xs.length + t.size ≤ 140737488355328) :
    Calls Tryd.prog 32 #[.pointer (some ⟨g, 0, none⟩), .string t] w0 fun e w' => e = .returned (.tuple #[]) ∧ (∃ v', w'.heap[g]? = some (.cells (sipCells (absorb s (xs ++ bytesOf t)).1 v' (n + t.size)) 82 (0, 0)) ∧ QRow w' g 5 1 v' (absorb s (xs ++ bytesOf t)).2.length (nums .u8 (absorb s (xs ++ bytesOf t)).2)) ∧ Below g w0 w' := by
  obtain ⟨A, c, rfl, hxl, hnc, hmx, hC⟩ := q_reads hq
  have HG : Hid (w0.heap[g]? = some (.cells (sipCells s (.slice A xs.length c) n) 82 (0, 0))) := hg
  have HQ := Lib.hid hq
  have hgl : g ≤ w0.heap.size := Nat.le_of_lt (Array.getElem?_eq_some_iff.1 hg).1
  have HNE := Lib.hid (q_block_ne hq hg)
  clear hg hq hxl hC
  have hinfo : (Tryd.prog.info? 5).map (fun i => (i.zero, i.size, i.bytes)) = some (some (.int .u8 0), 1, 1) := by kernel_rfl
  have HI := Lib.hid hinfo
  clear hinfo
  have c5 := (sip_cell HG.out).2.2.2.2.2
  have f5 : w0.frozen? ⟨g, 5, none⟩ = false := fz_of HG
  have c4 := (sip_cell HG.out).2.2.2.2.1
  have f4 : w0.frozen? ⟨g, 4, none⟩ = false := fz_of HG
  obtain ⟨ys0, Hys⟩ : ∃ ys : List Int, Hid (ys = xs ++ bytesOf t) := ⟨_, rfl⟩
  have HG5 := st_blk (u := .int .i64 (n + t.size)) HG 5
  have HQ5 : Hid (QRow (w0.setCell ⟨g, 5, none⟩ (.int .i64 (n + t.size))) g 5 1 (.slice A xs.length c) xs.length (nums .u8 xs)) := q_move HQ.out (fun k hk => Below.heap_setCell _ _ _ _ (fun e => HNE.out (by rw [hk, e])))
  have hgl5 : g ≤ (w0.setCell ⟨g, 5, none⟩ (.int .i64 (n + t.size))).heap.size := by simp only [World.setCell, Array.size_modify]; exact hgl
  have HB5 := Lib.hid ((Below.refl g w0).setCell (p := ⟨g, 5, none⟩) (Nat.le_refl g) (.int .i64 (n + t.size)))
  go_enter Tryd.func32, Tryd.ntmps32
  go_wp2_with (at_builtin; refine wpList_q_append_str rfl (.tmp 17) (.tmp 18) 37 9 rfl g 5 Tryd.underlying37 Tryd.underlying9 HI.out _ xs rfl HQ5.out t rfl hb hgl5 ?_; intro v1 w1 hq1 hg1; rw [← Hys.out] at hq1; obtain ⟨A1, d1, rfl, hxl1, hnc1, hmx1, hC1⟩ := q_reads hq1; clear hxl1 hC1; have HNE1 := Lib.hid (q_block_ne hq1 ((hg1.block g (Array.getElem?_eq_some_iff.1 HG5.out).1 HNE.out).trans HG5.out)); have HQ1 := Lib.hid hq1; have HG1 : Hid (w1.heap[g]? = some (.cells (sipCells s (.slice A xs.length c) (n + t.size)) 82 (0, 0))) := (hg1.block g (Array.getElem?_eq_some_iff.1 HG5.out).1 HNE.out).trans HG5.out; have HB1 := Lib.hid (HB5.out.grown hg1 hgl5 (fun k hk => (q_typed HQ5.out k hk).1)); clear hq1 hg1 c5 f5 c4 f4; have c4 := (sip_cell HG1.out).2.2.2.2.1; have f4 : w1.frozen? ⟨g, 4, none⟩ = false := fz_of HG1)
  clear c4 f4
  replace HG1 := st_blk (u := .slice A1 ys0.length d1) HG1 4
  replace HG1 : Hid ((w1.setCell ⟨g, 4, none⟩ (.slice A1 ys0.length d1)).heap[g]? = some (.cells (sipCells s (.slice A1 ys0.length d1) (n + t.size)) 82 (0, 0))) := HG1
  replace HQ1 : Hid (QRow (w1.setCell ⟨g, 4, none⟩ (.slice A1 ys0.length d1)) g 5 1 (.slice A1 ys0.length d1) ys0.length (nums .u8 ys0)) := q_move HQ1.out (fun k hk => Below.heap_setCell _ _ _ _ (fun e => HNE1.out (by rw [hk, e])))
  replace HB1 := Lib.hid (HB1.out.setCell (p := ⟨g, 4, none⟩) (Nat.le_refl g) (.slice A1 ys0.length d1))
  generalize w1.setCell ⟨g, 4, none⟩ (.slice A1 ys0.length d1) = w2 at HG1 HQ1 HB1 ⊢
  go_loopg [] (ys0.length) (fun kq wr => ∃ (s1 : Sip) (ys : List Int) (A2 : Option Addr) (d2 : Nat), Hid (ys.length = kq) ∧ Hid (wr.heap[g]? = some (.cells (sipCells s1 (.slice A2 ys.length d2) (n + t.size)) 82 (0, 0))) ∧ Hid (QRow wr g 5 1 (.slice A2 ys.length d2) ys.length (nums .u8 ys)) ∧ Hid (Below g w0 wr) ∧ Hid (absorb s ys0 = absorb s1 ys))
  case atStart => exact ⟨s, ys0, A1, d1, rfl, HG1, HQ1, HB1, rfl⟩
  case round =>
    obtain ⟨s1, ys, A2, d2, HL, HG2, HQ2, HB2, HA2⟩ := hrel
    have c4 := (sip_cell HG2.out).2.2.2.2.1
    have hmx2 := q_max HQ2.out
    by_cases h8 : 8 ≤ ys.length
    · obtain ⟨A3, d3, e3, hl3, hd3, hm3, hC3⟩ := q_reads HQ2.out
      obtain ⟨rfl, rfl⟩ : A2 = A3 ∧ d2 = d3 := by injection e3 with e1 e2 e3; exact ⟨e1, e3⟩
      have HC3 := Lib.hid hC3
      clear hC3 e3 hl3
      have hge : decide (8 ≤ ys.length) = true := decide_eq_true h8
      go_wp2_with (first | (go_at_call 31; refine (siphash_word.calls 9 A2 d2 ys (sword ys) _ HC3.out hd3 (sword_some ys h8)).mono ?_; rintro e w3 ⟨rfl, ⟨⟨nq, rfl⟩⟩⟩))
      refine (stake_calls g s1 (sword ys) _ _ _ (blk_drewN HG2.out nq)).mono ?_
      rintro e w4 ⟨rfl, hg4, hk4⟩
      have HN2 := Lib.hid (q_block_ne HQ2.out HG2.out)
      have HQ4 : Hid (QRow w4 g 5 1 (.slice A2 ys.length d2) ys.length (nums .u8 ys)) := q_move HQ2.out (fun k hk => (hk4.block k (q_lt HQ2.out k hk) (fun e => HN2.out (by rw [hk, ← e]))))
      have HG4 := Lib.hid hg4
      have HB4 : Hid (Below g w0 w4) := (HB2.out.trans ((Below.refl g wr).grown (row := some g) ⟨hk4.os, hk4.tape, hk4.output, hk4.size, hk4.block⟩ (Nat.le_of_lt (Array.getElem?_eq_some_iff.1 HG2.out).1) (fun k hk => by injection hk with hk; omega)))
      clear hg4 hk4 c4
      have c4 := (sip_cell HG4.out).2.2.2.2.1
      have f4 : w4.frozen? ⟨g, 4, none⟩ = false := fz_of HG4
      obtain ⟨A5, hcut, hq5⟩ := q_drop8 HQ4.out h8
      have HQ5' := Lib.hid hq5
      clear hq5
      obtain ⟨zs, Hzs⟩ : ∃ zs : List Int, Hid (zs = ys.drop 8) := ⟨_, rfl⟩
      rw [← Hzs.out] at hcut HQ5'
      go_wp2
      have HN5 := Lib.hid (q_block_ne HQ5'.out HG4.out)
      go_roundg zs.length
      case rel =>
        refine ⟨stake s1 (sword ys), zs, A5, d2 - 8, rfl, (st_blk HG4 4 : _), q_move HQ5'.out (fun k hk => Below.heap_setCell _ _ _ _ (fun e => HN5.out (by rw [hk, e]))), HB4.out.setCell (p := ⟨g, 4, none⟩) (Nat.le_refl g) _, ?_⟩
        rw [HA2.out, absorb_step _ _ h8, Hzs.out]
        exact rfl
      case measure => have := HL.out; have h := Hzs.out; rw [h]; simp; omega
    · have hge : decide (8 ≤ ys.length) = false := decide_eq_false h8
      go_wp2
      refine bodyPost_end (results_none rfl _ _ _) rfl ⟨rfl, ⟨.slice A2 ys.length d2, ?_, ?_⟩, HB2.out⟩
      · rw [← Hys.out, HA2.out, absorb_end _ _ h8]
        exact HG2.out
      · rw [← Hys.out, HA2.out, absorb_end _ _ h8]
        exact HQ2.out
end Go.Proofs.YtbcmmmcbineipaaDoor
set_option linter.unusedVariables false
set_option linter.unusedSimpArgs false
namespace Go.Proofs.YtbcmmmcbineipaaDoor
open Go.RowKit Go.Proofs.YtbcmmmcbineipaaDoorW.PrintWords Go.Proofs.YtbcmmmcbineipaaDoorW.PrintLast Go.Proofs.YtbcmmmcbineipaaDoorW.PrintMore
open Go.Proofs.YtbcmmmcbineipaaDoor.PR

def slast (xs : List Int) (n : Int) : List Int := (xs ++ List.replicate (8 - xs.length) 0).set 7 (n % 256)
def sfinal (s : Sip) (m : Int) : Int :=
  let t := stake s m
  let t := srounds 4 { t with c := Go.bits .xor .u64 t.c 255 }
  Go.bits .xor .u64 (Go.bits .xor .u64 (Go.bits .xor .u64 t.a t.b) t.c) t.d
def send (s : Sip) (xs : List Int) (n : Int) : Int := sfinal s (sword (slast xs n))

theorem splice8 (xs : List Int) (h : xs.length < 8) : splice [.int .u8 0, .int .u8 0, .int .u8 0, .int .u8 0, .int .u8 0, .int .u8 0, .int .u8 0, .int .u8 0] 0 (nums .u8 xs) = nums .u8 (xs ++ List.replicate (8 - xs.length) 0) := by
  have e : ([.int .u8 0, .int .u8 0, .int .u8 0, .int .u8 0, .int .u8 0, .int .u8 0, .int .u8 0, .int .u8 0] : List Value) = List.replicate 8 (.int .u8 0) := rfl
  rw [e, splice, List.drop_replicate]
  simp [nums, nums_length]
theorem reads_block {w : World} {b t : Nat} {xs : List Int} (h : w.heap[b]? = some (.cells (nums .u8 xs).toArray t (0, 0))) (hm : xs.length ≤ 9223372036854775807) : Kd.C (Kd.int .u8) w (some ⟨b, 0, none⟩) xs.length xs := by
  refine Kd.C_of_reads (d := (0 : Int)) ⟨rfl, hm, fun hp => ⟨_, rfl, fun j hj => ?_⟩⟩
  rw [add_at, cell_of_row w b _ _ t (0, 0) h]
  simp [nums, List.getElem?_eq_getElem hj, List.getD_eq_getElem?_getD]
theorem last7 {w : World} {b : Nat} {ys : List Int} (h : Hid (w.heap[b]? = some (.cells (nums .u8 ys).toArray 100 (0, 0)))) (hx : ys.length = 8) : w.cell? ⟨b, 7, none⟩ = some (.int .u8 (ys.getD 7 0)) := by
  rw [cell_of_row w b 7 _ 100 (0, 0) h.out]
  simp [nums, List.getElem?_eq_getElem (show 7 < ys.length by omega), List.getD_eq_getElem?_getD]
theorem pad_length (xs : List Int) (h : xs.length < 8) : (xs ++ List.replicate (8 - xs.length) (0 : Int)).length = 8 := by simp; omega
theorem slast_length (xs : List Int) (n : Int) (h : xs.length < 8) : (slast xs n).length = 8 := by simp [slast]; omega

set_option maxHeartbeats 4000000 in
set_option maxRecDepth 100000 in
theorem send_calls (g : Nat) (s : Sip) (v : Value) (n : Int) (xs : List Int) (w0 : World) (hg : w0.heap[g]? = some (.cells (sipCells s v n) 82 (0, 0)))
    (hq : QRow w0 g 5 1 v xs.length (nums .u8 xs)) (h0 : 0 ≤ n) (hn : n ≤ 4611686018427387904) (hx : xs.length < 8) :
    Calls Tryd.prog 33 #[.pointer (some ⟨g, 0, none⟩)] w0 fun e w' => e = .returned (.int .u64 (send s xs n)) ∧ Below g w0 w' := by
  obtain ⟨A, c, rfl, hxl, hnc, hmx, hC⟩ := q_reads hq
  have HG : Hid (w0.heap[g]? = some (.cells (sipCells s (.slice A xs.length c) n) 82 (0, 0))) := hg
  have HQ := Lib.hid hq
  have hgl : g ≤ w0.heap.size := Nat.le_of_lt (Array.getElem?_eq_some_iff.1 hg).1
  have HNE := Lib.hid (q_block_ne hq hg)
  clear hg hq hxl hC
  have c4 := (sip_cell HG.out).2.2.2.2.1
  have c5 := (sip_cell HG.out).2.2.2.2.2
  have HB := Lib.hid (below_alloc (Below.refl w0.heap.size w0) (.cells #[.int .u8 0, .int .u8 0, .int .u8 0, .int .u8 0, .int .u8 0, .int .u8 0, .int .u8 0, .int .u8 0] 100))
  have HL := Lib.hid (heap_alloc_new w0 (.cells #[.int .u8 0, .int .u8 0, .int .u8 0, .int .u8 0, .int .u8 0, .int .u8 0, .int .u8 0, .int .u8 0] 100))
  have hgl' : g < w0.heap.size := (Array.getElem?_eq_some_iff.1 HG.out).1
  clear c4 c5
  go_enter Tryd.func33, Tryd.ntmps33
  go_wp2_with fail
  generalize (w0.alloc (.cells #[.int .u8 0, .int .u8 0, .int .u8 0, .int .u8 0, .int .u8 0, .int .u8 0, .int .u8 0, .int .u8 0] 100)) = w1 at HB HL ⊢
  have HG1 := Lib.hid (blk_below HG.out HB.out)
  have HQ1 := Lib.hid (q_move HQ.out (fun k hk => HB.out.block k (q_lt HQ.out k hk)))
  obtain ⟨hxl, hmx1, hcells⟩ : xs.length = xs.length ∧ True ∧ (0 < xs.length → ∃ ad, A = some ad ∧ ∀ j u, (nums .u8 xs)[j]? = some u → w1.cell? (ad.add j) = some u) := ⟨rfl, trivial, fun h => q_cells HQ1.out h⟩
  have HC := Lib.hid hcells
  clear hxl hmx1 hcells
  have c4 := (sip_cell HG1.out).2.2.2.2.1
  go_still_tail 5, (by kernel_rfl)
  change wpList _ _ _ _ _ (World.drew w1)
  have HL2 : Hid ((World.drew w1).heap[w0.heap.size]? = some (.cells [.int .u8 0, .int .u8 0, .int .u8 0, .int .u8 0, .int .u8 0, .int .u8 0, .int .u8 0, .int .u8 0].toArray 100 (0, 0))) := HL
  have hl8 : (nums .u8 xs).length = Nat.min xs.length 8 := by rw [nums_length]; exact (Nat.min_eq_left (by omega)).symm
  have HL8 := Lib.hid hl8
  clear hl8
  refine wpList_copy_splice rfl (.tmp 4) (.tmp 8) 37 37 rfl 5 Tryd.underlying37 (by kernel_rfl) _ _ 8 8 xs.length c rfl rfl w0.heap.size 0 [.int .u8 0, .int .u8 0, .int .u8 0, .int .u8 0, .int .u8 0, .int .u8 0, .int .u8 0, .int .u8 0] 100 HL2.out (nums .u8 xs) HL8.out (fun h => ⟨rfl, HC.out (by rw [nums_length] at h; exact h)⟩) (by rw [nums_length]; simp; omega) (fun v hv => by simp [nums] at hv; obtain ⟨x, _, rfl⟩ := hv; rfl) w0.heap.size (World.drew w1) (Below.refl _ _) (Nat.le_refl _) ?_
  intro w2 hl2 hb2
  rw [splice8 xs hx] at hl2
  have HB2 : Hid (Below w0.heap.size w0 w2) := (below_drew HB.out).trans hb2
  have HG2 := Lib.hid (blk_below HG.out HB2.out)
  clear hb2 c4
  have c5 := (sip_cell HG2.out).2.2.2.2.2
  have c7 := last7 hl2 (pad_length xs hx)
  have f7 : w2.frozen? ⟨w0.heap.size, 7, none⟩ = false := fz_of hl2
  have hs3 := st_blk (u := .int .u8 (n % 256)) hl2 7
  have hs4 : Hid ((w2.setCell ⟨w0.heap.size, 7, none⟩ (.int .u8 (n % 256))).heap[w0.heap.size]? = some (.cells (nums .u8 (slast xs n)).toArray 100 (0, 0))) := by
    have h := hs3.out
    have e : (nums .u8 (xs ++ List.replicate (8 - xs.length) 0)).toArray.setIfInBounds 7 (.int .u8 (n % 256)) = (nums .u8 (slast xs n)).toArray := by
      simp [nums, slast, List.map_set]
    rw [e] at h
    exact h
  clear hs3
  have HB3 : Hid (Below w0.heap.size w0 (w2.setCell ⟨w0.heap.size, 7, none⟩ (.int .u8 (n % 256)))) := HB2.out.setCell (p := ⟨w0.heap.size, 7, none⟩) (Nat.le_refl _) _
  go_wp2_with fail
  clear c5 c7 f7
  generalize w2.setCell ⟨w0.heap.size, 7, none⟩ (.int .u8 (n % 256)) = w3 at hs4 HB3 ⊢
  have hC3 := Lib.hid (reads_block hs4.out (by rw [slast_length xs n hx]; omega))
  have HG3 := Lib.hid (blk_below HG.out HB3.out)
  have hl := slast_length xs n hx
  obtain ⟨ls, Hls⟩ : ∃ ls : List Int, Hid (ls = slast xs n) := ⟨_, rfl⟩
  rw [← Hls.out] at hC3 hl
  have hl2' : 8 ≤ ls.length := by omega
  have hC4 : Hid (Kd.C (Kd.int .u8) w3 (some ⟨w0.heap.size, 0, none⟩) ls.length ls) := hC3
  refine (calls_of_args (by rw [hl]) (siphash_word.calls 9 (some ⟨w0.heap.size, 0, none⟩) 8 ls (sword ls) _ hC4.out (by omega) (sword_some ls hl2'))).mono ?_
  rintro e w4 ⟨rfl, ⟨⟨nq, rfl⟩⟩⟩
  clear hl hl2'
  go_wp2_with fail
  refine (stake_calls g s (sword ls) _ _ _ (blk_drewN HG3.out nq)).mono ?_
  rintro e w5 ⟨rfl, hg5, hk5⟩
  have HG5 := Lib.hid hg5
  have HB5 : Hid (Below g w0 w5) := ((HB3.out.mono hgl).trans ((Below.refl g w3).grown (row := some g) ⟨hk5.os, hk5.tape, hk5.output, hk5.size, hk5.block⟩ (Nat.le_of_lt (Array.getElem?_eq_some_iff.1 HG3.out).1) (fun k hk => by injection hk with hk; omega)))
  clear hg5 hk5
  obtain ⟨s5, Hs5⟩ : ∃ s5 : Sip, Hid (s5 = stake s (sword ls)) := ⟨_, rfl⟩
  rw [← Hs5.out] at HG5
  have c2 := (sip_cell HG5.out).2.2.1
  have f2 : w5.frozen? ⟨g, 2, none⟩ = false := fz_of HG5
  go_wp2_with fail
  clear c2 f2
  have HG6 : Hid ((w5.setCell ⟨g, 2, none⟩ (.int .u64 (Go.bits .xor .u64 s5.c 255))).heap[g]? = some (.cells (sipCells { s5 with c := Go.bits .xor .u64 s5.c 255 } (.slice A xs.length c) n) 82 (0, 0))) := st_blk HG5 2
  have HB6 := Lib.hid (HB5.out.setCell (p := ⟨g, 2, none⟩) (Nat.le_refl g) (.int .u64 (Go.bits .xor .u64 s5.c 255)))
  generalize w5.setCell ⟨g, 2, none⟩ (.int .u64 (Go.bits .xor .u64 s5.c 255)) = w6 at HG6 HB6 ⊢
  obtain ⟨s6, Hs6⟩ : ∃ s6 : Sip, Hid (s6 = { s5 with c := Go.bits .xor .u64 s5.c 255 }) := ⟨_, rfl⟩
  rw [← Hs6.out] at HG6
  go_loopw [27] (fun x wr => ∃ k : Nat, k ≤ 4 ∧ x = .int .i64 k ∧ Hid (wr.heap[g]? = some (.cells (sipCells (srounds k s6) (.slice A xs.length c) n) 82 (0, 0))) ∧ Hid (Below g w0 wr)) (fun x _ => 4 - (intOf x).toNat)
  case atStart => exact ⟨0, by omega, rfl, HG6, HB6⟩
  case round =>
    obtain ⟨k, hk, rfl, HG7, HB7⟩ := hrel
    by_cases hlt : k < 4
    · go_wp2_with fail
      refine (sround_calls' g _ _ n _ HG7.out).mono ?_
      rintro e w7 ⟨rfl, hg7, hk7⟩
      have HG8 := Lib.hid hg7
      have HB8 : Hid (Below g w0 w7) := (HB7.out.trans ((Below.refl g wr).grown (row := some g) hk7 (Nat.le_of_lt (Array.getElem?_eq_some_iff.1 HG7.out).1) (fun k hk => by injection hk with hk; omega)))
      clear hg7 hk7
      go_wp2
      go_roundw
      case rel => exact ⟨k + 1, by omega, by go_num, HG8, HB8⟩
      case measure => simp [intOf]; omega
    · obtain rfl : k = 4 := by omega
      have c0 := (sip_cell HG7.out).1
      have c1 := (sip_cell HG7.out).2.1
      have c2 := (sip_cell HG7.out).2.2.1
      have c3 := (sip_cell HG7.out).2.2.2.1
      go_wp2_with fail
      go_quiet (fail)
      go_wp2
      go_ret
      refine ⟨?_, pw_below_drewN HB7.out _⟩
      have e : send s xs n = Go.bits .xor .u64 (Go.bits .xor .u64 (Go.bits .xor .u64 (srounds 4 s6).a (srounds 4 s6).b) (srounds 4 s6).c) (srounds 4 s6).d := by
        rw [Hs6.out, Hs5.out, Hls.out]
        rfl
      rw [e]
      rfl
end Go.Proofs.YtbcmmmcbineipaaDoor
set_option linter.unusedVariables false
set_option linter.unusedSimpArgs false
namespace Go.Proofs.YtbcmmmcbineipaaDoor
open Go.RowKit Go.Proofs.YtbcmmmcbineipaaDoorW.PrintWords Go.Proofs.YtbcmmmcbineipaaDoorW.PrintLast Go.Proofs.YtbcmmmcbineipaaDoorW.PrintMore
open Go.Proofs.YtbcmmmcbineipaaDoor.PR

theorem word_step (xs : List Int) (k : Nat) (x i : Int) (h0 : 0 ≤ i) (h8 : i < 8) (hl : i < xs.length) : siphash_word.l0 (k + 1) xs x i = siphash_word.l0 k xs (Go.bits .or .u64 x (shl .u64 (IntKind.u64.wrap (rd xs i)) (wrap64 (8 * i)))) (i + 1) := by
  have e1 : wrap64 (i + 1) = i + 1 := by unfold wrap64; omega
  have e2 : 0 ≤ wrap64 (8 * i) := by unfold wrap64; omega
  rw [siphash_word.l0, if_pos h8, if_pos h0, if_pos hl, if_pos e2, e1]
theorem word_append (xs ys : List Int) (h : 8 ≤ xs.length) (d : Nat) : ∀ (x i : Int), 0 ≤ i → i + d = 8 → siphash_word.l0 (d + 1) (xs ++ ys) x i = siphash_word.l0 (d + 1) xs x i := by
  induction d with
  | zero =>
    intro x i h0 hd
    simp only [siphash_word.l0]; rw [if_neg (by omega), if_neg (by omega)]
  | succ d ih =>
    intro x i h0 hd
    have e3 : rd (xs ++ ys) i = rd xs i := by
      unfold rd
      rw [List.getD_eq_getElem?_getD, List.getD_eq_getElem?_getD, List.getElem?_append_left (by omega)]
    have hl : ((xs ++ ys).length : Int) = xs.length + ys.length := by simp
    rw [word_step (xs ++ ys) (d + 1) x i h0 (by omega) (by omega), word_step xs (d + 1) x i h0 (by omega) (by omega), e3]
    exact ih _ _ (by omega) (by omega)
theorem sword_append (xs ys : List Int) (h : 8 ≤ xs.length) : sword (xs ++ ys) = sword xs := by
  have : siphash_word.f 9 (xs ++ ys) = siphash_word.f 9 xs := word_append xs ys h 8 0 0 (by omega) (by omega)
  unfold sword
  rw [this]
theorem absorb_rest (s : Sip) (xs : List Int) : (absorb s xs).2.length < 8 := by
  induction hn : xs.length using Nat.strongRecOn generalizing s xs with
  | _ n ih =>
    by_cases h : 8 ≤ xs.length
    · rw [absorb_step s xs h]
      exact ih (xs.drop 8).length (by simp; omega) _ _ rfl
    · rw [absorb_end s xs h]
      show xs.length < 8
      omega
theorem absorb_append (s : Sip) (xs ys : List Int) : absorb s (xs ++ ys) = absorb (absorb s xs).1 ((absorb s xs).2 ++ ys) := by
  induction hn : xs.length using Nat.strongRecOn generalizing s xs with
  | _ n ih =>
    by_cases h : 8 ≤ xs.length
    · rw [absorb_step s xs h, absorb_step s (xs ++ ys) (by simp; omega), sword_append xs ys h, List.drop_append_of_le_length h]
      exact ih (xs.drop 8).length (by simp; omega) _ _ rfl
    · rw [absorb_end s xs h]
def lbytes (l : List ByteArray) : List Int := (l.map bytesOf).flatten
theorem lbytes_nil : lbytes [] = [] := rfl
theorem lbytes_append (a b : List ByteArray) : lbytes (a ++ b) = lbytes a ++ lbytes b := by
  unfold lbytes
  rw [List.map_append, List.flatten_append]
theorem lbytes_take_succ (l : List ByteArray) (k : Nat) (h : k < l.length) : lbytes (l.take (k + 1)) = lbytes (l.take k) ++ bytesOf l[k] := by
  rw [List.take_succ_eq_append_getElem h, lbytes_append]
  congr 1
  simp [lbytes]
theorem lbytes_take_le (l : List ByteArray) (k : Nat) : (lbytes (l.take k)).length ≤ (lbytes l).length := by
  have h : lbytes l = lbytes (l.take k) ++ lbytes (l.drop k) := by rw [← lbytes_append, List.take_append_drop]
  rw [h, List.length_append]
  omega
def sinit (kb : List Int) : Sip :=
  ⟨Go.bits .xor .u64 (sword (kb.take 8)) 8317987319222330741, Go.bits .xor .u64 (sword (kb.drop 8)) 7237128888997146477, Go.bits .xor .u64 (sword (kb.take 8)) 7816392313619706465, Go.bits .xor .u64 (sword (kb.drop 8)) 8387220255154660723⟩
def ssum (kb bs : List Int) : Int := send (absorb (sinit kb) bs).1 (absorb (sinit kb) bs).2 bs.length

theorem word_quiet {w : World} {A : Option Addr} {c n : Nat} {xs : List Int} (h : Kd.C (Kd.int .u8) w A xs.length xs) (hc : xs.length ≤ c) (h8 : 8 ≤ xs.length) :
    Calls Tryd.prog 31 #[.slice A xs.length c] (w.drewN n) fun e w' => e = .returned (.int .u64 (sword xs)) ∧ ∃ m, w' = w.drewN m :=
  Calls.quiet_of ((siphash_word.calls 9 A c xs (sword xs) _ (Kd.C_below h (pw_below_drewN (Below.refl _ _) n)) hc (sword_some xs h8)).mono fun _ _ ⟨he, ⟨hd⟩⟩ => ⟨he, hd⟩)
theorem reads_part {w : World} {b t o : Nat} {xs ys : List Int} (h : w.heap[b]? = some (.cells (nums .u8 xs).toArray t (0, 0))) (hm : ys.length ≤ 9223372036854775807) (he : ∀ j, j < ys.length → xs[o + j]? = some (ys.getD j 0)) : Kd.C (Kd.int .u8) w (some ⟨b, o, none⟩) ys.length ys := by
  refine Kd.C_of_reads (d := (0 : Int)) ⟨rfl, hm, fun hp => ⟨_, rfl, fun j hj => ?_⟩⟩
  rw [add_at, cell_of_row w b _ _ t (0, 0) h]
  simp [nums, he j hj]

theorem str_at {w : World} {A : Option Addr} {n : Nat} {xs : List ByteArray} (h : Kd.C Kd.string w A n xs) (k : Nat) (hk : k < n) (hl : xs.length = n) : ∃ ad, A = some ad ∧ w.cell? (ad.add k) = some (.string (xs[k]'(by omega))) := by
  obtain ⟨ad, c, rfl, _, hc, hcell⟩ := Kd.C_get h ByteArray.empty (k : Int) (by omega) (by omega)
  refine ⟨ad, rfl, ?_⟩
  have hc' : c = [.string (xs.getD (k : Int).toNat ByteArray.empty)] := hc
  have := hcell 0 (.string (xs.getD (k : Int).toNat ByteArray.empty)) (by rw [hc']; rfl)
  simp only [Int.toNat_natCast] at this
  have e : k * Kd.string.sz + 0 = k := by show k * 1 + 0 = k; omega
  rw [e] at this
  rw [this, List.getD_eq_getElem?_getD, List.getElem?_eq_getElem (by omega)]
  rfl

set_option maxHeartbeats 400000 in
set_option maxRecDepth 100000 in
theorem ssum_calls (kb : List Int) (A : Option Addr) (c : Nat) (l : List ByteArray) (w0 : World) (hk : kb.length = 16) (hr : Kd.C Kd.string w0 A l.length l) (hc : l.length ≤ c) (hsz : (lbytes l).length ≤ 140737488355000) (hl : l.length ≤ 9223372036854775807) :
    Calls Tryd.prog 23 #[.agg (nums .u8 kb).toArray, .slice A l.length c] w0 fun e w' => e = .returned (.int .u64 (ssum kb (lbytes l))) ∧ Below w0.heap.size w0 w' := by
  have HR := Lib.hid hr
  clear hr
  have HK := Lib.hid hk
  clear hk
  have HB := Lib.hid (below_alloc (Below.refl w0.heap.size w0) (.cells (nums .u8 kb).toArray 26))
  have HL := Lib.hid (heap_alloc_new w0 (.cells (nums .u8 kb).toArray 26))
  go_enter Tryd.func23, Tryd.ntmps23
  go_wp2_with fail
  generalize (w0.alloc (.cells (nums .u8 kb).toArray 26)) = w1 at HB HL ⊢
  have HA1 := Lib.hid (reads_part (o := 0) (ys := kb.take 8) HL.out (by simp; omega) (fun j hj => by
    simp only [List.length_take] at hj
    rw [Nat.zero_add, List.getD_eq_getElem?_getD, List.getElem?_take, if_pos (by omega), List.getElem?_eq_getElem (by omega)]
    rfl))
  have HA2 := Lib.hid (reads_part (o := 8) (ys := kb.drop 8) HL.out (by simp; have := HK.out; omega) (fun j hj => by
    simp only [List.length_drop] at hj
    rw [List.getD_eq_getElem?_getD, List.getElem?_drop, List.getElem?_eq_getElem (by omega)]
    rfl))
  have hl1 : (kb.take 8).length = 8 := by have := HK.out; simp; omega
  have hl2 : (kb.drop 8).length = 8 := by have := HK.out; simp; omega
  obtain ⟨k1, Hk1⟩ : ∃ k1 : List Int, Hid (k1 = kb.take 8) := ⟨_, rfl⟩
  obtain ⟨k2, Hk2⟩ : ∃ k2 : List Int, Hid (k2 = kb.drop 8) := ⟨_, rfl⟩
  rw [← Hk1.out] at HA1 hl1
  rw [← Hk2.out] at HA2 hl2
  have hq1 : ∀ n, Calls Tryd.prog 31 #[.slice (some ⟨w0.heap.size, 0, none⟩) 8 16] (w1.drewN n) fun e w' => e = .returned (.int .u64 (sword k1)) ∧ ∃ m, w' = w1.drewN m := fun n => by
    have h := word_quiet (n := n) HA1.out (c := 16) (by omega) (by omega)
    rw [hl1] at h
    exact h
  have hq2 : ∀ n, Calls Tryd.prog 31 #[.slice (some ⟨w0.heap.size, 8, none⟩) 8 8] (w1.drewN n) fun e w' => e = .returned (.int .u64 (sword k2)) ∧ ∃ m, w' = w1.drewN m := fun n => by
    have h := word_quiet (n := n) HA2.out (c := 8) (by omega) (by omega)
    rw [hl2] at h
    exact h
  have HQ1 := Lib.hid hq1
  have HQ2 := Lib.hid hq2
  clear hq1 hq2 hl1 hl2
  go_quiet ((first | (with_reducible exact HQ1.out _) | (with_reducible exact HQ2.out _)))
  go_wp2_with fail
  have HG2 : Hid (((w1.drewN nq).alloc (.cells (sipCells (sinit kb) (.slice none 0 0) 0) 82)).heap[w1.heap.size]? = some (.cells (sipCells (sinit kb) (.slice none 0 0) 0) 82 (0, 0))) := heap_alloc_new (w1.drewN nq) _
  have HB2 : Hid (Below w0.heap.size w0 ((w1.drewN nq).alloc (.cells (sipCells (sinit kb) (.slice none 0 0) 0) 82))) := below_alloc (pw_below_drewN HB.out nq) _
  have es : sinit kb = ⟨Go.bits .xor .u64 (sword k1) 8317987319222330741, Go.bits .xor .u64 (sword k2) 7237128888997146477, Go.bits .xor .u64 (sword k1) 7816392313619706465, Go.bits .xor .u64 (sword k2) 8387220255154660723⟩ := by rw [Hk1.out, Hk2.out]; rfl
  obtain ⟨s0, Hs0⟩ : ∃ s0 : Sip, Hid (s0 = sinit kb) := ⟨_, rfl⟩
  have e2 : sipCells s0 (.slice none 0 0) 0 = #[.int .u64 (Go.bits .xor .u64 (sword k1) 8317987319222330741), .int .u64 (Go.bits .xor .u64 (sword k2) 7237128888997146477), .int .u64 (Go.bits .xor .u64 (sword k1) 7816392313619706465), .int .u64 (Go.bits .xor .u64 (sword k2) 8387220255154660723), .slice none 0 0, .int .i64 0] := by rw [Hs0.out, es]; rfl
  rw [← Hs0.out] at HG2 HB2
  have hsz1 : w0.heap.size ≤ w1.heap.size := HB.out.size
  rw [← e2]
  clear es e2
  generalize (w1.drewN nq).alloc (.cells (sipCells s0 (.slice none 0 0) 0) 82) = w2 at HG2 HB2 ⊢
  go_loopw [26] (fun x wr => ∃ k : Nat, k ≤ l.length ∧ x = .int .i64 k ∧ ∃ (v : Value) (n : Int), Hid (n = (lbytes (l.take k)).length) ∧ Hid (wr.heap[w1.heap.size]? = some (.cells (sipCells (absorb s0 (lbytes (l.take k))).1 v n) 82 (0, 0))) ∧ Hid (QRow wr w1.heap.size 5 1 v (absorb s0 (lbytes (l.take k))).2.length (nums .u8 (absorb s0 (lbytes (l.take k))).2)) ∧ Hid (Below w0.heap.size w0 wr)) (fun x _ => l.length - (intOf x).toNat)
  case atStart => exact ⟨0, by omega, rfl, .slice none 0 0, 0, rfl, by rw [List.take_zero, lbytes_nil, absorb_end _ _ (by simp)]; exact HG2, by rw [List.take_zero, lbytes_nil, absorb_end _ _ (by simp)]; exact q_of_own (World.ownsRow_nil _ _ _ _), HB2⟩
  case round =>
    obtain ⟨k, hk, rfl, v, n, Hn, HG3, HQ3, HB3⟩ := hrel
    by_cases hlt : k < l.length
    · obtain ⟨ad, rfl, hcell⟩ := str_at (Kd.C_below HR.out HB3.out) k hlt rfl
      obtain ⟨t, Ht⟩ : ∃ t : ByteArray, Hid (t = l[k]) := ⟨l[k], rfl⟩
      rw [← Ht.out] at hcell
      go_wp2_with fail
      have hle := lbytes_take_le l (k + 1)
      have hsucc := lbytes_take_succ l k hlt
      rw [← Ht.out] at hsucc
      have hr8 := absorb_rest s0 (lbytes (l.take k))
      have hbl := bytesOf_length t
      have hls : (lbytes (l.take (k + 1))).length = (lbytes (l.take k)).length + t.size := by rw [hsucc, List.length_append, hbl]
      refine (swrite_calls w1.heap.size _ v n _ t _ HG3.out HQ3.out (by rw [Hn.out]; omega) (by rw [Hn.out]; omega) (by omega)).mono ?_
      rintro e w3 ⟨rfl, ⟨v', hg', hq'⟩, hb'⟩
      have hab : absorb s0 (lbytes (l.take (k + 1))) = absorb (absorb s0 (lbytes (l.take k))).1 ((absorb s0 (lbytes (l.take k))).2 ++ bytesOf t) := by rw [hsucc, absorb_append]
      rw [← hab] at hg' hq'
      have HG4 := Lib.hid hg'
      have HQ4 := Lib.hid hq'
      have HB4 : Hid (Below w0.heap.size w0 w3) := HB3.out.trans (hb'.mono hsz1)
      have HN4 : Hid (n + t.size = (lbytes (l.take (k + 1))).length) := by
        show _ = _
        rw [Hn.out, hls]; omega
      clear hg' hq' hb' hab hsucc hle hr8 hbl hls hcell
      go_wp2
      go_roundw
      case rel => exact ⟨k + 1, by omega, by go_num, v', n + t.size, HN4, HG4, HQ4, HB4⟩
      case measure => simp [intOf]; omega
    · obtain rfl : k = l.length := by omega
      rw [List.take_length] at HG3 HQ3 Hn
      go_wp2_with fail
      refine (send_calls w1.heap.size _ v n _ _ HG3.out HQ3.out (by rw [Hn.out]; omega) (by rw [Hn.out]; omega) (absorb_rest _ _)).mono ?_
      rintro e w3 ⟨rfl, hb'⟩
      have HB4 : Hid (Below w0.heap.size w0 w3) := HB3.out.trans (hb'.mono hsz1)
      clear hb'
      go_wp2
      go_ret
      refine ⟨?_, HB4.out⟩
      have e : ssum kb (lbytes l) = send (absorb s0 (lbytes l)).1 (absorb s0 (lbytes l)).2 n := by rw [Hn.out, Hs0.out]; rfl
      rw [e]
      rfl
end Go.Proofs.YtbcmmmcbineipaaDoor
set_option linter.unusedVariables false
set_option linter.unusedSimpArgs false
namespace Go.Proofs.YtbcmmmcbineipaaDoor
open Go.RowKit Go.Proofs.YtbcmmmcbineipaaDoorW.PrintWords Go.Proofs.YtbcmmmcbineipaaDoorW.PrintLast Go.Proofs.YtbcmmmcbineipaaDoorW.PrintMore
open Go.Proofs.YtbcmmmcbineipaaDoor.PR Go.Maps Go.WideMaps

theorem run_makeMap_hint (n : Int) (w : World) : (Instr.makeMap 76 (some (.int .i64 n))).run Tryd.prog w = .ok (.map (some w.heap.size)) (w.alloc (.map #[] 0)) := by
  simp [Instr.makeMap, run_underlying Tryd.underlying76, asInt, asIntOf]
def keyL (s : ByteArray) : Lit := .string s.data.toList
def keysOf (l : List S46) : List Lit := l.map fun e => keyL e.f0
def setN (l : List S46) : DataW Unit := setOf (.agg []) (keysOf l)
theorem setN_nil : setN [] = .map [] := by simp [setN, keysOf, setOf]
theorem setN_succ (l : List S46) (k : Nat) (h : k < l.length) : setN (l.take (k + 1)) = (setN (l.take k)).put (keyL l[k].f0) (.agg []) := by
  unfold setN keysOf
  rw [List.take_succ_eq_append_getElem h, List.map_append, List.map_singleton, setOf_snoc]
def badW (e : S46) : Bool := decide (e.f1 < 1) || decide (65535 < e.f1)
def chk (l : List S46) : Int := if l.any badW then 1 else if 1024 < l.length then 1 else if Maps.size (setN l) < l.length then 1 else 0
theorem law9 : Keyed Tryd.prog 9 := string_keyed Tryd.underlying9

set_option maxHeartbeats 1000000 in
set_option maxRecDepth 100000 in
theorem chk_calls (A : Option Addr) (c : Nat) (l : List S46) (w0 : World) (hr : Kd.C k46 w0 A l.length l) (hc : l.length ≤ c) (hl : l.length ≤ 1000000) (hs : ∀ e ∈ l, e.f0.size ≤ maxLen) :
    Calls Tryd.prog 22 #[.slice A l.length c] w0 fun e w' => e = .returned (.int .i64 (chk l)) ∧ Below w0.heap.size w0 w' := by
  have HR := Lib.hid hr
  have HS := Lib.hid hs
  clear hr hs
  have hmm := run_makeMap_hint
  go_enter Tryd.func22, Tryd.ntmps22
  go_wp2_with fail
  go_loopw [11] (fun i wr => ∃ k : Nat, k ≤ l.length ∧ i = .int .i64 k ∧ Hid ((l.take k).any badW = false) ∧ Hid (wr.ownsMap Tryd.prog 9 (unitElem (H := Unit)) w0.heap.size k (setN (l.take k))) ∧ Hid (Below w0.heap.size w0 wr)) (fun i _ => l.length - (intOf i).toNat)
  case atStart => exact ⟨0, Nat.zero_le _, rfl, rfl, by rw [List.take_zero, setN_nil]; exact World.ownsMap_made _ _ _ _, below_alloc (Below.refl _ _) _⟩
  case round =>
    obtain ⟨k, hk, rfl, HF, HO, HB⟩ := hrel
    by_cases hlt : k < l.length
    · obtain ⟨ad, rfl, hc0, hc1⟩ := at_T46 (Kd.C_below HR.out HB.out) (k : Int) (by omega) (by omega)
      obtain ⟨x, Hx⟩ : ∃ x : S46, Hid (x = l[k]) := ⟨l[k], rfl⟩
      have ex : rd_T46 l (k : Int) = x := by rw [Hx.out]; simp [rd_T46, List.getD_eq_getElem?_getD, List.getElem?_eq_getElem hlt]
      rw [ex] at hc0 hc1
      simp only [Int.toNat_natCast] at hc0 hc1
      clear ex
      have hbad : ∀ h : badW x = true, chk l = 1 := fun h => by
        have : l.any badW = true := List.any_eq_true.2 ⟨l[k], List.getElem_mem hlt, by rw [← Hx.out]; exact h⟩
        rw [chk, if_pos this]
      have HBAD := Lib.hid hbad
      clear hbad
      by_cases b1 : x.f1 < 1
      · have E1 : Hid (chk l = 1) := HBAD.out (by simp [badW, b1])
        go_wp2_with fail
        go_ret
        exact ⟨by rw [E1.out]; rfl, below_alloc HB.out _⟩
      · by_cases b2 : 65535 < x.f1
        · have E1 : Hid (chk l = 1) := HBAD.out (by simp [badW, b2])
          go_wp2_with fail
          go_ret
          exact ⟨by rw [E1.out]; rfl, below_alloc HB.out _⟩
        · have hkey : keyOf Tryd.prog 9 (.string x.f0) = some (keyL x.f0) := keyOf_string_mk Tryd.underlying9 (by rw [Hx.out]; exact HS.out _ (List.getElem_mem hlt))
          have HKEY := Lib.hid hkey
          clear hkey
          have HF1 : Hid ((l.take (k + 1)).any badW = false) := by
            show _ = _
            rw [List.take_succ_eq_append_getElem hlt, List.any_append, HF.out, ← Hx.out]
            simp [badW, b1, b2]
          have hkm : k < maxLen := by unfold maxLen; omega
          go_wp2_with (first | (at_mapUpdate; refine wpList_mapUpdate_own _ rfl _ _ _ 76 rfl 9 77 law9 Tryd.underlying76 (unitElem (H := Unit)) w0.heap.size k _ rfl (HO.out.alloc _) hkm _ _ _ rfl rfl HKEY.out _ [] unitElem_mk ?_; intro w1 hown1 hgrow1; have HO1 := Lib.hid hown1; have HB1 : Hid (Below w0.heap.size w0 w1) := (below_alloc HB.out _).grown hgrow1 (by simp; have := HB.out.size; omega) (fun j hj => by injection hj with hj; omega); clear hown1 hgrow1))
          go_roundw
          case rel => exact ⟨k + 1, by omega, by go_num, HF1, (by rw [setN_succ l k hlt, ← Hx.out]; exact HO1), HB1⟩
          case measure => simp [intOf]; omega
    · obtain rfl : k = l.length := by omega
      rw [List.take_length] at HF HO
      obtain ⟨m, Hm⟩ : ∃ m : Nat, Hid (m = Maps.size (setN l)) := ⟨_, rfl⟩
      have hlen := HO.out.len Tryd.underlying76 3
      rw [← Hm.out] at hlen
      by_cases b1 : 1024 < l.length
      · have E1 : Hid (chk l = 1) := by
          show _ = _
          rw [chk, if_neg (by rw [HF.out]; decide), if_pos b1]
        have hd : decide (1024 < l.length) = true := decide_eq_true b1
        go_wp2_with fail
        go_ret
        exact ⟨by rw [E1.out]; rfl, HB.out⟩
      · have hd : decide (1024 < l.length) = false := decide_eq_false b1
        by_cases b2 : m < l.length
        · have E1 : Hid (chk l = 1) := by
            show _ = _
            rw [chk, if_neg (by rw [HF.out]; decide), if_neg b1, if_pos (by rw [← Hm.out]; exact b2)]
          have hd2 : decide (m < l.length) = true := decide_eq_true b2
          go_wp2_with fail
          go_ret
          exact ⟨by rw [E1.out]; rfl, HB.out⟩
        · have E1 : Hid (chk l = 0) := by
            show _ = _
            rw [chk, if_neg (by rw [HF.out]; decide), if_neg b1, if_neg (by rw [← Hm.out]; exact b2)]
          have hd2 : decide (m < l.length) = false := decide_eq_false b2
          go_wp2_with fail
          go_ret
          exact ⟨by rw [E1.out]; rfl, HB.out⟩
end Go.Proofs.YtbcmmmcbineipaaDoor
