/- The siphash part: what the state's round and take do. -/
import Derived.Test.YtbcmmmcbineipaaDoorProg
import Derived.WalkKit
import Derived.WalkLawsBesides
import Derived.WalkSpells
import Derived.StillTailTactics
import Derived.Below
import Derived.OwnWalk
import Derived.Outline
import Derived.KernelRfl
set_option linter.unusedVariables false
set_option linter.unusedSimpArgs false
namespace Go.Proofs.YtbcmmmcbineipaaDoor
open Go.RowKit

/-- A word turned left; p = 2^k, q = 2^(64-k). -/
def rot (x p q : Int) : Int := Go.bits .or .u64 (IntKind.u64.wrap (x * p)) (x / q)

def RotSaid (k p q : Int) : Prop := ∀ (x : Int) (w : World), Calls Tryd.prog 62 #[.int .u64 x, .int .i64 k] w fun e w' => e = .returned (.int .u64 (rot x p q)) ∧ w' = w
theorem rot13 : RotSaid 13 8192 2251799813685248 := by
  intro x w
  have h1 : Go.bits .and .u64 13 63 = 13 := by decide
  have h2 : IntKind.u64.wrap 13 = 13 := by decide
  go_enter Tryd.func62, Tryd.ntmps62
  go_wp2
  go_ret
  exact ⟨rfl, rfl⟩
theorem rot16 : RotSaid 16 65536 281474976710656 := by
  intro x w
  have h1 : Go.bits .and .u64 16 63 = 16 := by decide
  have h2 : IntKind.u64.wrap 16 = 16 := by decide
  go_enter Tryd.func62, Tryd.ntmps62
  go_wp2
  go_ret
  exact ⟨rfl, rfl⟩
theorem rot17 : RotSaid 17 131072 140737488355328 := by
  intro x w
  have h1 : Go.bits .and .u64 17 63 = 17 := by decide
  have h2 : IntKind.u64.wrap 17 = 17 := by decide
  go_enter Tryd.func62, Tryd.ntmps62
  go_wp2
  go_ret
  exact ⟨rfl, rfl⟩
theorem rot21 : RotSaid 21 2097152 8796093022208 := by
  intro x w
  have h1 : Go.bits .and .u64 21 63 = 21 := by decide
  have h2 : IntKind.u64.wrap 21 = 21 := by decide
  go_enter Tryd.func62, Tryd.ntmps62
  go_wp2
  go_ret
  exact ⟨rfl, rfl⟩
theorem rot32 : RotSaid 32 4294967296 4294967296 := by
  intro x w
  have h1 : Go.bits .and .u64 32 63 = 32 := by decide
  have h2 : IntKind.u64.wrap 32 = 32 := by decide
  go_enter Tryd.func62, Tryd.ntmps62
  go_wp2
  go_ret
  exact ⟨rfl, rfl⟩

/-- Four words. -/
structure Sip where
  a : Int
  b : Int
  c : Int
  d : Int
def sround (s : Sip) : Sip :=
  let a := IntKind.u64.wrap (s.a + s.b)
  let b := Go.bits .xor .u64 (rot s.b 8192 2251799813685248) a
  let a := rot a 4294967296 4294967296
  let c := IntKind.u64.wrap (s.c + s.d)
  let d := Go.bits .xor .u64 (rot s.d 65536 281474976710656) c
  let a := IntKind.u64.wrap (a + d)
  let d := Go.bits .xor .u64 (rot d 2097152 8796093022208) a
  let c := IntKind.u64.wrap (c + b)
  let b := Go.bits .xor .u64 (rot b 131072 140737488355328) c
  let c := rot c 4294967296 4294967296
  ⟨a, b, c, d⟩
/-- The state in memory: four words, what is left, how many there were. -/
def sipCells (s : Sip) (v : Value) (n : Int) : Array Value := #[.int .u64 s.a, .int .u64 s.b, .int .u64 s.c, .int .u64 s.d, v, .int .i64 n]

theorem fz_of {w : World} {g t i : Nat} {cs : Array Value} (h : Hid (w.heap[g]? = some (.cells cs t (0, 0)))) : w.frozen? ⟨g, i, none⟩ = false := by
  have h := h.out
  simp [World.frozen?, h]
theorem st_blk {w : World} {g t : Nat} {cs : Array Value} {u : Value} (h : Hid (w.heap[g]? = some (.cells cs t (0, 0)))) (i : Nat) : Hid ((w.setCell ⟨g, i, none⟩ u).heap[g]? = some (.cells (cs.setIfInBounds i u) t (0, 0))) := by
  have h := h.out
  show _ = _
  simp only [World.setCell, Array.getElem?_modify, if_true, h]
  rfl
theorem gb_drew {w w1 : World} {g : Option Nat} (h : Hid (w.grownBy w1 g)) : Hid (w.grownBy w1.drew g) := ⟨h.out.os, h.out.tape, h.out.output, h.out.size, h.out.block⟩
theorem gb_set {w w1 : World} {g : Nat} {u : Value} (h : Hid (w.grownBy w1 (some g))) (i : Nat) : Hid (w.grownBy (w1.setCell ⟨g, i, none⟩ u) (some g)) :=
  ⟨h.out.os, h.out.tape, h.out.output, by have := h.out.size; simp [World.setCell]; exact this, fun k hk hne => by
    rw [Below.heap_setCell _ _ _ _ (fun e => hne (by simpa using e))]; exact h.out.block k hk hne⟩
theorem gb_refl (w : World) (g : Option Nat) : Hid (w.grownBy w g) := ⟨rfl, rfl, rfl, Nat.le_refl _, fun _ _ _ => rfl⟩

set_option maxHeartbeats 4000000 in
set_option maxRecDepth 100000 in
theorem sround_calls (g : Nat) (a b c d : Int) (v : Value) (n : Int) (w0 : World) (hg : w0.heap[g]? = some (.cells #[.int .u64 a, .int .u64 b, .int .u64 c, .int .u64 d, v, .int .i64 n] 82 (0, 0))) :
    Calls Tryd.prog 47 #[.pointer (some ⟨g, 0, none⟩)] w0 fun e w' => e = .returned (.tuple #[]) ∧ w'.heap[g]? = some (.cells (sipCells (sround ⟨a, b, c, d⟩) v n) 82 (0, 0)) ∧ w0.grownBy w' (some g) := by
  have HG : Hid (w0.heap[g]? = some (.cells #[.int .u64 a, .int .u64 b, .int .u64 c, .int .u64 d, v, .int .i64 n] 82 (0, 0))) := hg
  clear hg
  have HK := gb_refl w0 (some g)
  obtain ⟨w, hw⟩ : ∃ w : World, w = w0 := ⟨_, rfl⟩
  rw [← hw] at HG
  replace HK : Hid (w0.grownBy w (some g)) := by rw [hw]; exact HK
  refine Eq.subst (motive := fun x => Calls Tryd.prog 47 #[.pointer (some ⟨g, 0, none⟩)] x _) hw ?_
  clear hw
  go_enter Tryd.func47, Tryd.ntmps47
  go_wp2
  -- statement 0
  have ca := cell_of_row w g 0 _ _ _ HG.out
  have cb := cell_of_row w g 1 _ _ _ HG.out
  have cc := cell_of_row w g 2 _ _ _ HG.out
  have cd := cell_of_row w g 3 _ _ _ HG.out
  simp only [List.getElem?_toArray, List.getElem?_cons_zero, List.getElem?_cons_succ] at ca cb cc cd
  have ffa : w.frozen? ⟨g, 0, none⟩ = false := fz_of HG.out
  go_still_tail 11, (by kernel_rfl)
  change wpList _ _ _ _ _ (World.drew w)
  replace HG : Hid ((World.drew w).heap[g]? = some (.cells #[.int .u64 a, .int .u64 b, .int .u64 c, .int .u64 d, v, .int .i64 n] 82 (0, 0))) := HG
  replace HK : Hid (w0.grownBy (World.drew w) (some g)) := gb_drew HK
  replace ffa : (World.drew w).frozen? ⟨g, 0, none⟩ = false := ffa
  have cqa : (World.drew w).cell? ⟨g, 0, none⟩ = some (.int .u64 a) := ca
  clear ca cb cc cd
  generalize World.drew w = wd0 at HG HK ffa cqa ⊢
  go_wp2
  clear ffa cqa
  obtain ⟨a0, Ha0⟩ : ∃ x_ : Int, Hid (x_ = IntKind.u64.wrap (a + b)) := ⟨_, rfl⟩
  rw [← Ha0.out]
  replace HG := st_blk (u := .int .u64 a0) HG 0
  simp only [List.setIfInBounds_toArray, List.set_cons_zero, List.set_cons_succ] at HG
  replace HK := gb_set (u := .int .u64 a0) HK 0
  generalize World.setCell wd0 ⟨g, 0, none⟩ (.int .u64 a0) = ws0 at HG HK ⊢
  -- statement 1
  have ca := cell_of_row ws0 g 0 _ _ _ HG.out
  have cb := cell_of_row ws0 g 1 _ _ _ HG.out
  have cc := cell_of_row ws0 g 2 _ _ _ HG.out
  have cd := cell_of_row ws0 g 3 _ _ _ HG.out
  simp only [List.getElem?_toArray, List.getElem?_cons_zero, List.getElem?_cons_succ] at ca cb cc cd
  have ffb : ws0.frozen? ⟨g, 1, none⟩ = false := fz_of HG.out
  have ffa : ws0.frozen? ⟨g, 0, none⟩ = false := fz_of HG.out
  go_still_tail 12, (by kernel_rfl)
  still_call (rot13 _ _)
  repeat still_step
  refine wpStill_nil ?_
  change wpList _ _ _ _ _ (World.drew ws0)
  replace HG : Hid ((World.drew ws0).heap[g]? = some (.cells #[.int .u64 a0, .int .u64 b, .int .u64 c, .int .u64 d, v, .int .i64 n] 82 (0, 0))) := HG
  replace HK : Hid (w0.grownBy (World.drew ws0) (some g)) := gb_drew HK
  replace ffb : (World.drew ws0).frozen? ⟨g, 1, none⟩ = false := ffb
  have cqb : (World.drew ws0).cell? ⟨g, 1, none⟩ = some (.int .u64 b) := cb
  replace ffa : (World.drew ws0).frozen? ⟨g, 0, none⟩ = false := ffa
  have cqa : (World.drew ws0).cell? ⟨g, 0, none⟩ = some (.int .u64 a0) := ca
  clear ca cb cc cd
  generalize World.drew ws0 = wd1 at HG HK ffb cqb ffa cqa ⊢
  go_wp2_with (go_at_call 62; refine (rot32 _ _).mono ?_; rintro e w1 ⟨rfl, rfl⟩)
  clear ffb cqb ffa cqa
  obtain ⟨b1, Hb1⟩ : ∃ x_ : Int, Hid (x_ = Go.bits .xor .u64 (rot b 8192 2251799813685248) a0) := ⟨_, rfl⟩
  rw [← Hb1.out]
  replace HG := st_blk (u := .int .u64 b1) HG 1
  simp only [List.setIfInBounds_toArray, List.set_cons_zero, List.set_cons_succ] at HG
  replace HK := gb_set (u := .int .u64 b1) HK 1
  obtain ⟨a1, Ha1⟩ : ∃ x_ : Int, Hid (x_ = rot a0 4294967296 4294967296) := ⟨_, rfl⟩
  rw [← Ha1.out]
  replace HG := st_blk (u := .int .u64 a1) HG 0
  simp only [List.setIfInBounds_toArray, List.set_cons_zero, List.set_cons_succ] at HG
  replace HK := gb_set (u := .int .u64 a1) HK 0
  generalize World.setCell (World.setCell wd1 ⟨g, 1, none⟩ (.int .u64 b1)) ⟨g, 0, none⟩ (.int .u64 a1) = ws1 at HG HK ⊢
  -- statement 2
  have ca := cell_of_row ws1 g 0 _ _ _ HG.out
  have cb := cell_of_row ws1 g 1 _ _ _ HG.out
  have cc := cell_of_row ws1 g 2 _ _ _ HG.out
  have cd := cell_of_row ws1 g 3 _ _ _ HG.out
  simp only [List.getElem?_toArray, List.getElem?_cons_zero, List.getElem?_cons_succ] at ca cb cc cd
  have ffc : ws1.frozen? ⟨g, 2, none⟩ = false := fz_of HG.out
  go_still_tail 11, (by kernel_rfl)
  change wpList _ _ _ _ _ (World.drew ws1)
  replace HG : Hid ((World.drew ws1).heap[g]? = some (.cells #[.int .u64 a1, .int .u64 b1, .int .u64 c, .int .u64 d, v, .int .i64 n] 82 (0, 0))) := HG
  replace HK : Hid (w0.grownBy (World.drew ws1) (some g)) := gb_drew HK
  replace ffc : (World.drew ws1).frozen? ⟨g, 2, none⟩ = false := ffc
  have cqc : (World.drew ws1).cell? ⟨g, 2, none⟩ = some (.int .u64 c) := cc
  clear ca cb cc cd
  generalize World.drew ws1 = wd2 at HG HK ffc cqc ⊢
  go_wp2
  clear ffc cqc
  obtain ⟨c2, Hc2⟩ : ∃ x_ : Int, Hid (x_ = IntKind.u64.wrap (c + d)) := ⟨_, rfl⟩
  rw [← Hc2.out]
  replace HG := st_blk (u := .int .u64 c2) HG 2
  simp only [List.setIfInBounds_toArray, List.set_cons_zero, List.set_cons_succ] at HG
  replace HK := gb_set (u := .int .u64 c2) HK 2
  generalize World.setCell wd2 ⟨g, 2, none⟩ (.int .u64 c2) = ws2 at HG HK ⊢
  -- statement 3
  have ca := cell_of_row ws2 g 0 _ _ _ HG.out
  have cb := cell_of_row ws2 g 1 _ _ _ HG.out
  have cc := cell_of_row ws2 g 2 _ _ _ HG.out
  have cd := cell_of_row ws2 g 3 _ _ _ HG.out
  simp only [List.getElem?_toArray, List.getElem?_cons_zero, List.getElem?_cons_succ] at ca cb cc cd
  have ffd : ws2.frozen? ⟨g, 3, none⟩ = false := fz_of HG.out
  go_still_tail 12, (by kernel_rfl)
  still_call (rot16 _ _)
  repeat still_step
  refine wpStill_nil ?_
  change wpList _ _ _ _ _ (World.drew ws2)
  replace HG : Hid ((World.drew ws2).heap[g]? = some (.cells #[.int .u64 a1, .int .u64 b1, .int .u64 c2, .int .u64 d, v, .int .i64 n] 82 (0, 0))) := HG
  replace HK : Hid (w0.grownBy (World.drew ws2) (some g)) := gb_drew HK
  replace ffd : (World.drew ws2).frozen? ⟨g, 3, none⟩ = false := ffd
  have cqd : (World.drew ws2).cell? ⟨g, 3, none⟩ = some (.int .u64 d) := cd
  clear ca cb cc cd
  generalize World.drew ws2 = wd3 at HG HK ffd cqd ⊢
  go_wp2
  clear ffd cqd
  obtain ⟨d3, Hd3⟩ : ∃ x_ : Int, Hid (x_ = Go.bits .xor .u64 (rot d 65536 281474976710656) c2) := ⟨_, rfl⟩
  rw [← Hd3.out]
  replace HG := st_blk (u := .int .u64 d3) HG 3
  simp only [List.setIfInBounds_toArray, List.set_cons_zero, List.set_cons_succ] at HG
  replace HK := gb_set (u := .int .u64 d3) HK 3
  generalize World.setCell wd3 ⟨g, 3, none⟩ (.int .u64 d3) = ws3 at HG HK ⊢
  -- statement 4
  have ca := cell_of_row ws3 g 0 _ _ _ HG.out
  have cb := cell_of_row ws3 g 1 _ _ _ HG.out
  have cc := cell_of_row ws3 g 2 _ _ _ HG.out
  have cd := cell_of_row ws3 g 3 _ _ _ HG.out
  simp only [List.getElem?_toArray, List.getElem?_cons_zero, List.getElem?_cons_succ] at ca cb cc cd
  have ffa : ws3.frozen? ⟨g, 0, none⟩ = false := fz_of HG.out
  go_still_tail 11, (by kernel_rfl)
  change wpList _ _ _ _ _ (World.drew ws3)
  replace HG : Hid ((World.drew ws3).heap[g]? = some (.cells #[.int .u64 a1, .int .u64 b1, .int .u64 c2, .int .u64 d3, v, .int .i64 n] 82 (0, 0))) := HG
  replace HK : Hid (w0.grownBy (World.drew ws3) (some g)) := gb_drew HK
  replace ffa : (World.drew ws3).frozen? ⟨g, 0, none⟩ = false := ffa
  have cqa : (World.drew ws3).cell? ⟨g, 0, none⟩ = some (.int .u64 a1) := ca
  clear ca cb cc cd
  generalize World.drew ws3 = wd4 at HG HK ffa cqa ⊢
  go_wp2
  clear ffa cqa
  obtain ⟨a4, Ha4⟩ : ∃ x_ : Int, Hid (x_ = IntKind.u64.wrap (a1 + d3)) := ⟨_, rfl⟩
  rw [← Ha4.out]
  replace HG := st_blk (u := .int .u64 a4) HG 0
  simp only [List.setIfInBounds_toArray, List.set_cons_zero, List.set_cons_succ] at HG
  replace HK := gb_set (u := .int .u64 a4) HK 0
  generalize World.setCell wd4 ⟨g, 0, none⟩ (.int .u64 a4) = ws4 at HG HK ⊢
  -- statement 5
  have ca := cell_of_row ws4 g 0 _ _ _ HG.out
  have cb := cell_of_row ws4 g 1 _ _ _ HG.out
  have cc := cell_of_row ws4 g 2 _ _ _ HG.out
  have cd := cell_of_row ws4 g 3 _ _ _ HG.out
  simp only [List.getElem?_toArray, List.getElem?_cons_zero, List.getElem?_cons_succ] at ca cb cc cd
  have ffd : ws4.frozen? ⟨g, 3, none⟩ = false := fz_of HG.out
  go_still_tail 12, (by kernel_rfl)
  still_call (rot21 _ _)
  repeat still_step
  refine wpStill_nil ?_
  change wpList _ _ _ _ _ (World.drew ws4)
  replace HG : Hid ((World.drew ws4).heap[g]? = some (.cells #[.int .u64 a4, .int .u64 b1, .int .u64 c2, .int .u64 d3, v, .int .i64 n] 82 (0, 0))) := HG
  replace HK : Hid (w0.grownBy (World.drew ws4) (some g)) := gb_drew HK
  replace ffd : (World.drew ws4).frozen? ⟨g, 3, none⟩ = false := ffd
  have cqd : (World.drew ws4).cell? ⟨g, 3, none⟩ = some (.int .u64 d3) := cd
  clear ca cb cc cd
  generalize World.drew ws4 = wd5 at HG HK ffd cqd ⊢
  go_wp2
  clear ffd cqd
  obtain ⟨d5, Hd5⟩ : ∃ x_ : Int, Hid (x_ = Go.bits .xor .u64 (rot d3 2097152 8796093022208) a4) := ⟨_, rfl⟩
  rw [← Hd5.out]
  replace HG := st_blk (u := .int .u64 d5) HG 3
  simp only [List.setIfInBounds_toArray, List.set_cons_zero, List.set_cons_succ] at HG
  replace HK := gb_set (u := .int .u64 d5) HK 3
  generalize World.setCell wd5 ⟨g, 3, none⟩ (.int .u64 d5) = ws5 at HG HK ⊢
  -- statement 6
  have ca := cell_of_row ws5 g 0 _ _ _ HG.out
  have cb := cell_of_row ws5 g 1 _ _ _ HG.out
  have cc := cell_of_row ws5 g 2 _ _ _ HG.out
  have cd := cell_of_row ws5 g 3 _ _ _ HG.out
  simp only [List.getElem?_toArray, List.getElem?_cons_zero, List.getElem?_cons_succ] at ca cb cc cd
  have ffc : ws5.frozen? ⟨g, 2, none⟩ = false := fz_of HG.out
  go_still_tail 11, (by kernel_rfl)
  change wpList _ _ _ _ _ (World.drew ws5)
  replace HG : Hid ((World.drew ws5).heap[g]? = some (.cells #[.int .u64 a4, .int .u64 b1, .int .u64 c2, .int .u64 d5, v, .int .i64 n] 82 (0, 0))) := HG
  replace HK : Hid (w0.grownBy (World.drew ws5) (some g)) := gb_drew HK
  replace ffc : (World.drew ws5).frozen? ⟨g, 2, none⟩ = false := ffc
  have cqc : (World.drew ws5).cell? ⟨g, 2, none⟩ = some (.int .u64 c2) := cc
  clear ca cb cc cd
  generalize World.drew ws5 = wd6 at HG HK ffc cqc ⊢
  go_wp2
  clear ffc cqc
  obtain ⟨c6, Hc6⟩ : ∃ x_ : Int, Hid (x_ = IntKind.u64.wrap (c2 + b1)) := ⟨_, rfl⟩
  rw [← Hc6.out]
  replace HG := st_blk (u := .int .u64 c6) HG 2
  simp only [List.setIfInBounds_toArray, List.set_cons_zero, List.set_cons_succ] at HG
  replace HK := gb_set (u := .int .u64 c6) HK 2
  generalize World.setCell wd6 ⟨g, 2, none⟩ (.int .u64 c6) = ws6 at HG HK ⊢
  -- statement 7
  have ca := cell_of_row ws6 g 0 _ _ _ HG.out
  have cb := cell_of_row ws6 g 1 _ _ _ HG.out
  have cc := cell_of_row ws6 g 2 _ _ _ HG.out
  have cd := cell_of_row ws6 g 3 _ _ _ HG.out
  simp only [List.getElem?_toArray, List.getElem?_cons_zero, List.getElem?_cons_succ] at ca cb cc cd
  have ffb : ws6.frozen? ⟨g, 1, none⟩ = false := fz_of HG.out
  have ffc : ws6.frozen? ⟨g, 2, none⟩ = false := fz_of HG.out
  go_still_tail 12, (by kernel_rfl)
  still_call (rot17 _ _)
  repeat still_step
  refine wpStill_nil ?_
  change wpList _ _ _ _ _ (World.drew ws6)
  replace HG : Hid ((World.drew ws6).heap[g]? = some (.cells #[.int .u64 a4, .int .u64 b1, .int .u64 c6, .int .u64 d5, v, .int .i64 n] 82 (0, 0))) := HG
  replace HK : Hid (w0.grownBy (World.drew ws6) (some g)) := gb_drew HK
  replace ffb : (World.drew ws6).frozen? ⟨g, 1, none⟩ = false := ffb
  have cqb : (World.drew ws6).cell? ⟨g, 1, none⟩ = some (.int .u64 b1) := cb
  replace ffc : (World.drew ws6).frozen? ⟨g, 2, none⟩ = false := ffc
  have cqc : (World.drew ws6).cell? ⟨g, 2, none⟩ = some (.int .u64 c6) := cc
  clear ca cb cc cd
  generalize World.drew ws6 = wd7 at HG HK ffb cqb ffc cqc ⊢
  go_wp2_with (go_at_call 62; refine (rot32 _ _).mono ?_; rintro e w1 ⟨rfl, rfl⟩)
  clear ffb cqb ffc cqc
  obtain ⟨b7, Hb7⟩ : ∃ x_ : Int, Hid (x_ = Go.bits .xor .u64 (rot b1 131072 140737488355328) c6) := ⟨_, rfl⟩
  replace HG := st_blk (u := .int .u64 b7) HG 1
  simp only [List.setIfInBounds_toArray, List.set_cons_zero, List.set_cons_succ] at HG
  replace HK := gb_set (u := .int .u64 b7) HK 1
  obtain ⟨c7, Hc7⟩ : ∃ x_ : Int, Hid (x_ = rot c6 4294967296 4294967296) := ⟨_, rfl⟩
  replace HG := st_blk (u := .int .u64 c7) HG 2
  simp only [List.setIfInBounds_toArray, List.set_cons_zero, List.set_cons_succ] at HG
  replace HK := gb_set (u := .int .u64 c7) HK 2
  refine bodyPost_end (results_none rfl _ _ _) rfl ⟨rfl, ?_, ?_⟩
  · rw [← Hb7.out, ← Hc7.out]
    have e : sipCells (sround ⟨a, b, c, d⟩) v n = #[.int .u64 a4, .int .u64 b7, .int .u64 c7, .int .u64 d5, v, .int .i64 n] := by
      rw [Hc7.out, Hb7.out, Hc6.out, Hd5.out, Ha4.out, Hd3.out, Hc2.out, Ha1.out, Hb1.out, Ha0.out]
      rfl
    rw [e]
    exact HG.out
  · rw [← Hb7.out, ← Hc7.out]
    exact HK.out

end Go.Proofs.YtbcmmmcbineipaaDoor
