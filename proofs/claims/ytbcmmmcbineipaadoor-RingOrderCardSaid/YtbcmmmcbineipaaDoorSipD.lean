/- The siphash part: what the state's write does. -/
import Derived.Test.YtbcmmmcbineipaaDoorSipC
set_option linter.unusedVariables false
set_option linter.unusedSimpArgs false
namespace Go.Proofs.YtbcmmmcbineipaaDoor
open Go.RowKit Go.Proofs.YtbcmmmcbineipaaDoorW.PrintWords Go.Proofs.YtbcmmmcbineipaaDoorW.PrintLast Go.Proofs.YtbcmmmcbineipaaDoorW.PrintMore
open Go.Proofs.YtbcmmmcbineipaaDoor.PR

/-- The word of the first eight bytes. -/
def sword (xs : List Int) : Int := (siphash_word.f 9 xs).getD 0
theorem sword_total (xs : List Int) (h : 8 ≤ xs.length) (d : Nat) : ∀ (x i : Int), 0 ≤ i → i + d = 8 → ∃ r, siphash_word.l0 (d + 1) xs x i = some r := by
  induction d with
  | zero =>
    intro x i h0 hd
    exact ⟨x, by simp only [siphash_word.l0]; rw [if_neg (by omega)]⟩
  | succ d ih =>
    intro x i h0 hd
    have e1 : wrap64 (i + 1) = i + 1 := by unfold wrap64; omega
    have e2 : 0 ≤ wrap64 (8 * i) := by unfold wrap64; omega
    obtain ⟨r, hr⟩ := ih (Go.bits .or .u64 x (shl .u64 (IntKind.u64.wrap (rd xs i)) (wrap64 (8 * i)))) (i + 1) (by omega) (by omega)
    refine ⟨r, ?_⟩
    rw [siphash_word.l0, if_pos (by omega), if_pos h0, if_pos (by omega), if_pos e2, e1]
    exact hr
theorem sword_some (xs : List Int) (h : 8 ≤ xs.length) : siphash_word.f 9 xs = some (sword xs) := by
  obtain ⟨r, hr⟩ := sword_total xs h 8 0 0 (by omega) (by omega)
  have : siphash_word.f 9 xs = some r := hr
  rw [sword, this]
  rfl
def absorb (s : Sip) (xs : List Int) : Sip × List Int :=
  if h : 8 ≤ xs.length then absorb (stake s (sword xs)) (xs.drop 8) else (s, xs)
termination_by xs.length
decreasing_by simp; omega
theorem absorb_step (s : Sip) (xs : List Int) (h : 8 ≤ xs.length) : absorb s xs = absorb (stake s (sword xs)) (xs.drop 8) := by
  rw [absorb, dif_pos h]
theorem absorb_end (s : Sip) (xs : List Int) (h : ¬ 8 ≤ xs.length) : absorb s xs = (s, xs) := by
  rw [absorb, dif_neg h]
theorem q_block_ne {w : World} {base g n : Nat} {v : Value} {xs : List Value} {cs : Array Value} (h : QRow w base 5 1 v n xs) (hg : w.heap[g]? = some (.cells cs 82 (0, 0))) : some g ≠ v.ownBlock := by
  intro e
  obtain ⟨_, cells, hc⟩ := q_typed h g e.symm
  rw [hg] at hc
  simp at hc
theorem q_reads {w : World} {base n : Nat} {v : Value} {xs : List Int} (h : QRow w base 5 1 v n (nums .u8 xs)) : ∃ A c, v = .slice A xs.length c ∧ xs.length = n ∧ n ≤ c ∧ n ≤ 9223372036854775807 ∧ Kd.C (Kd.int .u8) w A xs.length xs := by
  obtain ⟨A, c, rfl, hc⟩ := q_slice h
  have hl : xs.length = n := by have := h.1; simp [nums] at this; exact this
  refine ⟨A, c, by rw [hl], hl, hc, q_max h, ?_⟩
  refine Kd.C_of_reads (d := (0 : Int)) ?_
  rw [hl]
  refine ⟨hl, q_max h, fun hp => ?_⟩
  obtain ⟨ad, he, hcc⟩ := q_cells h hp
  refine ⟨ad, he, fun j hj => hcc j _ ?_⟩
  simp [nums, List.getElem?_eq_getElem (show j < xs.length by omega), List.getD_eq_getElem?_getD]

theorem q_drop8 {w : World} {base d : Nat} {A : Option Addr} {ys : List Int} (h : QRow w base 5 1 (.slice A ys.length d) ys.length (nums .u8 ys)) (h8 : 8 ≤ ys.length) :
    ∃ A', (∀ W : World, (Instr.slice 37 (.slice A ys.length d) (some (.int .i64 8)) none none).run Tryd.prog W = .ok (.slice A' (ys.drop 8).length (d - 8)) W) ∧
      QRow w base 5 1 (.slice A' (ys.drop 8).length (d - 8)) (ys.drop 8).length (nums .u8 (ys.drop 8)) := by
  have hinfo : (Tryd.prog.info? 5).map (fun i => (i.zero, i.size, i.bytes)) = some (some (.int .u8 0), 1, 1) := by kernel_rfl
  obtain ⟨i, hi, hzz⟩ := Option.map_eq_some_iff.1 hinfo
  simp only [Prod.mk.injEq] at hzz
  obtain ⟨hz0, hz1, hz2⟩ := hzz
  have h1 := cut_from (P := Tryd.prog) 37 5 .i64 Tryd.underlying37 hi 1 hz1 A ys.length d 8 (by omega) (by omega)
  have h2 := q_drop (k := 8) h h8
  have hl : (ys.drop 8).length = ys.length - 8 := List.length_drop
  have hn : (nums .u8 ys).drop (8 * 1) = nums .u8 (ys.drop 8) := by simp [nums, List.map_drop]
  rw [hn] at h2
  refine ⟨if d = 8 then A else A.map (·.add 8), fun W => ?_, ?_⟩
  · rw [hl]; exact h1 W
  · rw [hl]; exact h2

set_option maxHeartbeats 4000000 in
set_option maxRecDepth 100000 in
theorem swrite_calls (g : Nat) (s : Sip) (v : Value) (n : Int) (xs : List Int) (t : ByteArray) (w0 : World) (hg : w0.heap[g]? = some (.cells (sipCells s v n) 82 (0, 0)))
    (hq : QRow w0 g 5 1 v xs.length (nums .u8 xs)) (h0 : 0 ≤ n) (hn : n + t.size ≤ 4611686018427387904) (hb : xs.length + t.size ≤ 140737488355328) :
    Calls Tryd.prog 32 #[.pointer (some ⟨g, 0, none⟩), .string t] w0 fun e w' => e = .returned (.tuple #[]) ∧ (∃ v', w'.heap[g]? = some (.cells (sipCells (absorb s (xs ++ bytesOf t)).1 v' (n + t.size)) 82 (0, 0)) ∧ QRow w' g 5 1 v' (absorb s (xs ++ bytesOf t)).2.length (nums .u8 (absorb s (xs ++ bytesOf t)).2)) ∧ Below g w0 w' := by
  obtain ⟨A, c, rfl, hxl, hnc, hmx, hC⟩ := q_reads hq
  have HG : Hid (w0.heap[g]? = some (.cells (sipCells s (.slice A xs.length c) n) 82 (0, 0))) := hg
  have HQ := Lib.hid hq
  have hgl : g ≤ w0.heap.size := Nat.le_of_lt (Array.getElem?_eq_some_iff.1 hg).1
  have HNE := Lib.hid (q_block_ne hq hg)
  clear hg hq hxl hC
  have hinfo : (Tryd.prog.info? 5).map (fun i => (i.zero, i.size, i.bytes)) = some (some (.int .u8 0), 1, 1) := by kernel_rfl
  have HI := Lib.hid hinfo
  clear hinfo
  have c5 := (sip_cell HG.out).2.2.2.2.2
  have f5 : w0.frozen? ⟨g, 5, none⟩ = false := fz_of HG
  have c4 := (sip_cell HG.out).2.2.2.2.1
  have f4 : w0.frozen? ⟨g, 4, none⟩ = false := fz_of HG
  obtain ⟨ys0, Hys⟩ : ∃ ys : List Int, Hid (ys = xs ++ bytesOf t) := ⟨_, rfl⟩
  have HG5 := st_blk (u := .int .i64 (n + t.size)) HG 5
  have HQ5 : Hid (QRow (w0.setCell ⟨g, 5, none⟩ (.int .i64 (n + t.size))) g 5 1 (.slice A xs.length c) xs.length (nums .u8 xs)) := q_move HQ.out (fun k hk => Below.heap_setCell _ _ _ _ (fun e => HNE.out (by rw [hk, e])))
  have hgl5 : g ≤ (w0.setCell ⟨g, 5, none⟩ (.int .i64 (n + t.size))).heap.size := by simp only [World.setCell, Array.size_modify]; exact hgl
  have HB5 := Lib.hid ((Below.refl g w0).setCell (p := ⟨g, 5, none⟩) (Nat.le_refl g) (.int .i64 (n + t.size)))
  go_enter Tryd.func32, Tryd.ntmps32
  go_wp2_with (at_builtin; refine wpList_q_append_str rfl (.tmp 17) (.tmp 18) 37 9 rfl g 5 Tryd.underlying37 Tryd.underlying9 HI.out _ xs rfl HQ5.out t rfl hb hgl5 ?_; intro v1 w1 hq1 hg1; rw [← Hys.out] at hq1; obtain ⟨A1, d1, rfl, hxl1, hnc1, hmx1, hC1⟩ := q_reads hq1; clear hxl1 hC1; have HNE1 := Lib.hid (q_block_ne hq1 ((hg1.block g (Array.getElem?_eq_some_iff.1 HG5.out).1 HNE.out).trans HG5.out)); have HQ1 := Lib.hid hq1; have HG1 : Hid (w1.heap[g]? = some (.cells (sipCells s (.slice A xs.length c) (n + t.size)) 82 (0, 0))) := (hg1.block g (Array.getElem?_eq_some_iff.1 HG5.out).1 HNE.out).trans HG5.out; have HB1 := Lib.hid (HB5.out.grown hg1 hgl5 (fun k hk => (q_typed HQ5.out k hk).1)); clear hq1 hg1 c5 f5 c4 f4; have c4 := (sip_cell HG1.out).2.2.2.2.1; have f4 : w1.frozen? ⟨g, 4, none⟩ = false := fz_of HG1)
  clear c4 f4
  replace HG1 := st_blk (u := .slice A1 ys0.length d1) HG1 4
  replace HG1 : Hid ((w1.setCell ⟨g, 4, none⟩ (.slice A1 ys0.length d1)).heap[g]? = some (.cells (sipCells s (.slice A1 ys0.length d1) (n + t.size)) 82 (0, 0))) := HG1
  replace HQ1 : Hid (QRow (w1.setCell ⟨g, 4, none⟩ (.slice A1 ys0.length d1)) g 5 1 (.slice A1 ys0.length d1) ys0.length (nums .u8 ys0)) := q_move HQ1.out (fun k hk => Below.heap_setCell _ _ _ _ (fun e => HNE1.out (by rw [hk, e])))
  replace HB1 := Lib.hid (HB1.out.setCell (p := ⟨g, 4, none⟩) (Nat.le_refl g) (.slice A1 ys0.length d1))
  generalize w1.setCell ⟨g, 4, none⟩ (.slice A1 ys0.length d1) = w2 at HG1 HQ1 HB1 ⊢
  go_loopg [] (ys0.length) (fun kq wr => ∃ (s1 : Sip) (ys : List Int) (A2 : Option Addr) (d2 : Nat), Hid (ys.length = kq) ∧ Hid (wr.heap[g]? = some (.cells (sipCells s1 (.slice A2 ys.length d2) (n + t.size)) 82 (0, 0))) ∧ Hid (QRow wr g 5 1 (.slice A2 ys.length d2) ys.length (nums .u8 ys)) ∧ Hid (Below g w0 wr) ∧ Hid (absorb s ys0 = absorb s1 ys))
  case atStart => exact ⟨s, ys0, A1, d1, rfl, HG1, HQ1, HB1, rfl⟩
  case round =>
    obtain ⟨s1, ys, A2, d2, HL, HG2, HQ2, HB2, HA2⟩ := hrel
    have c4 := (sip_cell HG2.out).2.2.2.2.1
    have hmx2 := q_max HQ2.out
    by_cases h8 : 8 ≤ ys.length
    · obtain ⟨A3, d3, e3, hl3, hd3, hm3, hC3⟩ := q_reads HQ2.out
      obtain ⟨rfl, rfl⟩ : A2 = A3 ∧ d2 = d3 := by injection e3 with e1 e2 e3; exact ⟨e1, e3⟩
      have HC3 := Lib.hid hC3
      clear hC3 e3 hl3
      have hge : decide (8 ≤ ys.length) = true := decide_eq_true h8
      go_wp2_with (first | (go_at_call 31; refine (siphash_word.calls 9 A2 d2 ys (sword ys) _ HC3.out hd3 (sword_some ys h8)).mono ?_; rintro e w3 ⟨rfl, ⟨⟨nq, rfl⟩⟩⟩))
      refine (stake_calls g s1 (sword ys) _ _ _ (blk_drewN HG2.out nq)).mono ?_
      rintro e w4 ⟨rfl, hg4, hk4⟩
      have HN2 := Lib.hid (q_block_ne HQ2.out HG2.out)
      have HQ4 : Hid (QRow w4 g 5 1 (.slice A2 ys.length d2) ys.length (nums .u8 ys)) := q_move HQ2.out (fun k hk => (hk4.block k (q_lt HQ2.out k hk) (fun e => HN2.out (by rw [hk, ← e]))))
      have HG4 := Lib.hid hg4
      have HB4 : Hid (Below g w0 w4) := (HB2.out.trans ((Below.refl g wr).grown (row := some g) ⟨hk4.os, hk4.tape, hk4.output, hk4.size, hk4.block⟩ (Nat.le_of_lt (Array.getElem?_eq_some_iff.1 HG2.out).1) (fun k hk => by injection hk with hk; omega)))
      clear hg4 hk4 c4
      have c4 := (sip_cell HG4.out).2.2.2.2.1
      have f4 : w4.frozen? ⟨g, 4, none⟩ = false := fz_of HG4
      obtain ⟨A5, hcut, hq5⟩ := q_drop8 HQ4.out h8
      have HQ5' := Lib.hid hq5
      clear hq5
      obtain ⟨zs, Hzs⟩ : ∃ zs : List Int, Hid (zs = ys.drop 8) := ⟨_, rfl⟩
      rw [← Hzs.out] at hcut HQ5'
      go_wp2
      have HN5 := Lib.hid (q_block_ne HQ5'.out HG4.out)
      go_roundg zs.length
      case rel =>
        refine ⟨stake s1 (sword ys), zs, A5, d2 - 8, rfl, (st_blk HG4 4 : _), q_move HQ5'.out (fun k hk => Below.heap_setCell _ _ _ _ (fun e => HN5.out (by rw [hk, e]))), HB4.out.setCell (p := ⟨g, 4, none⟩) (Nat.le_refl g) _, ?_⟩
        rw [HA2.out, absorb_step _ _ h8, Hzs.out]
        exact rfl
      case measure => have := HL.out; have h := Hzs.out; rw [h]; simp; omega
    · have hge : decide (8 ≤ ys.length) = false := decide_eq_false h8
      go_wp2
      refine bodyPost_end (results_none rfl _ _ _) rfl ⟨rfl, ⟨.slice A2 ys.length d2, ?_, ?_⟩, HB2.out⟩
      · rw [← Hys.out, HA2.out, absorb_end _ _ h8]
        exact HG2.out
      · rw [← Hys.out, HA2.out, absorb_end _ _ h8]
        exact HQ2.out
end Go.Proofs.YtbcmmmcbineipaaDoor
