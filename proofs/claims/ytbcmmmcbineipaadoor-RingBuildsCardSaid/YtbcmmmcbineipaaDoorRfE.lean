/- The reference's ring: the walk. -/
import Derived.Test.YtbcmmmcbineipaaDoorRfD
import Derived.Laws.OwnMore
import Derived.WalkLawsBesides
import Derived.Deep.DeepCutAuto
set_option linter.unusedVariables false
set_option linter.unusedSimpArgs false
namespace Go.Proofs.YtbcmmmcbineipaaDoor
open Go.RowKit Go.Proofs.YtbcmmmcbineipaaDoorW.PrintWords Go.Proofs.YtbcmmmcbineipaaDoorW.PrintLast Go.Proofs.YtbcmmmcbineipaaDoorW.PrintMore
open Go.Proofs.YtbcmmmcbineipaaDoor.PR

theorem bytesOf_append (a b : ByteArray) : bytesOf (a ++ b) = bytesOf a ++ bytesOf b := by
  unfold bytesOf
  rw [ByteArray.data_append, Array.toList_append, List.map_append]
def PtAt (wr : World) (x : S46) (v : Value) (P : S67) (wx : World) : Prop :=
  ∃ gP : Nat, v = .pointer (some ⟨gP, 0, none⟩) ∧ wr.heap.size ≤ gP ∧ Hid (wx.heap[gP]? = some (.cells #[.int .u64 P.f0, .string P.f1] 41 (0, 0))) ∧ Hid (Below wr.heap.size wr wx)
theorem cell_set2 {W : World} {g g' o : Nat} {u v : Value} (h : g ≠ g') : ((W.setCell ⟨g', 0, none⟩ u).setCell ⟨g', 1, none⟩ v).cell? ⟨g, o, none⟩ = W.cell? ⟨g, o, none⟩ := by
  have e : ∀ (W : World) (j : Nat) (u : Value), (W.setCell ⟨g', j, none⟩ u).cell? ⟨g, o, none⟩ = W.cell? ⟨g, o, none⟩ := fun W j u => by
    unfold World.cell?
    rw [heap_setCell_other W ⟨g', j, none⟩ g u h]
  rw [e, e]
theorem ptC {wr wa wb : World} {x : S46} {P : S67} (hP : Hid (P.f1 = x.f0)) (hba : Below wr.drew.heap.size wr.drew wa) (hbb : Below wa.heap.size wa wb) :
    PtAt wr x (.pointer (some ⟨wb.heap.size, 0, none⟩)) P (wb.alloc (.cells #[.int .u64 P.f0, .string x.f0] 41)) := by
  have h1 : Below wr.heap.size wr wa := (Below.refl wr.heap.size wr).drew.trans hba
  have h2 : Below wr.heap.size wr wb := h1.trans (hbb.mono h1.size)
  refine ⟨_, rfl, h2.size, ?_, below_alloc h2 _⟩
  rw [hP.out]
  exact blk_new _ _
theorem pt_store {wb : World} {g : Nat} {x : S46} {P : S67} (hP : Hid (P.f1 = x.f0)) (h : Hid (wb.heap[g]? = some (.cells #[.int .u64 0, .string ⟨#[]⟩] 41 (0, 0)))) :
    Hid (((wb.setCell ⟨g, 0, none⟩ (.int .u64 P.f0)).setCell ⟨g, 1, none⟩ (.string x.f0)).heap[g]? = some (.cells #[.int .u64 P.f0, .string P.f1] 41 (0, 0))) := by
  rw [hP.out]
  exact st_blk (st_blk h 0) 1
theorem ptB {wr wa wb : World} {x : S46} {P : S67} (hP : Hid (P.f1 = x.f0)) (hba : Below wr.drew.heap.size wr.drew wa) (hbb : Below (wa.alloc (.cells #[.int .u64 0, .string ⟨#[]⟩] 41)).heap.size (wa.alloc (.cells #[.int .u64 0, .string ⟨#[]⟩] 41)) wb) :
    PtAt wr x (.pointer (some ⟨wa.heap.size, 0, none⟩)) P ((wb.setCell ⟨wa.heap.size, 0, none⟩ (.int .u64 P.f0)).setCell ⟨wa.heap.size, 1, none⟩ (.string x.f0)) := by
  have h1 : Below wr.heap.size wr wa := (Below.refl wr.heap.size wr).drew.trans hba
  have h1' := below_alloc h1 (.cells #[.int .u64 0, .string ⟨#[]⟩] 41)
  have h2 : Below wr.heap.size wr wb := h1'.trans (hbb.mono h1'.size)
  exact ⟨_, rfl, h1.size, pt_store hP (blk_below (blk_new _ _) hbb), (h2.setCell (p := ⟨wa.heap.size, 0, none⟩) h1.size _).setCell (p := ⟨wa.heap.size, 1, none⟩) h1.size _⟩
theorem ptA {wr wa wb : World} {x : S46} {P : S67} (hP : Hid (P.f1 = x.f0)) (hba : Below ((wr.alloc (.cells #[.int .u64 0, .string ⟨#[]⟩] 41)).drew).heap.size ((wr.alloc (.cells #[.int .u64 0, .string ⟨#[]⟩] 41)).drew) wa) (hbb : Below wa.heap.size wa wb) :
    PtAt wr x (.pointer (some ⟨wr.heap.size, 0, none⟩)) P ((wb.setCell ⟨wr.heap.size, 0, none⟩ (.int .u64 P.f0)).setCell ⟨wr.heap.size, 1, none⟩ (.string x.f0)) := by
  have h1' := (below_alloc (Below.refl wr.heap.size wr) (.cells #[.int .u64 0, .string ⟨#[]⟩] 41)).drew
  have h1 : Below wr.heap.size wr wa := h1'.trans (hba.mono h1'.size)
  have h2 : Below wr.heap.size wr wb := h1.trans (hbb.mono h1.size)
  exact ⟨_, rfl, Nat.le_refl _, pt_store hP (blk_below (blk_below (blk_drew (blk_new _ _)) hba) hbb), (h2.setCell (p := ⟨wr.heap.size, 0, none⟩) (Nat.le_refl _) _).setCell (p := ⟨wr.heap.size, 1, none⟩) (Nat.le_refl _) _⟩
/-- The insertion under way: the hole stands at k. -/
def InsRel (w0 : World) (gg N cap gP gE : Nat) (L : List S67) (P : S67) (x : S46) (v : Value) (wr : World) : Prop :=
  ∃ (k : Nat) (h : S67), k ≤ L.length ∧ v = .int .i64 k ∧ Hid (wr.ownsRow w0.heap.size 41 2 (.slice (some ⟨gg, 0, none⟩) N cap) N (flat (insAt L k h))) ∧ Hid (∀ (q : Nat) (hq : q < L.length), k ≤ q → ltP P L[q]) ∧
    Hid (wr.heap[gP]? = some (.cells #[.int .u64 P.f0, .string P.f1] 41 (0, 0))) ∧ Hid (wr.heap[gE]? = some (.cells #[.string x.f0, .int .i64 x.f1] 46 (0, 0))) ∧ Hid (Below w0.heap.size w0 wr)
theorem ins_fin {w : World} {base gg n cap K j : Nat} {L R R' : List S67} {P h : S67} {kb : List Int} {x : S46} (HL : L = ptSort R') (HR' : R' = R ++ (List.range j).map (ptOf kb x)) (HP : P = ptOf kb x j) (hn : n = L.length) (hK : K ≤ L.length)
    (HGT : ∀ (q : Nat) (hq : q < L.length), K ≤ q → ltP P L[q]) (HX : ∀ hk0 : 0 < K, ¬ ltP P (L[K - 1]'(by omega))) (HO : w.ownsRow base 41 2 (.slice (some ⟨gg, 0, none⟩) (n + 1) cap) (n + 1) (flat (insAt L K h))) :
    ((w.setCell ⟨gg, K * 2, none⟩ (.int .u64 P.f0)).setCell ⟨gg, K * 2 + 1, none⟩ (.string P.f1)).ownsRow base 41 2 (.slice (some ⟨gg, 0, none⟩) (n + 1) cap) (ptSort (R ++ (List.range (j + 1)).map (ptOf kb x))).length (flat (ptSort (R ++ (List.range (j + 1)).map (ptOf kb x)))) ∧
      w.grownBy ((w.setCell ⟨gg, K * 2, none⟩ (.int .u64 P.f0)).setCell ⟨gg, K * 2 + 1, none⟩ (.string P.f1)) (some gg) := by
  obtain ⟨h1, h2⟩ := row_set HO K (by rw [insAt_length]; omega) P
  refine ⟨?_, h2⟩
  subst HL
  rw [insAt_set _ _ _ _ hK, ins_eq R' P K hK HGT HX] at h1
  have e : R' ++ [P] = R ++ (List.range (j + 1)).map (ptOf kb x) := by
    rw [HR', HP, List.append_assoc, List.range_succ, List.map_append]
    rfl
  have el : n + 1 = (ptSort (R' ++ [P])).length := by rw [(ptSort_perm _).length_eq, List.length_append, hn, (ptSort_perm _).length_eq]; rfl
  rw [e] at h1 el
  rw [← el]
  exact h1
theorem lt_tri_eq {a b : List UInt8} (h1 : ¬ a < b) (h2 : ¬ b < a) : a = b := List.le_antisymm (List.not_lt.1 h2) (List.not_lt.1 h1)
theorem ptSort_nil : ptSort [] = [] := by simp [ptSort]
set_option maxHeartbeats 1000000 in
set_option maxRecDepth 100000 in
theorem rbuild_calls (key : ByteArray) (A : Option Addr) (c : Nat) (l : List S46) (per : Int) (w0 : World) (hkb : key.size = 16) (hr : Kd.C k46 w0 A l.length l) (hc : l.length ≤ c) (hl : l.length ≤ 6) (hs : ∀ e ∈ l, e.f0.size ≤ 1000) (hper : per ≤ 99) (hw : ∀ e ∈ l, 1 ≤ e.f1 ∧ e.f1 ≤ 65535) :
    Calls Tryd.prog 13 #[.string key, .slice A l.length c, .int .i64 per] w0 fun e w' => (∃ v, e = .returned v ∧ w'.ownsRow w0.heap.size 41 2 v (ptSort (rawPts (bytesOf key) per l)).length (flat (ptSort (rawPts (bytesOf key) per l)))) ∧ Below w0.heap.size w0 w' := by
  have HR := Lib.hid hr
  have HS := Lib.hid hs
  have HW := Lib.hid hw
  have HKB := Lib.hid hkb
  clear hw hr hs hkb
  obtain ⟨p, Hp⟩ : ∃ p : Int, Hid (p = perOf per) := ⟨_, rfl⟩
  have hp1 : 1 ≤ p ∧ p ≤ 99 := by rw [Hp.out]; unfold perOf; omega
  have hp2 : max 1 (min per 256) = p := Hp.out.symm
  obtain ⟨kb, Hkb⟩ : ∃ kb : List Int, Hid (kb = bytesOf key) := ⟨_, rfl⟩
  rw [← Hkb.out]
  go_enter Tryd.func13, Tryd.ntmps13
  go_wp2_with fail
  go_loopw [8, 22] (fun gv i wr => ∃ k : Nat, k ≤ l.length ∧ i = .int .i64 k ∧ gv = .int .i64 (greatest (l.take k)) ∧ Hid (Below w0.heap.size w0 wr)) (fun _ i _ => l.length - (intOf i).toNat)
  case atStart => exact ⟨0, Nat.zero_le _, rfl, rfl, Below.refl _ _⟩
  case round =>
    obtain ⟨k, hk, rfl, rfl, HB3⟩ := hrel
    by_cases hlt : k < l.length
    · obtain ⟨ad, rfl, hc0, hc1⟩ := e46_at (Kd.C_below HR.out HB3.out) k hlt
      obtain ⟨x, Hx⟩ : ∃ x : S46, Hid (x = l[k]) := ⟨l[k], rfl⟩
      rw [← Hx.out] at hc0 hc1
      have hg := greatest_succ l k hlt
      rw [← Hx.out] at hg
      obtain ⟨G, HG⟩ : ∃ G : Int, Hid (G = greatest (l.take k)) := ⟨_, rfl⟩
      rw [← HG.out] at hg ⊢
      obtain ⟨G2, HG2⟩ : ∃ G2 : Int, Hid (G2 = greatest (l.take (k + 1))) := ⟨_, rfl⟩
      rw [← HG2.out] at hg
      have hg' : max G x.f1 = G2 := hg.symm
      clear hg
      go_wp2_with fail
      go_roundw
      case rel => exact ⟨k + 1, by omega, by go_num, by rw [← HG2.out], HB3.out.alloc HB3.out.size _⟩
      case measure => simp [intOf]; omega
    · obtain rfl : k = l.length := by omega
      rw [List.take_length]
      obtain ⟨G, HG⟩ : ∃ G : Int, Hid (G = greatest l) := ⟨_, rfl⟩
      rw [← HG.out]
      have hG1 : 1 ≤ G := by rw [HG.out]; exact greatest_pos l 1 (Int.le_refl _)
      have HGE : Hid (∀ e ∈ l, e.f1 ≤ G) := fun e he => by rw [HG.out]; exact (greatest_ge l 1).2 e he
      have HO4 : Hid ((wr.alloc (.cells #[] 41)).ownsRow w0.heap.size 41 2 (.slice (some ⟨wr.heap.size, 0, none⟩) 0 0) 0 (flat [])) := World.ownsRow_lit (base := w0.heap.size) (e := 41) (size := 2) wr #[] 0 HB3.out.size (by unfold maxLen; omega) (by simp)
      have HB4 := Lib.hid (HB3.out.alloc HB3.out.size (Obj.cells #[] 41))
      clear HB3 hlt
      go_wp2_with fail
      generalize wr.alloc (Obj.cells #[] 41) = w4 at HO4 HB4 ⊢
      go_loopw [11, 34] (fun v i wr => ∃ k : Nat, k ≤ l.length ∧ i = .int .i64 k ∧ Hid (wr.ownsRow w0.heap.size 41 2 v (ptSort ((l.take k).flatMap (ptsOf kb p G))).length (flat (ptSort ((l.take k).flatMap (ptsOf kb p G))))) ∧ ((l.take k).flatMap (ptsOf kb p G)).length ≤ k * 99 ∧ Hid (Below w0.heap.size w0 wr)) (fun _ i _ => l.length - (intOf i).toNat)
      case atStart => exact ⟨0, Nat.zero_le _, rfl, (by rw [List.take_zero, List.flatMap_nil, ptSort_nil]; exact HO4), Nat.zero_le _, HB4⟩
      case round =>
        obtain ⟨k, hk, rfl, HO5, hn5, HB5⟩ := hrel
        by_cases hlt : k < l.length
        · obtain ⟨ad, rfl, hc0, hc1⟩ := e46_at (Kd.C_below HR.out HB5.out) k hlt
          obtain ⟨x, Hx⟩ : ∃ x : S46, Hid (x = l[k]) := ⟨l[k], rfl⟩
          rw [← Hx.out] at hc0 hc1
          have hxm : x ∈ l := by rw [Hx.out]; exact List.getElem_mem hlt
          have hx1 := HW.out x hxm
          have hxg := HGE.out x hxm
          have hcnt := cnt_le p G x hp1.1 hx1.1 hxg
          obtain ⟨cn, Hcn⟩ : ∃ cn : Nat, Hid (cn = cntOf p G x) := ⟨_, rfl⟩
          rw [← Hcn.out] at hcnt
          have hm0 : 0 ≤ p * x.f1 := Int.mul_nonneg (by omega) (by omega)
          have hm1 : p * x.f1 ≤ 99 * 65535 := Int.mul_le_mul hp1.2 hx1.2 (by omega) (by omega)
          have hmul : IntKind.i64.wrap (p * x.f1) = p * x.f1 := by unfold IntKind.wrap; simp [IntKind.bits, IntKind.signed]; omega
          have hG0 : ¬ G = 0 := by omega
          obtain ⟨q, Hq⟩ : ∃ q : Int, Hid (q = (p * x.f1) / G) := ⟨_, rfl⟩
          have hq1 : (p * x.f1) / G = q := Hq.out.symm
          have hq2 : (p * x.f1).tdiv G = q := by rw [Int.tdiv_eq_ediv_of_nonneg hm0]; exact hq1
          have hq0 : 0 ≤ q ∧ q ≤ 99 * 65535 := by
            rw [← hq1]
            exact ⟨Int.ediv_nonneg hm0 (by omega), Int.le_trans (Int.ediv_le_self _ hm0) hm1⟩
          have hqw : IntKind.i64.wrap q = q := by unfold IntKind.wrap; simp [IntKind.bits, IntKind.signed]; omega
          have hN : max 1 q = (cn : Int) := by rw [Hcn.out, ← hq1]; unfold cntOf; omega
          have HM := Lib.hid (And.intro hmul (And.intro hG0 (And.intro hq2 (And.intro hqw hN))))
          clear hmul hG0 hq2 hqw hN hq1 hq0 Hq hm0 hm1
          go_wp2_with fail
          obtain ⟨gE, HgE⟩ : ∃ gE : Nat, Hid (gE = wr.heap.size) := ⟨_, rfl⟩
          have hbE : Hid ((wr.alloc (Obj.cells #[Value.string x.f0, Value.int IntKind.i64 x.f1] 46)).heap[gE]? = some (.cells #[Value.string x.f0, Value.int IntKind.i64 x.f1] 46 (0, 0))) := by rw [HgE.out]; exact blk_new _ _
          have HO6 := Lib.hid (HO5.out.alloc (Obj.cells #[Value.string x.f0, Value.int IntKind.i64 x.f1] 46))
          have HB6 := Lib.hid (HB5.out.alloc HB5.out.size (Obj.cells #[Value.string x.f0, Value.int IntKind.i64 x.f1] 46))
          rw [← HgE.out]
          generalize wr.alloc (Obj.cells #[Value.string x.f0, Value.int IntKind.i64 x.f1] 46) = w6 at hbE HO6 HB6 ⊢
          clear HO5 HB5 HgE
          obtain ⟨R, HR6⟩ : ∃ R : List S67, Hid (R = (l.take k).flatMap (ptsOf kb p G)) := ⟨_, rfl⟩
          rw [← HR6.out] at HO6 hn5
          go_loopw [11, 14] (fun v i wr => ∃ j : Nat, j ≤ cn ∧ i = .int .i64 j ∧ Hid (wr.ownsRow w0.heap.size 41 2 v (ptSort (R ++ (List.range j).map (ptOf kb x))).length (flat (ptSort (R ++ (List.range j).map (ptOf kb x))))) ∧ Hid (wr.heap[gE]? = some (.cells #[Value.string x.f0, Value.int IntKind.i64 x.f1] 46 (0, 0))) ∧ Hid (Below w0.heap.size w0 wr)) (fun _ i _ => cn - (intOf i).toNat)
          case atStart => exact ⟨0, Nat.zero_le _, rfl, by simpa using HO6, hbE, HB6⟩
          case round =>
            obtain ⟨j, hj, rfl, HO7, HE7, HB7⟩ := hrel
            obtain ⟨hmul, hG0, hq2, hqw, hN⟩ := HM.out
            have cE0 := blk_cell HE7.out 0
            have cE1 := blk_cell HE7.out 1
            simp only [List.getElem?_toArray, List.getElem?_cons_zero, List.getElem?_cons_succ] at cE0 cE1
            by_cases hlj : j < cn
            · obtain ⟨d, Hd⟩ : ∃ d : ByteArray, Hid (d = digs j) := ⟨_, rfl⟩
              have hdig := fun w => print_calls j (by omega) w
              have hdl : d.size ≤ 2 := by rw [Hd.out]; exact decDigits_small j (by omega)
              have HDI : Hid (∀ w, Calls Tryd.prog 28 #[.int .i64 j, .int .i64 10] w fun e w' => e = .returned (.string d) ∧ Below w.heap.size w w') := by rw [Hd.out]; exact hdig
              have hx1000 := HS.out x hxm
              have z1 := fun w => run_string_add_sum (P := Tryd.prog) (w := w) x.f0 ⟨#[35]⟩ (by show _ + 1 ≤ _; omega)
              have z2 := fun w => run_string_add_sum (P := Tryd.prog) (w := w) (x.f0 ++ ⟨#[35]⟩) d (by rw [ByteArray.size_append]; show _ + 1 + _ ≤ _; omega)
              clear hdig
              obtain ⟨P, HP⟩ : ∃ P : S67, Hid (P = ptOf kb x j) := ⟨ptOf kb x j, rfl⟩
              have HP1 : Hid (P.f1 = x.f0) := by rw [HP.out]; rfl
              have hsum : ∀ w, Calls Tryd.prog 27 #[.string key, .string (x.f0 ++ ⟨#[35]⟩ ++ d)] w fun e w' => e = .returned (.int .u64 P.f0) ∧ Below w.heap.size w w' := fun w => by
                have h := rsum_calls key (x.f0 ++ ⟨#[35]⟩ ++ d) w HKB.out (by rw [ByteArray.size_append, ByteArray.size_append]; show _ + 1 + _ ≤ _; omega)
                have e : ssum (bytesOf key) (bytesOf (x.f0 ++ ⟨#[35]⟩ ++ d)) = P.f0 := by
                  rw [HP.out, bytesOf_append, bytesOf_append, ← Hkb.out, Hd.out]
                  show _ = ssum kb (lbytes [x.f0, ⟨#[35]⟩, digs j])
                  unfold lbytes
                  simp only [List.map_cons, List.map_nil, List.flatten_cons, List.flatten_nil, List.append_nil, List.append_assoc]
                rw [e] at h
                exact h
              have HSU := Lib.hid hsum
              clear hsum
              go_upto_region 15 with fail
              have hlE : gE < wr.heap.size := blk_lt HE7.out
              go_cut [15] (fun s15 wx => PtAt wr x s15 P wx)
              case first =>
                go_region_held3 (fun w' => w'.cell? ⟨gE, 0, none⟩ = some (.string x.f0))
                  (first | exact cE0 | assumption | (refine cell_alloc' _ ?_; assumption) | exact (cell_set2 (by omega)).trans cB | exact cell_later (by assumption) (by assumption))
                  (first
                    | (go_at_call 28; refine (HDI.out _).mono ?_; rintro e wa ⟨rfl, hba⟩; first | (have hqa : wa.heap[wr.heap.size]? = some (.cells #[.int .u64 0, .string ⟨#[]⟩] 41 (0, 0)) := blk_below (blk_drew (blk_new _ _)) hba) | (have hsa : wr.heap.size ≤ wa.heap.size := hba.size))
                    | (go_at_call 27; refine (HSU.out _).mono ?_; rintro e wb ⟨rfl, hbb⟩; have cB : wb.cell? ⟨gE, 0, none⟩ = some (.string x.f0) := cell_later hbb (by assumption); try (first | (have hqb : wb.heap[wr.heap.size]? = some (.cells #[.int .u64 0, .string ⟨#[]⟩] 41 (0, 0)) := blk_below hqa hbb; have q0 : wb.cell? ⟨wr.heap.size, 0, none⟩ = some (.int .u64 0) := blk_cell hqb 0; have q1 : wb.cell? ⟨wr.heap.size, 1, none⟩ = some (.string ⟨#[]⟩) := blk_cell hqb 1; have q2 : wb.frozen? ⟨wr.heap.size, 0, none⟩ = false := blk_frozen hqb 0; have q3 : wb.frozen? ⟨wr.heap.size, 1, none⟩ = false := blk_frozen hqb 1) | (have hqb : wb.heap[wa.heap.size]? = some (.cells #[.int .u64 0, .string ⟨#[]⟩] 41 (0, 0)) := blk_below (blk_new _ _) hbb; have q0 : wb.cell? ⟨wa.heap.size, 0, none⟩ = some (.int .u64 0) := blk_cell hqb 0; have q1 : wb.cell? ⟨wa.heap.size, 1, none⟩ = some (.string ⟨#[]⟩) := blk_cell hqb 1; have q2 : wb.frozen? ⟨wa.heap.size, 0, none⟩ = false := blk_frozen hqb 0; have q3 : wb.frozen? ⟨wa.heap.size, 1, none⟩ = false := blk_frozen hqb 1))))
                all_goals (try refine NoPanic.normal ?_)
                all_goals (go_wp2_with fail; go_meet; first | exact ptC HP1 hba hbb | exact ptB HP1 hba hbb | exact ptA HP1 hba hbb)
              case rest =>
                obtain ⟨gP, rfl, hgP, HQ8, HB8'⟩ := hcut
                have HB8 : Hid (Below w0.heap.size w0 wc) := HB7.out.trans (HB8'.out.mono HB7.out.size)
                have HO8 := Lib.hid (own_later HO7.out HB8'.out)
                have HE8 := Lib.hid (blk_below HE7.out HB8'.out)
                clear cE0 cE1 HE7
                obtain ⟨i0, hi0, hz0, hz1, hz2⟩ := info_parts info41
                obtain ⟨R', HR'⟩ : ∃ R' : List S67, Hid (R' = R ++ (List.range j).map (ptOf kb x)) := ⟨_, rfl⟩
                rw [← HR'.out] at HO8 HO7
                have hn8 : R'.length ≤ 1000 := by rw [HR'.out]; simp; omega
                have hLl : (ptSort R').length = R'.length := (ptSort_perm R').length_eq
                obtain ⟨L, HL⟩ : ∃ L : List S67, Hid (L = ptSort R') := ⟨_, rfl⟩
                rw [← HL.out] at HO8 HO7 hLl
                obtain ⟨v, Hv⟩ : ∃ v : Value, Hid (v = u11) := ⟨_, rfl⟩
                obtain ⟨A1, c1, hv1⟩ : ∃ A1 c1, u11 = .slice A1 L.length c1 := by
                  rcases HO8.out.2 with ⟨h1, h2⟩ | ⟨g, cap, cur, h1, _⟩
                  · exact ⟨none, 0, by rw [h1, h2]⟩
                  · exact ⟨_, _, h1⟩
                have hltb : ∀ g, u11.ownBlock = some g → w0.heap.size ≤ g ∧ g < wr.heap.size := fun g hg => HO7.out.lt g hg
                have hneE : u11.ownBlock ≠ some gE := own_ne HO8.out HE8.out (by decide)
                have hneP : u11.ownBlock ≠ some gP := fun h => by have := (hltb gP h).2; omega
                have HLT := Lib.hid hltb
                have HNE := Lib.hid hneE
                have HNP := Lib.hid hneP
                clear hltb hneE hneP HO7 HB7 HB8' HDI HSU z1 z2
                have HM2 := HM
                clear hmul hG0 hq2 hqw hN
                subst hv1
                obtain ⟨n, Hn⟩ : ∃ n : Nat, Hid (n = L.length) := ⟨_, rfl⟩
                rw [← Hn.out] at HO8 HLT HNE HNP ⊢
                have hn9 : n + 1 ≤ maxLen := by unfold maxLen; rw [Hn.out]; omega
                have hn10 : (n + 1) * 24 ≤ 140737488355328 := by rw [Hn.out]; omega
                have cP0 := blk_cell HQ8.out 0
                have cP1 := blk_cell HQ8.out 1
                simp only [List.getElem?_toArray, List.getElem?_cons_zero, List.getElem?_cons_succ] at cP0 cP1
                have HNB := Lib.hid (blk_new wc (.cells #[Value.int .u64 P.f0, Value.string P.f1] 41))
                have HBA := Lib.hid (below_alloc HB8.out (.cells #[Value.int .u64 P.f0, Value.string P.f1] 41))
                have hsz2 : w0.heap.size ≤ (wc.alloc (.cells #[Value.int .u64 P.f0, Value.string P.f1] 41)).heap.size := HBA.out.size
                have HSZ := Lib.hid hsz2
                clear hsz2
                go_wp2_with (at_builtin; refine wpList_append_lies _ rfl (.tmp 62) (.tmp 64) 35 rfl w0.heap.size 41 i0 _ 2 24 Tryd.underlying35 hi0 hz0 hz1 hz2 rfl (by omega) (.slice A1 n c1) n (flat L) rfl (HO8.out.alloc _) ⟨wc.heap.size, 0, none⟩ 1 1 [.int .u64 P.f0, .string P.f1] rfl rfl (World.news_of_block (cs := #[.int .u64 P.f0, .string P.f1]) (t := 41) (fr := (0, 0)) HNB.out) (by simp [Value.oneCell']) (by omega) hn9 hn10 HSZ.out _ rfl ?_; intro gg cap w9 hown9 hgrow hat hlt9; have HO9 := Lib.hid hown9; have HB9 : Hid (Below w0.heap.size w0 w9) := HBA.out.grown hgrow HSZ.out (fun g hg => (HLT.out g hg).1); have HQ9 := Lib.hid (blk_grown (blk_alloc HQ8.out _) hgrow (Ne.symm HNP.out)); have HE9 := Lib.hid (blk_grown (blk_alloc HE8.out _) hgrow (Ne.symm HNE.out)); have HAT := Lib.hid hat; clear hown9 hgrow hat)
                have hgg : gg ≠ gP ∧ gg ≠ gE ∧ w0.heap.size ≤ gg := by
                  have h1 := blk_lt HQ8.out
                  have h2 := blk_lt HE8.out
                  have h3 := (HO9.out.lt gg rfl).1
                  rcases HAT.out with h | h
                  · have h4 := HNP.out
                    have h5 := HNE.out
                    rw [h] at h4 h5
                    exact ⟨fun e => h4 (by rw [e]), fun e => h5 (by rw [e]), h3⟩
                  · simp only [World.size_alloc] at h
                    exact ⟨by omega, by omega, h3⟩
                obtain ⟨hg1, hg2, hg3⟩ := hgg
                have hst : flat L ++ [Value.int .u64 P.f0, Value.string P.f1] = flat (insAt L L.length P) := by rw [insAt_end, flat_append]; rfl
                rw [hst] at HO9
                clear hst HAT HNP HNE HLT HQ8 HE8 HO8 HB8 HBA HNB HSZ cP0 cP1 hi0 hz0 hz1 hz2
                go_loopw [16] (fun v wr => InsRel w0 gg (n + 1) cap gP gE L P x v wr) (fun v _ => (intOf v).toNat)
                case atStart => exact ⟨L.length, P, Nat.le_refl _, (by rw [Hn.out]), HO9, (fun q hq hk => absurd hq (by omega)), HQ9, HE9, HB9⟩
                case round =>
                  obtain ⟨k, h, hkL, rfl, HO, HGT, HQ, HE, HB⟩ := hrel
                  obtain p0 := blk_cell HQ.out 0
                  obtain p1 := blk_cell HQ.out 1
                  simp only [List.getElem?_toArray, List.getElem?_cons_zero, List.getElem?_cons_succ] at p0 p1
                  cases k with
                  | zero =>
                    have HX : Hid (∀ hk0 : 0 < 0, ¬ ltP P (L[0 - 1]'(by omega))) := fun hk0 => absurd hk0 (by omega)
                    obtain ⟨d0, d1, e0, e1⟩ := row_at HO.out 0 (by rw [insAt_length]; omega)
                    simp only [Nat.zero_mul, Nat.zero_add] at d0 d1 e0 e1
                    go_wp2_with fail
                    go_quiet (fail)
                    go_wp2_with fail
                    obtain ⟨ho, hgr⟩ := ins_fin (w := wr.drewN nq) (K := 0) HL.out HR'.out HP.out Hn.out (by omega) HGT.out HX.out HO.out
                    have HOf := Lib.hid ho
                    have HEf := Lib.hid (blk_grown (w := wr.drewN nq) HE.out hgr (fun e => hg2 (Option.some.inj e).symm))
                    have HBf : Hid (Below w0.heap.size w0 _) := (pw_below_drewN HB.out nq).grown hgr HB.out.size (fun g hg => by obtain rfl := Option.some.inj hg; exact hg3)
                    go_roundw
                    case rel => exact ⟨j + 1, by omega, by go_num, HOf, HEf, HBf⟩
                    case measure => simp [intOf]; omega
                  | succ k =>
                    have hkl : k < L.length := by omega
                    have hkn : k < n := by rw [Hn.out]; exact hkl
                    obtain ⟨c0, c1, f0, f1⟩ := row_at HO.out k (by rw [insAt_length]; omega)
                    have hget : (insAt L (k + 1) h)[k]'(by rw [insAt_length]; omega) = L[k] := by
                      have := insAt_get_lt L (k + 1) h k (by omega) (by omega)
                      rw [List.getElem?_eq_getElem (by rw [insAt_length]; omega)] at this
                      exact Option.some.inj this
                    rw [hget] at c0 c1
                    obtain ⟨q, Hq⟩ : ∃ q : S67, Hid (q = L[k]) := ⟨L[k], rfl⟩
                    rw [← Hq.out] at c0 c1
                    clear hget
                    obtain ⟨d0, d1, e0, e1⟩ := row_at HO.out (k + 1) (by rw [insAt_length]; omega)
                    have b1 : (k : Int) < (n : Int) + 1 := by omega
                    have b2 : (0 : Int) ≤ (k : Int) := by omega
                    have b3 : k < n + 1 := by omega
                    by_cases t1 : P.f0 < q.f0
                    · have HX : Hid (ltP P L[k]) := by rw [← Hq.out]; exact .inl t1
                      have t1' : decide (P.f0 < q.f0) = true := decide_eq_true t1
                      clear t1
                      go_wp2_with fail
                      go_quiet (fail)
                      go_wp2_with fail
                      clear t1'
                      obtain ⟨hs1, hgr⟩ := row_set (w := wr.drewN nq) HO.out (k + 1) (by rw [insAt_length]; omega) q
                      have e : (insAt L (k + 1) h).set (k + 1) q = insAt L k q := by
                        rw [insAt_set _ _ _ _ hkL, Hq.out]
                        exact insAt_down L k hkl
                      rw [e] at hs1
                      have HOf := Lib.hid hs1
                      have HQf := Lib.hid (blk_grown (w := wr.drewN nq) HQ.out hgr (fun e => hg1 (Option.some.inj e).symm))
                      have HEf := Lib.hid (blk_grown (w := wr.drewN nq) HE.out hgr (fun e => hg2 (Option.some.inj e).symm))
                      have HBf : Hid (Below w0.heap.size w0 _) := (pw_below_drewN HB.out nq).grown hgr HB.out.size (fun g hg => by obtain rfl := Option.some.inj hg; exact hg3)
                      have HGf : Hid (∀ (r : Nat) (hr : r < L.length), k ≤ r → ltP P L[r]) := fun r hr hkr => by
                        by_cases hrk : r = k
                        · subst hrk; exact HX.out
                        · exact HGT.out r hr (by omega)
                      exact ⟨⟨k, q, by omega, rfl, HOf, HGf, HQf, HEf, HBf⟩, by simp [intOf]; try omega⟩
                    · have t1' : decide (P.f0 < q.f0) = false := decide_eq_false t1
                      by_cases t2 : q.f0 = P.f0
                      · have t2' : (q.f0 == P.f0) = true := by simpa using t2
                        by_cases t3 : P.f1.data.toList < q.f1.data.toList
                        · have HX : Hid (ltP P L[k]) := by rw [← Hq.out]; exact .inr ⟨t2.symm, t3⟩
                          have t3' : Op.bytesLess q.f1.toList P.f1.toList = false := by
                            rw [bytesLess_eq, Lib.toList_data, Lib.toList_data]
                            exact decide_eq_false (fun h => List.lt_irrefl _ (List.lt_trans h t3))
                          have t4' : (q.f1.toList == P.f1.toList) = false := by
                            rw [Lib.toList_data, Lib.toList_data]
                            exact beq_eq_false_iff_ne.2 (fun h => List.lt_irrefl _ (h ▸ t3))
                          clear t1 t2 t3
                          go_wp2_with fail
                          go_quiet (fail)
                          go_wp2_with fail
                          clear t1'
                          obtain ⟨hs1, hgr⟩ := row_set (w := wr.drewN nq) HO.out (k + 1) (by rw [insAt_length]; omega) q
                          have e : (insAt L (k + 1) h).set (k + 1) q = insAt L k q := by
                            rw [insAt_set _ _ _ _ hkL, Hq.out]
                            exact insAt_down L k hkl
                          rw [e] at hs1
                          have HOf := Lib.hid hs1
                          have HQf := Lib.hid (blk_grown (w := wr.drewN nq) HQ.out hgr (fun e => hg1 (Option.some.inj e).symm))
                          have HEf := Lib.hid (blk_grown (w := wr.drewN nq) HE.out hgr (fun e => hg2 (Option.some.inj e).symm))
                          have HBf : Hid (Below w0.heap.size w0 _) := (pw_below_drewN HB.out nq).grown hgr HB.out.size (fun g hg => by obtain rfl := Option.some.inj hg; exact hg3)
                          have HGf : Hid (∀ (r : Nat) (hr : r < L.length), k ≤ r → ltP P L[r]) := fun r hr hkr => by
                            by_cases hrk : r = k
                            · subst hrk; exact HX.out
                            · exact HGT.out r hr (by omega)
                          exact ⟨⟨k, q, by omega, rfl, HOf, HGf, HQf, HEf, HBf⟩, by simp [intOf]; try omega⟩
                        · have HX : Hid (∀ hk0 : 0 < k + 1, ¬ ltP P (L[k + 1 - 1]'(by omega))) := fun _ hlt => by
                            have hlt' : ltP P q := by rw [Hq.out]; exact hlt
                            rcases hlt' with h1 | ⟨_, h1⟩
                            · exact t1 h1
                            · exact t3 h1
                          by_cases t4 : q.f1.data.toList < P.f1.data.toList
                          · have t4' : Op.bytesLess q.f1.toList P.f1.toList = true := by
                              rw [bytesLess_eq, Lib.toList_data, Lib.toList_data]
                              exact decide_eq_true t4
                            clear t1 t2 t3 t4
                            go_wp2_with fail
                            go_quiet (fail)
                            go_wp2_with fail
                            obtain ⟨ho, hgr⟩ := ins_fin (w := wr.drewN nq) (K := k + 1) HL.out HR'.out HP.out Hn.out (by omega) HGT.out HX.out HO.out
                            have HOf := Lib.hid ho
                            have HEf := Lib.hid (blk_grown (w := wr.drewN nq) HE.out hgr (fun e => hg2 (Option.some.inj e).symm))
                            have HBf : Hid (Below w0.heap.size w0 _) := (pw_below_drewN HB.out nq).grown hgr HB.out.size (fun g hg => by obtain rfl := Option.some.inj hg; exact hg3)
                            go_roundw
                            case rel => exact ⟨j + 1, by omega, by go_num, HOf, HEf, HBf⟩
                            case measure => simp [intOf]; omega
                          · have t3' : Op.bytesLess q.f1.toList P.f1.toList = false := by
                              rw [bytesLess_eq, Lib.toList_data, Lib.toList_data]
                              exact decide_eq_false t4
                            have t4' : (q.f1.toList == P.f1.toList) = true := by
                              rw [Lib.toList_data, Lib.toList_data]
                              exact beq_iff_eq.2 (lt_tri_eq t4 t3)
                            clear t1 t2 t3 t4
                            go_wp2_with fail
                            go_quiet (fail)
                            go_wp2_with fail
                            obtain ⟨ho, hgr⟩ := ins_fin (w := wr.drewN nq) (K := k + 1) HL.out HR'.out HP.out Hn.out (by omega) HGT.out HX.out HO.out
                            have HOf := Lib.hid ho
                            have HEf := Lib.hid (blk_grown (w := wr.drewN nq) HE.out hgr (fun e => hg2 (Option.some.inj e).symm))
                            have HBf : Hid (Below w0.heap.size w0 _) := (pw_below_drewN HB.out nq).grown hgr HB.out.size (fun g hg => by obtain rfl := Option.some.inj hg; exact hg3)
                            go_roundw
                            case rel => exact ⟨j + 1, by omega, by go_num, HOf, HEf, HBf⟩
                            case measure => simp [intOf]; omega
                      · have t2' : (q.f0 == P.f0) = false := by simpa using t2
                        have HX : Hid (∀ hk0 : 0 < k + 1, ¬ ltP P (L[k + 1 - 1]'(by omega))) := fun _ hlt => by
                          have hlt' : ltP P q := by rw [Hq.out]; exact hlt
                          rcases hlt' with h1 | ⟨h1, _⟩
                          · exact t1 h1
                          · exact t2 h1.symm
                        clear t1 t2
                        go_wp2_with fail
                        go_quiet (fail)
                        go_wp2_with fail
                        obtain ⟨ho, hgr⟩ := ins_fin (w := wr.drewN nq) (K := k + 1) HL.out HR'.out HP.out Hn.out (by omega) HGT.out HX.out HO.out
                        have HOf := Lib.hid ho
                        have HEf := Lib.hid (blk_grown (w := wr.drewN nq) HE.out hgr (fun e => hg2 (Option.some.inj e).symm))
                        have HBf : Hid (Below w0.heap.size w0 _) := (pw_below_drewN HB.out nq).grown hgr HB.out.size (fun g hg => by obtain rfl := Option.some.inj hg; exact hg3)
                        go_roundw
                        case rel => exact ⟨j + 1, by omega, by go_num, HOf, HEf, HBf⟩
                        case measure => simp [intOf]; omega
            · obtain rfl : j = cn := by omega
              have hfl : R ++ List.map (ptOf kb x) (List.range j) = (l.take (k + 1)).flatMap (ptsOf kb p G) := by
                rw [List.take_succ_eq_append_getElem hlt, List.flatMap_append, ← HR6.out, ← Hx.out]
                congr 1
                simp [ptsOf, ← Hcn.out]
              have hnl : (R ++ List.map (ptOf kb x) (List.range j)).length ≤ (k + 1) * 99 := by simp; omega
              rw [hfl] at HO7 hnl
              have HFL := Lib.hid hnl
              clear hfl hnl
              go_wp2_with fail
              go_roundw
              case rel => exact ⟨k + 1, by omega, by go_num, HO7, HFL.out, HB7⟩
              case measure => simp [intOf]; omega
        · obtain rfl : k = l.length := by omega
          rw [List.take_length] at HO5 hn5
          have hraw : l.flatMap (ptsOf kb p G) = rawPts kb per l := by rw [HG.out, Hp.out]; rfl
          rw [hraw] at HO5
          clear hraw
          go_wp2_with fail
          go_ret
          exact ⟨⟨_, rfl, HO5.out⟩, HB5.out⟩
end Go.Proofs.YtbcmmmcbineipaaDoor
