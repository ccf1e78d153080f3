/- What the listed package variables hold. The condition of the row, opened: the three tables that the code reads. -/
import Derived.Test.YtaebjpfgjgnpoaaDoorMv
import Derived.Test.YtaebjpfgjgnpoaaDoorCards
import Derived.Test.YtaebjpfgjgnpoaaDoorTie
import Derived.ProofKit
import Derived.LaidMore
import Derived.OpenShut
import Derived.ShutString
import Derived.ChangeOld
import Derived.Stop.Joined
import Derived.Deep.SlicePairs
import Derived.SevenTiedAt
namespace Go.Proofs.YtaebjpfgjgnpoaaDoor
open Go.RowKit Go.Proofs.YtaebjpfgjgnpoaaDoorW.PrintWords Go.Proofs.YtaebjpfgjgnpoaaDoorW.PrintLast Go.Proofs.YtaebjpfgjgnpoaaDoorW.PrintMore
open Go.Proofs.YtaebjpfgjgnpoaaDoor.PR
section
variable {H : Type} {enc : TypeId × Value → H} {P : Program} {w : World} {base : Nat} {sp : Nat → Bool} {held : Bool} {fuel : Nat} {t e : TypeId} {n : Nat} {cs : List Value} {p : List MemPlace}
theorem strs_of_tab {zs : List (List UInt8)} (ht : P.underlying t = some (.array n e)) (he : P.underlying e = some .string) (hce : P.cellsOf e = 1) (hct : P.cellsOf t = n)
    (hd : DataW.trod enc P w base sp held fuel t cs = some (.agg (zs.map fun s => .lit (.string s)), p)) : cs = zs.map fun s => Value.string ⟨s.toArray⟩ := by
  obtain ⟨xs, m, _, hx, hlen, hn, hel⟩ := DataW.trod_array ht hd
  have hxs := DataW.agg.inj (Prod.mk.inj hx).1
  have hzl : zs.length = n := by
    have := congrArg List.length hxs
    simpa [hn] using this
  apply List.ext_getElem?
  intro i
  by_cases hi : i < n
  · have h1 := hel i hi
    rw [hce, List.getElem?_eq_getElem (by omega)] at h1
    obtain ⟨s, e1, e2, _⟩ := DataW.trod_string he h1
    have h2 : cs[i]? = some (.string s) := by
      have := congrArg (·[0]?) e1
      simpa [List.getElem?_take, List.getElem?_drop] using this
    have h3 := congrArg (·[i]?) hxs
    simp only [List.getElem?_map, List.getElem?_eq_getElem (show i < zs.length by omega), List.getElem?_eq_getElem (show i < xs.length by omega), Option.map_some, e2, Option.some.injEq, DataW.lit.injEq, Lit.string.injEq] at h3
    rw [h2, List.getElem?_map, List.getElem?_eq_getElem (show i < zs.length by omega), Option.map_some, h3]
  · rw [List.getElem?_eq_none (by omega), List.getElem?_eq_none (by simp; omega)]
theorem pairs_of_tab {f0 f1 : Field} {zs : List (Int × List UInt8)} (ht : P.underlying t = some (.array n e)) (he : P.underlying e = some (.struct #[f0, f1])) (h0 : P.underlying f0.type = some (.int .i64)) (h1 : P.underlying f1.type = some .string)
    (o0 : f0.offset = 0) (o1 : f1.offset = 1) (c0 : P.cellsOf f0.type = 1) (c1 : P.cellsOf f1.type = 1) (hce : P.cellsOf e = 2) (hct : P.cellsOf t = n * 2)
    (hd : DataW.trod enc P w base sp held fuel t cs = some (.agg (zs.map fun s => .agg [.lit (.int .i64 s.1), .lit (.string s.2)]), p)) : cs.length = n * 2 ∧ zs.length = n ∧ ∀ (i : Nat) (hi : i < zs.length), cs[i * 2]? = some (.int .i64 zs[i].1) ∧ cs[i * 2 + 1]? = some (.string ⟨zs[i].2.toArray⟩) := by
  obtain ⟨xs, m, _, hx, hlen, hn, hel⟩ := DataW.trod_array ht hd
  have hxs := DataW.agg.inj (Prod.mk.inj hx).1
  have hzl : zs.length = n := by
    have := congrArg List.length hxs
    simpa [hn] using this
  refine ⟨by rw [hlen, hct], hzl, fun i hi => ?_⟩
  have h2 := hel i (by omega)
  rw [hce, List.getElem?_eq_getElem (by omega)] at h2
  obtain ⟨ys, m', _, e2, _, hyn, hey⟩ := DataW.trod_struct he h2
  have h3 := congrArg (·[i]?) hxs
  simp only [List.getElem?_map, List.getElem?_eq_getElem hi, List.getElem?_eq_getElem (show i < xs.length by omega), Option.map_some, e2, Option.some.injEq] at h3
  have h4 := DataW.agg.inj h3
  have q0 := hey 0 f0 rfl
  have q1 := hey 1 f1 rfl
  match ys, hyn with
  | [y0, y1], _ =>
    simp only [List.map_cons, List.map_nil, List.cons.injEq, and_true] at h4
    rw [o0, c0] at q0
    rw [o1, c1] at q1
    obtain ⟨z, a1, a2, _⟩ := DataW.trod_int h0 (show _ = some y0 from q0)
    obtain ⟨s, b1, b2, _⟩ := DataW.trod_string h1 (show _ = some y1 from q1)
    have g0 := congrArg (·[0]?) a1
    have g1 := congrArg (·[0]?) b1
    simp [List.getElem?_take, List.getElem?_drop] at g0 g1
    rw [a2, b2] at h4
    simp only [DataW.lit.injEq, Lit.int.injEq, Lit.string.injEq, true_and] at h4
    refine ⟨?_, ?_⟩
    · rw [g0, h4.1]
    · rw [g1, h4.2]
end
end Go.Proofs.YtaebjpfgjgnpoaaDoor
namespace Go.Proofs.YtaebjpfgjgnpoaaDoor
open Go.RowKit Go.Proofs.YtaebjpfgjgnpoaaDoorW.PrintWords Go.Proofs.YtaebjpfgjgnpoaaDoorW.PrintLast Go.Proofs.YtaebjpfgjgnpoaaDoorW.PrintMore
open Go.Proofs.YtaebjpfgjgnpoaaDoor.PR
def laid7 : List (String × DataW Unit) := [("math/bits.deBruijn32tab", Rows.laid_math_bits_deBruijn32tab), ("math/bits.deBruijn64tab", Rows.laid_math_bits_deBruijn64tab), ("internal/strconv.uint64pow10", Rows.laid_internal_strconv_uint64pow10), ("unicode/utf8.acceptRanges", Rows.laid_unicode_utf8_acceptRanges), ("steward/start.reasons", Rows.laid_steward_start_reasons), ("steward/rewrite.hops", Rows.laid_steward_rewrite_hops), ("unicode/utf8.first", Rows.laid_unicode_utf8_first)]
def wordsZ : List (Int × List UInt8) := [(200, [79, 75]), (400, [66, 97, 100, 32, 82, 101, 113, 117, 101, 115, 116]), (413, [67, 111, 110, 116, 101, 110, 116, 32, 84, 111, 111, 32, 76, 97, 114, 103, 101]), (431, [82, 101, 113, 117, 101, 115, 116, 32, 72, 101, 97, 100, 101, 114, 32, 70, 105, 101, 108, 100, 115, 32, 84, 111, 111, 32, 76, 97, 114, 103, 101]), (502, [66, 97, 100, 32, 71, 97, 116, 101, 119, 97, 121]), (503, [83, 101, 114, 118, 105, 99, 101, 32, 85, 110, 97, 118, 97, 105, 108, 97, 98, 108, 101]), (504, [71, 97, 116, 101, 119, 97, 121, 32, 84, 105, 109, 101, 111, 117, 116])]
theorem words_of {cs : List Value} (hl : cs.length = 14) (hp : ∀ (i : Nat) (hi : i < wordsZ.length), cs[i * 2]? = some (.int .i64 wordsZ[i].1) ∧ cs[i * 2 + 1]? = some (.string ⟨wordsZ[i].2.toArray⟩)) : cs = wordsA.toList := by
  apply List.ext_getElem?
  intro j
  have h : j = 0 ∨ j = 1 ∨ j = 2 ∨ j = 3 ∨ j = 4 ∨ j = 5 ∨ j = 6 ∨ j = 7 ∨ j = 8 ∨ j = 9 ∨ j = 10 ∨ j = 11 ∨ j = 12 ∨ j = 13 ∨ 14 ≤ j := by omega
  rcases h with rfl | rfl | rfl | rfl | rfl | rfl | rfl | rfl | rfl | rfl | rfl | rfl | rfl | rfl | hj
  · exact (hp 0 (by decide)).1
  · exact (hp 0 (by decide)).2
  · exact (hp 1 (by decide)).1
  · exact (hp 1 (by decide)).2
  · exact (hp 2 (by decide)).1
  · exact (hp 2 (by decide)).2
  · exact (hp 3 (by decide)).1
  · exact (hp 3 (by decide)).2
  · exact (hp 4 (by decide)).1
  · exact (hp 4 (by decide)).2
  · exact (hp 5 (by decide)).1
  · exact (hp 5 (by decide)).2
  · exact (hp 6 (by decide)).1
  · exact (hp 6 (by decide)).2
  · rw [List.getElem?_eq_none (by omega), List.getElem?_eq_none (by show 14 ≤ j; exact hj)]
theorem var_block {P : Program} {w : World} {name : String} {cs : Array Value} {g : Nat} (hg : P.globalNamed name = some g) (h : w.var? P name = some cs) : ∃ t fr, w.heap[g]? = some (.cells cs t fr) := by
  unfold World.var? at h
  rw [hg] at h
  have h' : (match w.heap[g]? with | some (.cells cs _ _) => some cs | _ => none) = some cs := h
  split at h'
  · rename_i cs' t fr hb
    cases h'
    exact ⟨t, fr, hb⟩
  · cases h'
theorem of_laid {W : World} (h : laidMetH Tryd.prog laid7 W) : WordsAt W ∧ PowIs W ∧ Kd.C Kd.string W (some ⟨0, 0, none⟩) hopsL.length hopsL := by
  rw [MakeChecks.laidMetH_plain _ _ _ (by kernel_rfl)] at h
  obtain ⟨ps, ⟨g0, t0, cs0, f0, p0, q0, hg0, ht0, hv0, hd0, ⟨g1, t1, cs1, f1, p1, q1, hg1, ht1, hv1, hd1, ⟨g2, t2, cs2, f2, p2, q2, hg2, ht2, hv2, hd2, ⟨g3, t3, cs3, f3, p3, q3, hg3, ht3, hv3, hd3, ⟨g4, t4, cs4, f4, p4, q4, hg4, ht4, hv4, hd4, ⟨g5, t5, cs5, f5, p5, q5, hg5, ht5, hv5, hd5, _, _⟩, _⟩, _⟩, _⟩, _⟩, _⟩, _, _⟩ := h
  obtain rfl := Option.some.inj ((show Tryd.prog.globalNamed "internal/strconv.uint64pow10" = some 5 by kernel_rfl).symm.trans hg2)
  obtain rfl := Option.some.inj ((show Tryd.prog.globalNamed "steward/start.reasons" = some 1 by kernel_rfl).symm.trans hg4)
  obtain rfl := Option.some.inj ((show Tryd.prog.globalNamed "steward/rewrite.hops" = some 0 by kernel_rfl).symm.trans hg5)
  obtain rfl := Option.some.inj ((show (Tryd.prog.globals[5]?).map (·.type) = some 113 by kernel_rfl).symm.trans ht2)
  obtain rfl := Option.some.inj ((show (Tryd.prog.globals[1]?).map (·.type) = some 69 by kernel_rfl).symm.trans ht4)
  obtain rfl := Option.some.inj ((show (Tryd.prog.globals[0]?).map (·.type) = some 46 by kernel_rfl).symm.trans ht5)
  refine ⟨?_, ?_, ?_⟩
  · obtain ⟨t, fr, hb⟩ := var_block hg4 hv4
    obtain ⟨h1, h2, h3⟩ := pairs_of_tab (zs := wordsZ) Tryd.underlying69 Tryd.underlying68 Tryd.underlying3 Tryd.underlying9 rfl rfl (by kernel_rfl) (by kernel_rfl) (by kernel_rfl) (by kernel_rfl) hd4
    have he := words_of h1 h3
    refine ⟨t, fr, ?_⟩
    rw [hb]
    congr 2
    exact Array.toList_inj.1 he
  · have he := Lib.cells_of_tab (k := .u64) (zs := Lib.pow10Tab) Tryd.underlying113 Tryd.underlying99 (by kernel_rfl) (by kernel_rfl) hd2
    show W.var? _ _ = _
    rw [hv2, ← he]
  · have he := strs_of_tab (zs := hopsL.map (·.data.toList)) Tryd.underlying46 Tryd.underlying9 (by kernel_rfl) (by kernel_rfl) hd5
    refine Kd.C_of_reads (d := ByteArray.empty) ⟨rfl, by decide, fun hp => ⟨_, rfl, fun j hj => ?_⟩⟩
    rw [add_at, Nat.zero_add, World.var?_cell hg5 hv5 j]
    have h1 : cs5[j]? = cs5.toList[j]? := Array.getElem?_toList.symm
    rw [h1, he, List.map_map, List.getElem?_map, List.getElem?_eq_getElem hj, List.getD_eq_getElem?_getD, List.getElem?_eq_getElem hj]
    rfl
end Go.Proofs.YtaebjpfgjgnpoaaDoor
