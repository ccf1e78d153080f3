/- Parts between commas: the iterator of the library, walked. -/
import Derived.Test.YtaebjpfgjgnpoaaDoorHc
import Derived.Test.YtaebjpfgjgnpoaaDoorHd
import Derived.Sort.LoopGhostIn
import Derived.Shelf.RegionOpen
set_option linter.unusedVariables false
set_option linter.unusedSimpArgs false
namespace Go.Proofs.YtaebjpfgjgnpoaaDoor
open Go.RowKit Go.Shelf Go.Proofs.YtaebjpfgjgnpoaaDoorW.PrintWords Go.Proofs.YtaebjpfgjgnpoaaDoorW.PrintLast Go.Proofs.YtaebjpfgjgnpoaaDoorW.PrintMore
open Go.Proofs.YtaebjpfgjgnpoaaDoor.PR
attribute [local go_sem] Oper.semAt_some

def strL (l : List UInt8) : ByteArray := ⟨l.toArray⟩
theorem strL_list (l : List UInt8) : (strL l).data.toList = l := rfl
theorem strL_size (l : List UInt8) : (strL l).size = l.length := by
  show l.toArray.size = _
  simp
/-- The first place of a byte parts the list. -/
theorem index_split (c : UInt8) (l : List UInt8) : (c ∉ l ∧ Lib.indexByte l c = -1) ∨ ∃ a b, l = a ++ c :: b ∧ c ∉ a ∧ Lib.indexByte l c = (a.length : Int) := by
  induction l with
  | nil => exact .inl ⟨by simp, by simp [Lib.indexByte]⟩
  | cons x l ih =>
    by_cases hx : x = c
    · subst hx
      exact .inr ⟨[], l, rfl, by simp, by simp [Lib.indexByte]⟩
    · have hb : (x == c) = false := by simpa using hx
      rcases ih with ⟨h1, h2⟩ | ⟨a, b, h1, h2, h3⟩
      · refine .inl ⟨fun h => ?_, ?_⟩
        · rcases List.mem_cons.1 h with h | h
          · exact hx h.symm
          · exact h1 h
        · rw [Lib.indexByte, hb, if_neg (by simp), h2]
          rfl
      · refine .inr ⟨x :: a, b, by rw [h1]; rfl, fun h => ?_, ?_⟩
        · rcases List.mem_cons.1 h with h | h
          · exact hx h.symm
          · exact h2 h
        · rw [Lib.indexByte, hb, if_neg (by simp), h3, if_neg (by simp only [beq_iff_eq]; omega), List.length_cons]
          omega
theorem splitC_first (c : UInt8) (a b : List UInt8) (h : c ∉ a) : splitC c (a ++ c :: b) = a :: splitC c b := by
  rw [splitC_append, splitC_free c a h]
  rfl
theorem extract_head (a b : List UInt8) (c : UInt8) : (strL (a ++ c :: b)).extract 0 a.length = strL a := by
  apply data_inj
  unfold strL
  rw [ByteArray.extract_mk]
  simp
theorem extract_tail (a b : List UInt8) (c : UInt8) : (strL (a ++ c :: b)).extract (a.length + 1) (a.length + b.length + 1) = strL b := by
  apply data_inj
  unfold strL
  rw [ByteArray.extract_mk]
  simp
/-- What the iterator has captured. -/
def SepAt (Bp Bs Bv : Nat) (c : UInt8) (s : List UInt8) (W : World) : Prop :=
  Boxed W Bp 9 (.string ⟨#[c]⟩) ∧ Boxed W Bs 9 (.string (strL s)) ∧ Boxed W Bv 3 (.int .i64 0)
/-- What a round of the caller's keeps: the iterator's three variables. -/
def SepKp (b0 Bp Bs Bv : Nat) (W W' : World) : Prop :=
  Below b0 W W' ∧ W'.heap[Bp]? = W.heap[Bp]? ∧ W'.heap[Bs]? = W.heap[Bs]? ∧ W'.heap[Bv]? = W.heap[Bv]?
theorem SepKp.trans {b0 Bp Bs Bv : Nat} {A B C : World} (h : SepKp b0 Bp Bs Bv A B) (k : SepKp b0 Bp Bs Bv B C) : SepKp b0 Bp Bs Bv A C :=
  ⟨h.1.trans k.1, k.2.1.trans h.2.1, k.2.2.1.trans h.2.2.1, k.2.2.2.trans h.2.2.2⟩
def SepRel (Bp Bs Bv n0 : Nat) (c : UInt8) (s0 : List UInt8) (J : List ByteArray → World → Prop) (k : Nat) (wr : World) : Prop :=
  ∃ (pre : List (List UInt8)) (t : List UInt8), splitC c s0 = pre ++ splitC c t ∧ t.length = k ∧ t.length ≤ s0.length ∧ Hid (SepAt Bp Bs Bv c t wr) ∧ Hid (J (pre.map strL) wr) ∧ Hid (n0 ≤ wr.heap.size)
set_option maxRecDepth 100000 in
set_option maxHeartbeats 400000 in
theorem split_seq (n : Nat) (hn : 3 ≤ n) (b0 Bp Bs Bv n0 : Nat) (c : UInt8) (s0 : List UInt8) (hl : s0.length ≤ 1000000) (hp : Bp < n0) (hs : Bs < n0) (hv : Bv < n0) (h1 : Bp ≠ Bs) (h2 : Bv ≠ Bs) :
    SeqBox Fence.wide n Tryd.prog 50 #[.pointer (some ⟨Bp, 0, none⟩), .pointer (some ⟨Bs, 0, none⟩), .pointer (some ⟨Bv, 0, none⟩)] (fun x : ByteArray => #[Value.string x]) (SepKp b0 Bp Bs Bv)
      (fun W => SepAt Bp Bs Bv c s0 W ∧ n0 ≤ W.heap.size) (fun x => x.size ≤ s0.length) (fun xs => xs = (splitC c s0).map strL) (splitC c s0).length Bs := by
  intro l J W hF hJ hY h0
  have HJ := Lib.hid hJ
  have HY := Lib.hid hY
  have HF := Lib.hid hF.1
  have HN := Lib.hid hF.2
  have H0 := Lib.hid h0
  clear hJ hY hF h0
  have hp0 := HF.out.1.cell
  refine callsIn_of_wp Tryd.func50 rfl trivial ?_ rfl
  simp only [Tryd.ntmps50, List.size_toArray, List.length_cons, List.length_nil, Nat.reduceAdd, Nat.reduceSub, Array.replicate_succ, Array.replicate_zero, List.push_toArray, List.append_toArray, List.nil_append, List.cons_append]
  gi_wp2_with fail
  clear hp0
  gi_loopg [] s0.length (fun k wr => SepRel Bp Bs Bv n0 c s0 J k wr)
  case atStart => exact ⟨[], s0, rfl, rfl, Nat.le_refl _, HF, H0, HN⟩
  case round =>
    obtain ⟨pre, t, hsp, hk, htl, HS, HJr, HNr⟩ := hrel
    have cp := HS.out.1.cell
    have cs := HS.out.2.1.cell
    have cv := HS.out.2.2.cell
    have hIdx : ∀ w, Calls Tryd.prog 52 #[.string (strL t), .string ⟨#[c]⟩] w fun e w' => e = .returned (.int .i64 (Lib.indexByte t c)) ∧ w' = w := fun w => Tryd.strings_Index_one (strL t) c w
    rcases index_split c t with ⟨hc1, hc2⟩ | ⟨a, b, hab, hc1, hc2⟩
    · rw [hc2] at hIdx
      have HIdx := Lib.hid hIdx
      clear hIdx hc2
      have hend : splitC c s0 = pre ++ [t] := by rw [hsp, splitC_free c t hc1]
      obtain ⟨fn, tmps, assign, body, hy, hR⟩ := HY.out _ (strL t) wr (by rw [strL_size]; exact htl) HJr.out (by rw [List.length_map, hend, List.length_append]; simp)
      have HR := Lib.hid hR
      have HE := Lib.hid hend
      clear hR hc1 hend hsp
      gi_wp2_with fail
      refine ⟨trivial, fun _ => by omega, CallsIn.mono (callsIn_wide.2 (HIdx.out _)) ?_⟩
      rintro e w1 ⟨rfl, rfl⟩
      gi_wp2
      refine ⟨fun _ => by omega, HR.out.mono ?_⟩
      rintro e W3 ⟨rfl, hJ3, hk3⟩
      have HJ3 : Hid (J ((splitC c s0).map strL) W3) := by
        rw [HE.out, List.map_append]
        exact hJ3
      clear hJ3 hk3
      gi_wp2
      go_end0
      exact ⟨⟨_, rfl⟩, _, rfl, HJ3.out⟩
    · rw [hc2] at hIdx
      have HIdx := Lib.hid hIdx
      clear hIdx hc2
      have hat : (strL a).size ≤ s0.length := by
        rw [strL_size]
        have h : t.length = a.length + b.length + 1 := by rw [hab]; simp; omega
        omega
      obtain ⟨fn, tmps, assign, body, hy, hR⟩ := HY.out _ (strL a) wr hat HJr.out (by rw [List.length_map, hsp, List.length_append]; have := splitC_ne c t; have := List.length_pos_iff.2 this; omega)
      clear hat
      have HR := Lib.hid hR
      have hsp2 : splitC c s0 = (pre ++ [a]) ++ splitC c b := by rw [hsp, hab, splitC_first c a b hc1, List.append_assoc]; rfl
      have HSP := Lib.hid hsp2
      have hx1 := extract_head a b c
      have hx2 := extract_tail a b c
      rw [← hab] at hx1 hx2
      have htl2 : t.length = a.length + b.length + 1 := by rw [hab]; simp; omega
      have hsz : (strL t).size = a.length + b.length + 1 := by rw [strL_size, htl2]
      clear hR hc1 hsp hsp2 hab
      gi_wp2_with fail
      refine ⟨trivial, fun _ => by omega, CallsIn.mono (callsIn_wide.2 (HIdx.out _)) ?_⟩
      rintro e w1 ⟨rfl, rfl⟩
      gi_wp2
      refine ⟨fun _ => by omega, HR.out.mono ?_⟩
      rintro e W3 ⟨rfl, hJ3, hk3⟩
      have HJ3 : Hid (J ((pre ++ [a]).map strL) W3) := by
        rw [List.map_append]
        exact hJ3
      have kp : Boxed W3 Bp 9 (.string ⟨#[c]⟩) := hk3.2.1.trans HS.out.1
      have ks : Boxed W3 Bs 9 (.string (strL t)) := hk3.2.2.1.trans HS.out.2.1
      have kv : Boxed W3 Bv 3 (.int .i64 0) := hk3.2.2.2.trans HS.out.2.2
      have c3p := kp.cell
      have c3s := ks.cell
      have f3s := ks.frozen
      have HSn : Hid (SepAt Bp Bs Bv c b (W3.setCell ⟨Bs, 0, none⟩ (.string (strL b)))) := ⟨kp.other h1 _, ks.set _, kv.other h2 _⟩
      have HJn : Hid (J ((pre ++ [a]).map strL) (W3.setCell ⟨Bs, 0, none⟩ (.string (strL b)))) := HJ.out _ _ _ _ HJ3.out (grownBy_setCell' W3 Bs _) (fun r e => by cases e; rfl)
      have HNn : Hid (n0 ≤ (W3.setCell ⟨Bs, 0, none⟩ (.string (strL b))).heap.size) := by
        have h3 : w1.heap.size ≤ W3.heap.size := hk3.1.size
        have h4 := HNr.out
        show _ ≤ (W3.heap.modify _ _).size
        simp
        omega
      clear hJ3 hk3 cp cs cv hy
      gi_wp2_with fail
      gi_roundg b.length
      case rel => exact ⟨pre ++ [a], b, HSP.out, rfl, by omega, HSn, HJn, HNn⟩
      case measure => omega
end Go.Proofs.YtaebjpfgjgnpoaaDoor
