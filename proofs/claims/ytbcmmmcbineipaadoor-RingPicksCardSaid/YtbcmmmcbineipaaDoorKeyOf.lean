/- A key of a text. -/
import Derived.Test.YtbcmmmcbineipaaDoorMa
import Derived.Lib.BufferWrite
import Derived.Laws.Tables
set_option linter.unusedVariables false
set_option linter.unusedSimpArgs false
namespace Go.Proofs.YtbcmmmcbineipaaDoor
open Go.RowKit Go.Proofs.YtbcmmmcbineipaaDoorW.PrintWords Go.Proofs.YtbcmmmcbineipaaDoorW.PrintLast Go.Proofs.YtbcmmmcbineipaaDoorW.PrintMore
open Go.Proofs.YtbcmmmcbineipaaDoor.PR

section
variable {P : Program}
theorem run_copy_str (w : World) (dT sT ty elem : TypeId) (g o dLen dCap : Nat) (x : ByteArray) (cur : List Value) (t : TypeId)
    (hu : P.underlying dT = some (.slice elem)) (hs : (P.info? elem).map (·.size) = some 1) (hg : w.heap[g]? = some (.cells cur.toArray t (0, 0))) (hfit : o + dLen ≤ cur.length) :
    (Builtin.copy_ #[dT, sT] ty #[.slice (some ⟨g, o, none⟩) dLen dCap, .string x]).run P w =
      .ok (goInt (Nat.min x.size dLen)) (w.setRow g (splice cur o (nums .u8 ((bytesOf x).take dLen))).toArray) := by
  have hlen : (nums .u8 ((bytesOf x).take dLen)).length = Nat.min x.size dLen := by
    rw [nums_length, List.length_take, bytesOf_length]
    exact Nat.min_comm _ _
  have hle : Nat.min x.size dLen ≤ dLen := Nat.min_le_right _ _
  have hst := run_storeCells_at P g o t (nums .u8 ((bytesOf x).take dLen)) 0 cur.toArray w hg (by rw [hlen]; simp; omega) (fun v hv => by obtain ⟨q, _, rfl⟩ := List.mem_map.1 hv; rfl)
  simp only [Nat.add_zero] at hst
  have htk : List.take (Nat.min x.size dLen) (List.map (fun b : UInt8 => Value.int IntKind.u8 (b.toNat : Int)) x.data.toList) = nums .u8 ((bytesOf x).take dLen) := by
    have e1 : List.map (fun b : UInt8 => Value.int IntKind.u8 (b.toNat : Int)) x.data.toList = nums .u8 (bytesOf x) := by simp [nums, bytesOf]
    have hl : (nums .u8 (bytesOf x)).length = x.size := by rw [nums_length, bytesOf_length]
    rw [e1, show nums .u8 ((bytesOf x).take dLen) = (nums .u8 (bytesOf x)).take dLen by simp [nums, List.map_take]]
    rcases Nat.le_total x.size dLen with h | h
    · rw [show Nat.min x.size dLen = x.size from Nat.min_eq_left h, List.take_of_length_le (by omega), List.take_of_length_le (by omega)]
    · rw [show Nat.min x.size dLen = dLen from Nat.min_eq_right h]
  cases hq : P.info? elem with
  | none => simp [hq] at hs
  | some i =>
    simp [Builtin.copy_, run_underlying hu, Builtin.lenOf, Builtin.firstCells, sizeOf, typeInfo, hq]
    rw [htk, hst]
    simp [Result.andThen, splice]
theorem wpList_copy_str {w : World} {ops : Array Oper} {rest : List Oper} {o : Oper} {a : Act} {Q : Exit → Act → World → Prop} (hgd : o.guard = none) (d s : Operand) (dT sT : TypeId)
    (ho : o.op = .call { callee := .builtin .copy, args := #[d, s], argTypes := #[dT, sT] }) (elem : TypeId) (hu : P.underlying dT = some (.slice elem)) (hsz : (P.info? elem).map (·.size) = some 1)
    (g off dLen dCap : Nat) (hd : a.eval d = .slice (some ⟨g, off, none⟩) dLen dCap) (x : ByteArray) (hs : a.eval s = .string x) (cur : List Value) (t : TypeId)
    (hg : w.heap[g]? = some (.cells cur.toArray t (0, 0))) (hfit : off + dLen ≤ cur.length)
    (h : ∀ w', Hid (w'.heap[g]? = some (.cells (splice cur off (nums .u8 ((bytesOf x).take dLen))).toArray t (0, 0))) → Hid (w.grownBy w' (some g)) → wpList P ops Q rest (a.put o.dst (goInt (Nat.min x.size dLen))) w') :
    wpList P ops Q (o :: rest) a w := by
  refine wpList_plain hgd fun K hK => ?_
  have hrun := run_copy_str (P := P) w dT sT o.type elem g off dLen dCap x cur t hu hsz hg hfit
  unfold Oper.wp
  simp [execOp, ho, resolve, invoke, builtin, hd, hs, hrun, Result.andThen]
  exact hK _ _ (h _ (setRow_heap w g _ _ t _ hg) ⟨rfl, rfl, rfl, by simp, fun k _ hk => setRow_other w g k _ (fun e => hk (by rw [e]))⟩)
end
def keyOf (s : ByteArray) : List Int := ((bytesOf s).take 16) ++ List.replicate (16 - s.size) 0
theorem keyOf_length (s : ByteArray) : (keyOf s).length = 16 := by
  have := bytesOf_length s
  simp [keyOf]; omega
theorem splice16 (s : ByteArray) : splice (List.replicate 16 (Value.int .u8 0)) 0 (nums .u8 ((bytesOf s).take 16)) = nums .u8 (keyOf s) := by
  have := bytesOf_length s
  rw [splice, List.drop_replicate]
  simp only [List.take_zero, List.nil_append, Nat.zero_add, nums_length, keyOf, nums_append]
  congr 1
  simp only [nums, List.map_replicate, List.length_take]
  congr 1
  omega
theorem zeros26 : (Tryd.prog.info? 26).map (fun i => (i.zero, i.size)) = some (some (.agg (List.replicate 16 (Value.int .u8 0)).toArray), 16) := by kernel_rfl
set_option maxHeartbeats 400000 in
set_option maxRecDepth 100000 in
theorem keyOf_calls (s : ByteArray) (w0 : World) :
    Calls Tryd.prog 9 #[.string s] w0 fun e w' => e = .returned (.agg (nums .u8 (keyOf s)).toArray) ∧ Below w0.heap.size w0 w' := by
  have HS : Hid (splice (List.replicate 16 (Value.int .u8 0)) 0 (nums .u8 ((bytesOf s).take 16)) = nums .u8 (keyOf s)) := splice16 s
  have HZ : Hid ((Tryd.prog.info? 26).map (·.size) = some (nums .u8 (keyOf s)).toArray.size) := by
    show _ = _
    rw [List.size_toArray, nums_length, keyOf_length]
    kernel_rfl
  obtain ⟨kb, Hkb⟩ : ∃ kb : List Value, Hid (kb = nums .u8 (keyOf s)) := ⟨_, rfl⟩
  rw [← Hkb.out] at HS HZ
  have hone : kb.toArray.all (·.oneCell') = true := by
    rw [Hkb.out]
    simp [nums, Value.oneCell']
  have HO := Lib.hid hone
  clear hone
  have hl16 : (16 : Nat) = kb.toArray.size := by rw [Hkb.out, List.size_toArray, nums_length, keyOf_length]
  have HL16 := Lib.hid hl16
  clear hl16
  have h0 := heap_alloc_new w0 (.cells (List.replicate 16 (Value.int .u8 0)).toArray 26)
  have h1 := blk_alloc h0 (.cells (List.replicate 16 (Value.int .u8 0)).toArray 26)
  have h2 := heap_alloc_new (w0.alloc (.cells (List.replicate 16 (Value.int .u8 0)).toArray 26)) (.cells (List.replicate 16 (Value.int .u8 0)).toArray 26)
  rw [World.size_alloc] at h2
  have H1 := Lib.hid h1
  have H2 := Lib.hid h2
  have HB := Lib.hid (below_alloc (below_alloc (Below.refl w0.heap.size w0) (.cells (List.replicate 16 (Value.int .u8 0)).toArray 26)) (.cells (List.replicate 16 (Value.int .u8 0)).toArray 26))
  clear h0 h1 h2
  go_enter Tryd.func9, Tryd.ntmps9
  go_wp2_with (first | (refine wpList_copy_str rfl (.tmp 4) (.tmp 5) 37 9 rfl 5 Tryd.underlying37 (by kernel_rfl) (w0.heap.size + 1) 0 16 16 rfl s rfl (List.replicate 16 (.int .u8 0)) 26 H2.out (by decide) ?_; intro w2 hl2 hg2; have HG2 : Hid (w2.heap[w0.heap.size]? = some (.cells (List.replicate 16 (Value.int .u8 0)).toArray 26 (0, 0))) := (hg2.out.block _ (Array.getElem?_eq_some_iff.1 H1.out).1 (by simp)).trans H1.out; have HB2 : Hid (Below w0.heap.size w0 w2) := HB.out.grown hg2.out (by simp; omega) (fun k hk => by injection hk with hk; omega); rw [HS.out] at hl2) | (refine wpList_load_row rfl 26 (.tmp 3) rfl (w0.heap.size + 1) rfl 26 kb.toArray (0, 0) _ hl2.out Tryd.underlying26 rfl HZ.out ?_) | (refine wpList_store_row rfl 26 (.tmp 2) (.tmp 7) rfl w0.heap.size kb.toArray rfl rfl 26 (List.replicate 16 (Value.int .u8 0)).toArray HG2.out HZ.out HL16.out HO.out ?_; have HG3 := Lib.hid (setRow_heap w2 w0.heap.size _ kb.toArray 26 _ HG2.out); have HB3 := Lib.hid (below_setRow HB2.out (Nat.le_refl w0.heap.size) kb.toArray)))
  refine bodyPost_ret (v := .agg kb.toArray) (results_cell_row (p := 2) (ty := 26) rfl _ _ w0.heap.size 26 kb.toArray (0, 0) _ rfl HG3.out Tryd.underlying26 rfl HZ.out) rfl ⟨?_, HB3.out⟩
  rw [Hkb.out]
end Go.Proofs.YtbcmmmcbineipaaDoor
