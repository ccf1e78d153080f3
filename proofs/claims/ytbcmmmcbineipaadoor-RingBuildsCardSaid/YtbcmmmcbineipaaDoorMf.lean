/- All names, from a number on. All names, from a number on: the walk. The plain law of LITTLE: a ring without one entry. The plain law of LITTLE: who answers in a ring without one entry. -/
import Derived.Test.YtbcmmmcbineipaaDoorMc
import Derived.Test.YtbcmmmcbineipaaDoorMe
import Derived.Maps.OwnIn
set_option linter.unusedVariables false
set_option linter.unusedSimpArgs false
namespace Go.Proofs.YtbcmmmcbineipaaDoor
open Go.RowKit Go.Shelf Go.Maps Go.WideMaps Go.Proofs.YtbcmmmcbineipaaDoorW.PrintWords Go.Proofs.YtbcmmmcbineipaaDoorW.PrintLast Go.Proofs.YtbcmmmcbineipaaDoorW.PrintMore
open Go.Proofs.YtbcmmmcbineipaaDoor.PR
attribute [local go_sem] Oper.semAt_some
theorem data_inj {a b : ByteArray} (h : a.data.toList = b.data.toList) : a = b := by
  obtain ⟨⟨a⟩⟩ := a
  obtain ⟨⟨b⟩⟩ := b
  simp only at h
  subst h
  rfl
def addN (out : List ByteArray) (n : ByteArray) : List ByteArray := if n.data.toList ∈ out.map (·.data.toList) then out else out ++ [n]
def firsts (ns : List ByteArray) : List ByteArray := ns.foldl addN []
theorem firsts_snoc (ns : List ByteArray) (n : ByteArray) : firsts (ns ++ [n]) = addN (firsts ns) n := by simp [firsts]
theorem firsts_length (ns : List ByteArray) : (firsts ns).length ≤ ns.length := by
  have : ∀ (ns out : List ByteArray), (ns.foldl addN out).length ≤ out.length + ns.length := by
    intro ns
    induction ns with
    | nil => intro out; simp
    | cons n ns ih =>
      intro out
      have h := ih (addN out n)
      have h2 : (addN out n).length ≤ out.length + 1 := by unfold addN; split <;> simp
      simp only [List.foldl_cons, List.length_cons]
      omega
  simpa [firsts] using this ns []
def seenD (out : List ByteArray) : DataW Unit := setOf (.agg []) (out.map keyL)
theorem seenD_nil : seenD [] = .map [] := by simp [seenD, setOf]
theorem seenD_snoc (out : List ByteArray) (n : ByteArray) : seenD (out ++ [n]) = (seenD out).put (keyL n) (.agg []) := by
  unfold seenD
  rw [List.map_append, List.map_singleton, setOf_snoc]
theorem has_seen (out : List ByteArray) (n : ByteArray) : Maps.has (seenD out) (keyL n) = decide (n.data.toList ∈ out.map (·.data.toList)) := by
  unfold seenD
  rw [has_setOf _ _ _ (fun x hx => by obtain ⟨e, _, rfl⟩ := List.mem_map.1 hx; trivial)]
  have e : out.map keyL = (out.map (·.data.toList)).map Lit.string := by rw [List.map_map]; rfl
  rw [e]
  exact any_same _ _
theorem own_strs {w : World} {base t n : Nat} {v : Value} {l : List ByteArray} (h : w.ownsRow base t 1 v n (l.map .string)) (hn : n = l.length) : ∃ A c, v = .slice A l.length c ∧ l.length ≤ c ∧ Kd.C Kd.string w A l.length l := by
  subst hn
  rcases h.2 with ⟨rfl, h0⟩ | ⟨g, cap, cur, rfl, hbg, hg, hnc, hcm, hcs, htake⟩
  · obtain rfl : l = [] := List.eq_nil_of_length_eq_zero h0
    exact ⟨none, 0, rfl, Nat.le_refl _, ⟨rfl, by show 0 ≤ _; omega, fun h => absurd h (by simp)⟩⟩
  · refine ⟨_, cap, rfl, hnc, Kd.C_of_reads (d := ByteArray.empty) ⟨rfl, (by unfold maxLen at hcm; omega), fun _ => ⟨_, rfl, fun j hj => ?_⟩⟩⟩
    rw [add_at, Nat.zero_add, cell_of_row w g j cur t (0, 0) hg]
    have e : cur[j]? = (l.map Value.string)[j]? := by
      rw [← htake, List.getElem?_take, if_pos (by omega), Array.getElem?_toList]
    rw [e, List.getElem?_map, List.getD_eq_getElem?_getD, List.getElem?_eq_getElem hj]
    rfl
theorem own_kept_nc {w w' : World} {base e size n : Nat} {v : Value} {xs : List Value} {row : Option Nat} (h : w.ownsRow base e size v n xs) (hg : w.grownBy w' row) (hr : ∀ r, row = some r → ∃ o : Obj, w.heap[r]? = some o ∧ o.isCells = false) : w'.ownsRow base e size v n xs := by
  refine h.kept hg ?_
  rcases ho : v.ownBlock with _ | g
  · exact .inl rfl
  · refine .inr (fun e' => ?_)
    obtain ⟨o, h1, h2⟩ := hr g e'.symm
    obtain ⟨cells, hc⟩ := own_typed h g ho
    rw [hc] at h1
    cases h1
    exact absurd h2 (by simp [Obj.isCells])
theorem info9 : (Tryd.prog.info? 9).map (fun i => (i.zero, i.size, i.bytes)) = some (some (.string ⟨#[]⟩), 1, 16) := by kernel_rfl
/-- The blocks ks lie as they lay. -/
def Same4 (ks : List Nat) (W W' : World) : Prop := W.heap.size ≤ W'.heap.size ∧ ∀ k ∈ ks, k < W.heap.size → W'.heap[k]? = W.heap[k]?
theorem Same4.trans {ks : List Nat} {A B C : World} (h : Same4 ks A B) (k : Same4 ks B C) : Same4 ks A C :=
  ⟨Nat.le_trans h.1 k.1, fun i hi hl => (k.2 i hi (Nat.lt_of_lt_of_le hl h.1)).trans (h.2 i hi hl)⟩
theorem Same4.grown {ks : List Nat} {A B : World} {row : Option Nat} (h : A.grownBy B row) (hr : ∀ k ∈ ks, row ≠ some k) : Same4 ks A B :=
  ⟨h.size, fun k hk hl => h.block k hl (Ne.symm (hr k hk))⟩
theorem pts_move {w w' : World} {A : Option Addr} {l : List S67} (h : Kd.C k67 w A l.length l) (hb : ∀ ad, A = some ad → w'.heap[ad.block]? = w.heap[ad.block]?) : Kd.C k67 w' A l.length l := by
  refine ⟨h.1, h.2.1, fun hn => ?_⟩
  obtain ⟨ad, hA, hc⟩ := h.2.2 hn
  refine ⟨ad, hA, fun j p hj => ?_⟩
  obtain ⟨c, h1, h2, h3⟩ := hc j p hj
  refine ⟨c, h1, h2, fun i u hu => ?_⟩
  have e : (ad.add (j * k67.sz + i)).block = ad.block := by unfold Addr.add; split <;> rfl
  rw [World.cell?_of_block (w := w) (by rw [e]; exact hb ad hA)]
  exact h3 i u hu
end Go.Proofs.YtbcmmmcbineipaaDoor
set_option linter.unusedVariables false
set_option linter.unusedSimpArgs false
namespace Go.Proofs.YtbcmmmcbineipaaDoor
open Go.RowKit Go.Shelf Go.Maps Go.WideMaps Go.Proofs.YtbcmmmcbineipaaDoorW.PrintWords Go.Proofs.YtbcmmmcbineipaaDoorW.PrintLast Go.Proofs.YtbcmmmcbineipaaDoorW.PrintMore
open Go.Proofs.YtbcmmmcbineipaaDoor.PR
attribute [local go_sem] Oper.semAt_some
def walkN (l : List S67) (x : Int) : List ByteArray := firsts ((rnd l (frm l x)).map (·.f1))

theorem own_ne_map {w : World} {b n m e size : Nat} {D : DataW Unit} {v : Value} {xs : List Value} {base : Nat} (h : w.ownsMap Tryd.prog 9 (unitElem (H := Unit)) b n D) (ho : w.ownsRow base e size v m xs) : v.ownBlock = none ∨ v.ownBlock ≠ some b := by
  obtain ⟨es, clock, hb, _⟩ := h
  rcases hv : v.ownBlock with _ | g
  · exact .inl rfl
  · refine .inr (fun e' => ?_)
    cases e'
    obtain ⟨cells, hc⟩ := own_typed ho b hv
    rw [hb] at hc
    cases hc
set_option maxRecDepth 100000 in
set_option maxHeartbeats 800000 in
theorem walk_calls (g : Nat) (l : List S67) (x : Int) (w0 : World) (hr : RingAt w0 g l) (hso : ∀ (a b : Nat) (ha : a ≤ b) (hb : b < l.length), l[a].f0 ≤ l[b].f0) (hnm : ∀ p ∈ l, p.f1.size ≤ maxLen) :
    Calls Tryd.prog 19 #[.pointer (some ⟨g, 0, none⟩), .int .u64 x] w0 fun e w' => (∃ A c, e = .returned (.slice A (walkN l x).length c) ∧ (walkN l x).length ≤ c ∧ Kd.C Kd.string w' A (walkN l x).length (walkN l x)) ∧ Below w0.heap.size w0 w' := by
  have HR := Lib.hid hr
  have HO := Lib.hid hso
  have HN := Lib.hid hnm
  clear hr hso hnm
  have hmm := @run_makeMap Tryd.prog
  refine (callsIn_wide (n := 8)).1 ?_
  refine callsIn_of_wp_marks Tryd.func19 rfl trivial ?_ rfl
  simp only [Tryd.ntmps19, List.size_toArray, List.length_cons, List.length_nil, Nat.reduceAdd, Nat.reduceSub, Array.replicate_succ, Array.replicate_zero, List.push_toArray, List.append_toArray, List.nil_append, List.cons_append]
  gi_wp2_with fail
  have hM1 := World.ownsMap_made w0 Tryd.prog 9 (unitElem (H := Unit))
  have b5 := (Boxed.new (w0.alloc (.map #[] 0)) 76 (.map (some w0.heap.size))).alloc (.cells #[.slice none 0 0] 51)
  have b6 := Boxed.new ((w0.alloc (.map #[] 0)).alloc (.cells #[.map (some w0.heap.size)] 76)) 51 (.slice none 0 0)
  have hB1 := below_alloc (below_alloc (below_alloc (Below.refl w0.heap.size w0) (.map #[] 0)) (.cells #[.map (some w0.heap.size)] 76)) (.cells #[.slice none 0 0] 51)
  simp only [World.size_alloc] at b5 b6
  have hM := (hM1.alloc (.cells #[.map (some w0.heap.size)] 76)).alloc (.cells #[.slice none 0 0] 51)
  have hR1 := HR.out.below hB1
  generalize hw1 : ((w0.alloc (.map #[] 0)).alloc (.cells #[.map (some w0.heap.size)] 76)).alloc (.cells #[.slice none 0 0] 51) = w1 at hB1 hM hR1 b5 b6 ⊢
  clear hw1 hM1 hmm
  refine ⟨trivial, CallsIn.mono (callsIn_wide.2 (from_calls g l x w1 hR1 HO.out)) ?_⟩
  rintro e w2 ⟨rfl, hb2⟩
  have hB2 := hB1.trans (hb2.mono hB1.size)
  have c5 : Boxed w2 (w0.heap.size + 1) 76 (.map (some w0.heap.size)) := blk_below b5 hb2
  have c6 : Boxed w2 (w0.heap.size + 1 + 1) 51 (.slice none 0 0) := blk_below b6 hb2
  have hM2 := hM.kept (row := none) ⟨hb2.os, hb2.tape, hb2.output, hb2.size, fun k hk _ => hb2.block k hk⟩ (by simp)
  clear hb2 hR1 b5 b6 hM hB1
  obtain ⟨s, Hs⟩ : ∃ s : Nat, Hid (s = frm l x) := ⟨_, rfl⟩
  have hsl : s ≤ l.length := by rw [Hs.out]; exact frm_le l x
  rw [← Hs.out]
  gi_wp2_with fail
  refine ⟨trivial, CallsIn.mono (callsIn_wide.2 (round_calls g s w2)) ?_⟩
  rintro e w3 ⟨rfl, hw3⟩
  have bBr : Boxed w3 w2.heap.size 28 (.pointer (some ⟨g, 0, none⟩)) := by rw [hw3]; exact (Boxed.new w2 28 _).alloc _
  have bBa : Boxed w3 (w2.heap.size + 1) 3 (.int .i64 s) := by rw [hw3]; exact blk_next w2 _ _
  have d5 : Boxed w3 (w0.heap.size + 1) 76 (.map (some w0.heap.size)) := by rw [hw3]; exact (c5.alloc _).alloc _
  have d6 : Boxed w3 (w0.heap.size + 1 + 1) 51 (.slice none 0 0) := by rw [hw3]; exact (c6.alloc _).alloc _
  have hM3 : w3.ownsMap Tryd.prog 9 (unitElem (H := Unit)) w0.heap.size 0 (DataW.map []) := by rw [hw3]; exact (hM2.alloc _).alloc _
  have hB23 : Below w2.heap.size w2 w3 := by rw [hw3]; exact below_alloc (below_alloc (Below.refl _ _) _) _
  have hB3 := hB2.trans (hB23.mono hB2.size)
  have h62 := c6.lt
  have hbr3 := bBr.lt
  have hba3 := bBa.lt
  clear hw3 hB2 c5 c6 hM2 hB23
  obtain ⟨A, c, hg0, hC0, hc0, hl0⟩ := HR.out
  have HG0 := Lib.hid hg0
  have HC0 := Lib.hid hC0
  have HBr := Lib.hid bBr
  have HBa := Lib.hid bBa
  have HD5 := Lib.hid d5
  have HD6 := Lib.hid d6
  have HM3 := Lib.hid hM3
  have HB3 := Lib.hid hB3
  clear bBr bBa d5 d6 hM3 hB3 hg0 hC0
  obtain ⟨i0, hi0, hz0, hz1, hz2⟩ := info_parts info9
  gi_wp2_with fail
  refine wpIn_rangeFunc_ownH (F := Fence.wide) rfl (by decide) (gf := 43) (lb := #[.pointer (some ⟨w2.heap.size, 0, none⟩), .pointer (some ⟨w2.heap.size + 1, 0, none⟩)]) rfl trivial (enters_of Tryd.func43 (by kernel_rfl) rfl)
    (rnd_stops_sub 7 w2.heap.size (w2.heap.size + 1) g s c A l hl0 hsl
      (fun W W' => Below w0.heap.size W W' ∧ (W'.heap[w2.heap.size]? = W.heap[w2.heap.size]? ∧ W'.heap[w2.heap.size + 1]? = W.heap[w2.heap.size + 1]?))
      (fun W => Below w0.heap.size w0 W ∧ (Boxed W w2.heap.size 28 (.pointer (some ⟨g, 0, none⟩)) ∧ Boxed W (w2.heap.size + 1) 3 (.int .i64 s)))
      (fun W h => ⟨h.2.1.cell, h.2.2.cell, (h.1.cell (p := ⟨g, 0, none⟩) (blk_lt HG0.out)).trans (blk_cell HG0.out 0), Kd.C_below HC0.out h.1⟩)
      (fun W h => ⟨h.1.drew, h.2⟩) (fun W W' h k => ⟨h.1.trans k.1, k.2.1.trans h.2.1, k.2.2.trans h.2.2⟩) w3
      (fun W h => ⟨HB3.out.trans (h.mono HB3.out.size), (h.block _ hbr3).trans HBr.out, (h.block _ hba3).trans HBa.out⟩)
      (fun p => p.f1.size ≤ maxLen) HN.out)
    (fun {A B C} h k => ⟨h.1.trans k.1, k.2.1.trans h.2.1, k.2.2.trans h.2.2⟩)
    (fun W r o o' hr ho hoc _ => ⟨belowK_b (w := w3) HB3.out.size W r o o' hr ho hoc (by assumption), World.putObj_heap_other (by omega), World.putObj_heap_other (by omega)⟩)
    (Below.refl _ _) (fun _ => rfl)
    (fun pre W => ((Boxed W (w0.heap.size + 1) 76 (.map (some w0.heap.size)) ∧ W.ownsMap Tryd.prog 9 (unitElem (H := Unit)) w0.heap.size (firsts (pre.map (·.1.f1))).length (seenD (firsts (pre.map (·.1.f1))))) ∧ (∃ v, Boxed W (w0.heap.size + 1 + 1) 51 v ∧ W.ownsRow w0.heap.size 9 1 v (firsts (pre.map (·.1.f1))).length ((firsts (pre.map (·.1.f1))).map .string)) ∧ (Boxed W w2.heap.size 28 (.pointer (some ⟨g, 0, none⟩)) ∧ Boxed W (w2.heap.size + 1) 3 (.int .i64 s)) ∧ w3.heap.size ≤ W.heap.size) ∧ Below w0.heap.size w0 W)
    (fun _ _ _ => False)
    (OwnFrom.and (fun q A B row hs hg hr => by
      have hne : ∀ k, k < w3.heap.size → some k ≠ row := fun k hk e => by have := (hr _ e.symm).1; omega
      obtain ⟨⟨h1, h2⟩, ⟨v, h3, h4⟩, ⟨h5, h6⟩, h7⟩ := hs
      exact ⟨⟨h1.kept hg (hne _ (by omega)), h2.kept hg (hne _ (by omega))⟩, ⟨v, h3.kept hg (hne _ (by omega)), own_kept_nc h4 hg (fun r e => (hr r e).2)⟩, ⟨h5.kept hg (hne _ hbr3), h6.kept hg (hne _ hba3)⟩, Nat.le_trans h7 hg.size⟩) (ownFrom_below (Nat.le_refl _) HB3.out.size))
    (fun _ _ _ _ _ hs _ _ => hs)
    ⟨⟨⟨HD5.out, by rw [show firsts ([].map _) = [] from rfl, seenD_nil]; exact HM3.out⟩, ⟨_, HD6.out, World.ownsRow_nil _ _ _ _⟩, ⟨HBr.out, HBa.out⟩, Nat.le_refl _⟩, HB3.out⟩
    (fun p a' W => ∃ Bx, w3.heap.size ≤ Bx ∧ W.heap[Bx]? = some (.cells #[.int .u64 p.1.f0, .string p.1.f1] 67 (0, 0)) ∧ a' = { tmps := #[.pointer (some ⟨g, 0, none⟩), .int .u64 x, undef, undef, .slice none 0 0, .pointer (some ⟨w0.heap.size + 1, 0, none⟩), .pointer (some ⟨w0.heap.size + 1 + 1, 0, none⟩), .pointer (some ⟨Bx, 0, none⟩), undef, undef, .map (some w0.heap.size), .pointer (some ⟨g, 0, none⟩), .pointer (some ⟨g, 0, none⟩), .int .u64 x, .int .i64 s, .func (.func 43) #[] #[.pointer (some ⟨w2.heap.size, 0, none⟩), .pointer (some ⟨w2.heap.size + 1, 0, none⟩)], .agg #[.int .u64 p.1.f0, .string p.1.f1], undef, undef, undef, undef, undef, undef, undef, undef, undef, undef, undef, undef, undef, undef, undef, undef, undef, undef, undef], defers := [] })
    (fun p a' _ X Y row hs hg hr => by
      obtain ⟨Bx, h1, h2, h3⟩ := hs
      exact ⟨Bx, h1, (hg.block Bx (blk_lt h2) (fun e => by
        obtain ⟨o, ho, hoc⟩ := (hr _ e.symm).2
        rw [h2] at ho
        cases ho
        exact absurd hoc (by simp [Obj.isCells]))).trans h2, h3⟩)
    ?assign ?body ?done ?stop
  case assign =>
    rintro r pre p W K ⟨⟨⟨h1, h2⟩, ⟨v, h3, h4⟩, ⟨h5, h6⟩, h7⟩, hB⟩ hK
    gi_wp2
    exact hK _ _ ((KeepsOthers.alloc _ _).from _) ⟨(Below.refl _ W).alloc hB.size _, Below.heap_alloc W _ _ h5.lt, Below.heap_alloc W _ _ h6.lt⟩ ⟨⟨⟨h1.alloc _, h2.alloc _⟩, ⟨v, h3.alloc _, h4.alloc _⟩, ⟨h5.alloc _, h6.alloc _⟩, by rw [World.size_alloc]; omega⟩, hB.alloc hB.size _⟩ ⟨W.heap.size, h7, blk_new _ _, rfl⟩
  case body =>
    rintro r pre p a' W hl ⟨rr, hrr⟩ ⟨⟨⟨h1, h2⟩, ⟨v, h3, h4⟩, ⟨h5, h6⟩, h7⟩, hB⟩ ⟨Bx, hBx, hX, rfl⟩ hlt
    have hsn : firsts ((pre ++ [p]).map (·.1.f1)) = addN (firsts (pre.map (·.1.f1))) p.1.f1 := by rw [List.map_append, List.map_singleton, firsts_snoc]
    have hol := firsts_length (pre.map (·.1.f1))
    rw [List.length_map] at hol
    obtain ⟨out, Hout⟩ : ∃ out : List ByteArray, Hid (out = firsts (pre.map (·.1.f1))) := ⟨_, rfl⟩
    obtain ⟨nm, Hnm⟩ : ∃ nm : ByteArray, Hid (nm = p.1.f1) := ⟨_, rfl⟩
    have hsz : nm.size ≤ maxLen := by rw [Hnm.out]; exact p.2
    have hkey := keyOf_string_mk (P := Tryd.prog) Tryd.underlying9 hsz
    rw [← Hout.out] at h2 h4 hol hsn
    rw [← Hnm.out] at hsn hX
    have hhas := has_seen out nm
    have hz77 : ∀ W, (zeroValue 77).run Tryd.prog W = .ok (.agg #[]) W := Tryd.zeroValue77
    have cX := blk_cell hX 1
    have c5 := h1.cell
    have hks := hsn
    have HKS := Lib.hid hks
    have HM := Lib.hid h2
    have HOW := Lib.hid h4
    have H3 := Lib.hid h3
    have H1 := Lib.hid h1
    have H5 := Lib.hid h5
    have H6 := Lib.hid h6
    have HBW := Lib.hid hB
    have HXX := Lib.hid hX
    have HKEY := Lib.hid hkey
    clear hsn hks h2 h4 hkey
    by_cases hin : nm.data.toList ∈ out.map (·.data.toList)
    · have ht : Maps.has (seenD out) (keyL nm) = true := by rw [hhas]; exact decide_eq_true hin
      have hadd : addN out nm = out := if_pos hin
      rw [hadd] at HKS
      clear hhas hin hadd
      gi_wp2_with (gi_at_lookup; refine wpListIn_lookup_own_unit _ rfl (.tmp 18) (.tmp 20) 76 rfl 9 77 law9 Tryd.underlying76 (hz77 _) w0.heap.size _ _ rfl HM.out _ _ rfl HKEY.out ?_; rw [show Maps.has (seenD out) (Lit.string nm.data.toList) = true from ht])
      exact ⟨(KeepsOthers.alloc _ _).from _, ⟨(Below.refl _ W).alloc HBW.out.size _, Below.heap_alloc W _ _ H5.out.lt, Below.heap_alloc W _ _ H6.out.lt⟩, ⟨⟨H1.out.alloc _, by rw [HKS.out]; exact HM.out.alloc _⟩, ⟨v, H3.out.alloc _, by rw [HKS.out]; exact HOW.out.alloc _⟩, ⟨H5.out.alloc _, H6.out.alloc _⟩, by rw [World.size_alloc]; omega⟩, HBW.out.alloc HBW.out.size _⟩
    · have ht : Maps.has (seenD out) (keyL nm) = false := by rw [hhas]; exact decide_eq_false hin
      have hadd : addN out nm = out ++ [nm] := if_neg hin
      rw [hadd] at HKS
      clear hhas hin hadd
      have hn8 : out.length < maxLen := by unfold maxLen; omega
      have hn9 : out.length + 1 ≤ maxLen := by unfold maxLen; omega
      have hn10 : (out.length + 1) * 16 ≤ 140737488355328 := by omega
      have hszW := HBW.out.size
      have X5 : Boxed (W.alloc (Obj.cells #[] 77)) (w0.heap.size + 1) 76 (.map (some w0.heap.size)) := H1.out.alloc _
      have e5 := X5.cell
      have eX := blk_cell (blk_alloc HXX.out (Obj.cells #[] 77)) 1
      simp only [List.getElem?_toArray, List.getElem?_cons_zero, List.getElem?_cons_succ] at eX
      gi_wp2_with (first
        | (gi_at_lookup; refine wpListIn_lookup_own_unit _ rfl (.tmp 18) (.tmp 20) 76 rfl 9 77 law9 Tryd.underlying76 (hz77 _) w0.heap.size _ _ rfl HM.out _ _ rfl HKEY.out ?_; rw [show Maps.has (seenD out) (Lit.string nm.data.toList) = false from ht])
        | (gi_at_mapUpdate; refine wpListIn_mapUpdate_own _ rfl _ _ _ 76 rfl 9 77 law9 Tryd.underlying76 (unitElem (H := Unit)) w0.heap.size _ _ rfl (HM.out.alloc _) hn8 _ _ _ rfl rfl HKEY.out _ [] unitElem_mk ?_; intro w4 hown4 hgrow4; have d6 : Boxed w4 (w0.heap.size + 1 + 1) 51 v := (H3.out.alloc _).kept hgrow4 (fun e => by injection e; omega); have e6 := d6.cell; have dX := blk_grown (blk_alloc HXX.out (Obj.cells #[] 77)) hgrow4 (fun e => by injection e; omega); have fX := blk_cell dX 1; simp only [List.getElem?_toArray, List.getElem?_cons_zero, List.getElem?_cons_succ] at fX)
        | (gi_at_builtin; refine wpListIn_append_own_at _ rfl (.tmp 30) (.tmp 33) 51 rfl w0.heap.size 9 i0 _ 1 16 Tryd.underlying51 hi0 hz0 hz1 hz2 rfl (by decide) v out.length (out.map .string) rfl (((HOW.out.alloc _).kept hgrow4 (own_ne_map HM.out HOW.out)).alloc _) ⟨w4.heap.size, 0, none⟩ 1 1 [.string nm] rfl rfl (cell_one_new _ _ _) (by simp [Value.oneCell']) hn9 hn10 (by have := hgrow4.size; simp at this ⊢; omega) ?_; intro v5 w5 hown5 hgrow5 hnil hat; obtain ⟨gg, cap, rfl, hgb, hgl⟩ := hown5.form (by omega); have hO4 := (HOW.out.alloc (Obj.cells #[] 77)).kept hgrow4 (own_ne_map HM.out HOW.out); have g6 : Boxed w5 (w0.heap.size + 1 + 1) 51 v := (d6.alloc _).kept hgrow5 (d6.not_row (by decide) hO4); have p6 := g6.cell; have q6 := g6.frozen))
      have hO4 := (HOW.out.alloc (Obj.cells #[] 77)).kept hgrow4 (own_ne_map HM.out HOW.out)
      have k5 : Boxed w5 w2.heap.size 28 (.pointer (some ⟨g, 0, none⟩)) := ((((H5.out.alloc _).kept hgrow4 (fun e => by injection e; omega)).alloc _).kept hgrow5 ((((H5.out.alloc _).kept hgrow4 (fun e => by injection e; omega))).not_row (by decide) hO4))
      have k6 : Boxed w5 (w2.heap.size + 1) 3 (.int .i64 s) := ((((H6.out.alloc _).kept hgrow4 (fun e => by injection e; omega)).alloc _).kept hgrow5 ((((H6.out.alloc _).kept hgrow4 (fun e => by injection e; omega))).not_row (by decide) hO4))
      have k1 : Boxed w5 (w0.heap.size + 1) 76 (.map (some w0.heap.size)) := ((((H1.out.alloc _).kept hgrow4 (fun e => by injection e; omega)).alloc _).kept hgrow5 ((((H1.out.alloc _).kept hgrow4 (fun e => by injection e; omega))).not_row (by decide) hO4))
      have m5 : w5.ownsMap Tryd.prog 9 (unitElem (H := Unit)) w0.heap.size (out.length + 1) ((seenD out).put (.string nm.data.toList) (.agg [])) := (hown4.alloc _).kept hgrow5 (fun e => ((own_ne_map hown4 hO4).elim (fun e0 => by rw [e0] at e; cases e) (fun e0 => e0 e.symm)))
      have hO5 := hO4.alloc (Obj.cells #[Value.string nm] 9)
      have hsz4 := hgrow4.size
      rw [World.size_alloc] at hsz4
      have hB4 : Below w0.heap.size W w4 := ((Below.refl w0.heap.size W).alloc hszW _).grown hgrow4 (by rw [World.size_alloc]; omega) (fun k e => by injection e; omega)
      have hB5 : Below w0.heap.size W w5 := (hB4.alloc (by omega) _).grown hgrow5 (by rw [World.size_alloc]; omega) (fun k e => own_ge HOW.out e)
      have hKF : KeepsFrom w3.heap.size W w5 := ((((KeepsOthers.alloc W _).from _).trans (KeepsFrom.of_grownBy hgrow4 (fun j e => by injection e; omega))).trans ((KeepsOthers.alloc _ _).from _)).trans ((KeepsOthers.of_grownBy hgrow5 (fun j o ej hj => by
        obtain ⟨cells, hc⟩ := own_typed hO5 j ej
        rw [hc] at hj
        cases hj
        rfl)).from _)
      have n5 := k5.other (B' := w0.heap.size + 1 + 1) (by omega) (Value.slice (some ⟨gg, 0, none⟩) (out.length + 1) cap)
      have n6 := k6.other (B' := w0.heap.size + 1 + 1) (by omega) (Value.slice (some ⟨gg, 0, none⟩) (out.length + 1) cap)
      have n1 := k1.other (B' := w0.heap.size + 1 + 1) (by omega) (Value.slice (some ⟨gg, 0, none⟩) (out.length + 1) cap)
      have nO := hown5.kept (grownBy_cell w5 (w0.heap.size + 1 + 1) (Value.slice (some ⟨gg, 0, none⟩) (out.length + 1) cap)) (.inr (fun e => g6.not_row (by decide) hown5 e.symm))
      have nM := m5.kept (grownBy_cell w5 (w0.heap.size + 1 + 1) (Value.slice (some ⟨gg, 0, none⟩) (out.length + 1) cap)) (fun e => by injection e; omega)
      have hls : (out ++ [nm]).length = out.length + 1 := by simp
      refine ⟨hKF.trans ((KeepsOthers.setCell _ _ _).from _), ⟨hB5.setCell (p := ⟨w0.heap.size + 1 + 1, 0, none⟩) (by show _ ≤ w0.heap.size + 1 + 1; omega) _, n5.trans H5.out.symm, n6.trans H6.out.symm⟩, ⟨⟨n1, ?_⟩, ⟨_, g6.set _, ?_⟩, ⟨n5, n6⟩, ?_⟩, (HBW.out.trans hB5).setCell (p := ⟨w0.heap.size + 1 + 1, 0, none⟩) (by show _ ≤ w0.heap.size + 1 + 1; omega) _⟩
      · rw [HKS.out, hls, seenD_snoc]
        exact nM
      · rw [HKS.out, hls, List.map_append]
        exact nO
      · have := n5.lt
        have h8 := hgrow5.size
        rw [World.size_alloc] at h8
        have h9 := (grownBy_cell w5 (w0.heap.size + 1 + 1) (Value.slice (some ⟨gg, 0, none⟩) (out.length + 1) cap)).size
        omega
  case done =>
    rintro D ys W hD hys ⟨⟨⟨h1, h2⟩, ⟨v, h3, h4⟩, ⟨h5, h6⟩, h7⟩, hB⟩ hK
    have hfi : firsts (ys.map (·.1.f1)) = walkN l x := by
      unfold walkN
      rw [← Hs.out, ← hys, List.map_map]
      rfl
    rw [hfi] at h4
    obtain ⟨A9, c9, rfl, hc9, hC9⟩ := own_strs h4 rfl
    have c6 := h3.cell
    have HC9 := Lib.hid hC9
    clear hC9
    gi_wp2
    refine ⟨by simp, .inl ⟨_, _, rfl, run_takeDeferred hK, ?_⟩⟩
    have hbl : Below w3.heap.size W (W.putObj D (.deferred none)) := belowK_b (w := w3) (Nat.le_refl _) W D _ _ (by omega) hK rfl rfl
    have hO9 := own_kept_nc h4 (grownBy_putObj' W D (.deferred none)) (fun r e => by cases e; exact ⟨_, hK, rfl⟩)
    obtain ⟨A8, c8, he8, hc8, hC8⟩ := own_strs hO9 rfl
    obtain ⟨rfl, rfl⟩ : A9 = A8 ∧ c9 = c8 := by injection he8 with e1 e2 e3; exact ⟨e1, e3⟩
    exact ⟨_, results_tmp rfl _ _ _, ⟨A9, c9, rfl, hc9, hC8⟩, hB.trans (hbl.mono HB3.out.size)⟩
  case stop =>
    rintro D c pre W _ _ h _
    exact h.elim
end Go.Proofs.YtbcmmmcbineipaaDoor
set_option linter.unusedVariables false
set_option linter.unusedSimpArgs false
namespace Go.Proofs.YtbcmmmcbineipaaDoor
open Go.RowKit Go.Proofs.YtbcmmmcbineipaaDoorW.PrintWords Go.Proofs.YtbcmmmcbineipaaDoorW.PrintLast Go.Proofs.YtbcmmmcbineipaaDoorW.PrintMore
open Go.Proofs.YtbcmmmcbineipaaDoor.PR
def ne8 (nm : ByteArray) (m : ByteArray) : Bool := decide (m.data.toList ≠ nm.data.toList)
theorem ne8_iff (nm m : ByteArray) : ne8 nm m = true ↔ m ≠ nm := by
  unfold ne8
  rw [decide_eq_true_iff]
  exact ⟨fun h e => h (by rw [e]), fun h e => h (data_inj e)⟩
theorem memN (out : List ByteArray) (n : ByteArray) : n.data.toList ∈ out.map (·.data.toList) ↔ n ∈ out := by
  rw [List.mem_map]
  exact ⟨fun ⟨a, h, e⟩ => by rw [← data_inj e]; exact h, fun h => ⟨n, h, rfl⟩⟩
theorem addN_mem {out : List ByteArray} {n : ByteArray} (h : n ∈ out) : addN out n = out := if_pos ((memN _ _).2 h)
theorem addN_new {out : List ByteArray} {n : ByteArray} (h : n ∉ out) : addN out n = out ++ [n] := if_neg (fun e => h ((memN _ _).1 e))
theorem fold_keep (a : ByteArray) (t : List ByteArray) : ∀ out : List ByteArray, a ∈ out → t.foldl addN out = (t.filter (ne8 a)).foldl addN out := by
  induction t with
  | nil => intro out _; rfl
  | cons b t ih =>
    intro out h
    rw [List.foldl_cons, List.filter_cons]
    by_cases e : b = a
    · have hf : ne8 a b = false := by
        cases hh : ne8 a b with
        | false => rfl
        | true => exact absurd e ((ne8_iff a b).1 hh)
      rw [hf, if_neg (by decide), addN_mem (by rw [e]; exact h)]
      exact ih out h
    · rw [if_pos ((ne8_iff a b).2 e), List.foldl_cons]
      refine ih _ ?_
      by_cases hb : b ∈ out
      · rw [addN_mem hb]; exact h
      · rw [addN_new hb]; simp [h]
theorem fold_front (a : ByteArray) (t : List ByteArray) : ∀ out : List ByteArray, a ∉ t → t.foldl addN (a :: out) = a :: t.foldl addN out := by
  induction t with
  | nil => intro out _; rfl
  | cons b t ih =>
    intro out h
    have hab : b ≠ a := fun e => h (by simp [e])
    rw [List.foldl_cons, List.foldl_cons]
    by_cases hb : b ∈ out
    · rw [addN_mem hb, addN_mem (by simp [hb])]
      exact ih _ (fun e => h (by simp [e]))
    · rw [addN_new hb, addN_new (by simp [hb, hab])]
      exact ih _ (fun e => h (by simp [e]))
theorem firsts_cons (a : ByteArray) (t : List ByteArray) : firsts (a :: t) = a :: firsts (t.filter (ne8 a)) := by
  unfold firsts
  rw [List.foldl_cons, addN_new (by simp), List.nil_append, fold_keep a t [a] (by simp)]
  exact fold_front a _ [] (fun h => ((ne8_iff a a).1 (List.mem_filter.1 h).2) rfl)
theorem firsts_nodup (ns : List ByteArray) : (firsts ns).Nodup ∧ ∀ n, n ∈ firsts ns ↔ n ∈ ns := by
  have : ∀ (ns out : List ByteArray), out.Nodup → (ns.foldl addN out).Nodup ∧ ∀ n, n ∈ ns.foldl addN out ↔ n ∈ out ∨ n ∈ ns := by
    intro ns
    induction ns with
    | nil => intro out h; exact ⟨h, fun n => by simp⟩
    | cons b ns ih =>
      intro out h
      rw [List.foldl_cons]
      by_cases hb : b ∈ out
      · rw [addN_mem hb]
        obtain ⟨h1, h2⟩ := ih out h
        refine ⟨h1, fun n => (h2 n).trans ?_⟩
        constructor
        · rintro (h | h)
          · exact .inl h
          · exact .inr (by simp [h])
        · rintro (h | h)
          · exact .inl h
          · rcases List.mem_cons.1 h with rfl | h
            · exact .inl hb
            · exact .inr h
      · rw [addN_new hb]
        obtain ⟨h1, h2⟩ := ih (out ++ [b]) (by
          rw [List.nodup_append]
          exact ⟨h, by simp, fun x hx y hy e => by rw [List.mem_singleton] at hy; subst hy; subst e; exact hb hx⟩)
        refine ⟨h1, fun n => (h2 n).trans ?_⟩
        simp [or_assoc]
  obtain ⟨h1, h2⟩ := this ns [] (by simp)
  exact ⟨h1, fun n => (h2 n).trans (by simp)⟩
theorem nodup_le {α : Type} (a : List α) : ∀ b : List α, a.Nodup → (∀ x ∈ a, x ∈ b) → a.length ≤ b.length := by
  induction a with
  | nil => intro b _ _; simp
  | cons x a ih =>
    intro b h hs
    obtain ⟨h1, h2⟩ := List.nodup_cons.1 h
    obtain ⟨s, t, rfl⟩ := List.append_of_mem (hs x (by simp))
    have := ih (s ++ t) h2 (fun y hy => by
      have hy2 := hs y (by simp [hy])
      have hne : y ≠ x := fun e => h1 (by rw [← e]; exact hy)
      simp only [List.mem_append, List.mem_cons] at hy2 ⊢
      rcases hy2 with h | h | h
      · exact .inl h
      · exact absurd h hne
      · exact .inr h)
    simp only [List.length_append, List.length_cons] at this ⊢
    omega
/-- The points of a number or more, then the others. -/
def turnP (l : List S67) (x : Int) : List S67 := l.filter (fun p => decide (x ≤ p.f0)) ++ l.filter (fun p => decide (p.f0 < x))
theorem rnd_rot (l : List S67) (s : Nat) (hs : s < l.length ∨ s = 0) : rnd l s = l.drop s ++ l.take s := by
  apply List.ext_getElem
  · rw [rnd_length]; simp; omega
  · intro i h1 h2
    rw [rnd_length] at h1
    simp only [rnd, List.getElem_map, List.getElem_range]
    have hsl : s ≤ l.length := by omega
    by_cases hi : s + i < l.length
    · rw [Nat.mod_eq_of_lt hi, List.getElem_append_left (by simp; omega), List.getElem_drop, List.getD_eq_getElem?_getD, List.getElem?_eq_getElem hi]
      rfl
    · have e : (s + i) % l.length = s + i - l.length := by
        rw [Nat.mod_eq_sub_mod (by omega), Nat.mod_eq_of_lt (by omega)]
      have h3 : s + i - l.length < l.length := by omega
      rw [e, List.getElem_append_right (by simp; omega), List.getElem_take, List.getD_eq_getElem?_getD, List.getElem?_eq_getElem h3]
      simp only [List.length_drop, Option.getD_some]
      congr 1
      omega
theorem asc_split (l : List S67) (x : Int) (hso : l.Pairwise (fun p q => p.f0 ≤ q.f0)) : l.take (lowb l x) = l.filter (fun p => decide (p.f0 < x)) ∧ l.drop (lowb l x) = l.filter (fun p => decide (x ≤ p.f0)) := by
  induction l with
  | nil => exact ⟨rfl, rfl⟩
  | cons p l ih =>
    obtain ⟨h1, h2⟩ := List.pairwise_cons.1 hso
    by_cases hp : p.f0 < x
    · have hl : lowb (p :: l) x = lowb l x + 1 := by unfold lowb; rw [List.takeWhile_cons, if_pos (by simpa using hp)]; rfl
      obtain ⟨i1, i2⟩ := ih h2
      rw [hl, List.take_succ_cons, List.drop_succ_cons, List.filter_cons, List.filter_cons, if_pos (by simpa using hp), if_neg (by simp; omega), i1, i2]
      exact ⟨rfl, rfl⟩
    · have hl : lowb (p :: l) x = 0 := by unfold lowb; rw [List.takeWhile_cons, if_neg (by simpa using hp)]; rfl
      have hall : ∀ q ∈ p :: l, x ≤ q.f0 := by
        intro q hq
        rcases List.mem_cons.1 hq with rfl | hq
        · omega
        · have := h1 q hq; omega
      rw [hl, List.take_zero, List.drop_zero]
      constructor
      · symm
        rw [List.filter_eq_nil_iff]
        intro q hq
        have := hall q hq
        simp; omega
      · symm
        rw [List.filter_eq_self]
        intro q hq
        simpa using hall q hq
theorem rnd_turn (l : List S67) (x : Int) (hso : l.Pairwise (fun p q => p.f0 ≤ q.f0)) : rnd l (frm l x) = turnP l x := by
  obtain ⟨h1, h2⟩ := asc_split l x hso
  have hle : lowb l x ≤ l.length := by unfold lowb; exact (List.takeWhile_prefix _).length_le
  unfold frm turnP
  by_cases he : lowb l x = l.length
  · rw [if_pos he, rnd_rot l 0 (.inr rfl)]
    rw [he] at h1 h2
    rw [List.take_length] at h1
    rw [List.drop_length] at h2
    rw [← h2, ← h1]
    simp
  · rw [if_neg he, rnd_rot l _ (.inl (by omega)), h1, h2]
theorem turn_filter (l : List S67) (x : Int) (q : S67 → Bool) : turnP (l.filter q) x = (turnP l x).filter q := by
  unfold turnP
  rw [List.filter_append, List.filter_filter, List.filter_filter, List.filter_filter, List.filter_filter]
  congr 1 <;> (apply List.filter_congr; intro a _; exact Bool.and_comm _ _)
end Go.Proofs.YtbcmmmcbineipaaDoor
set_option linter.unusedVariables false
set_option linter.unusedSimpArgs false
namespace Go.Proofs.YtbcmmmcbineipaaDoor
open Go.RowKit Go.Proofs.YtbcmmmcbineipaaDoorW.PrintWords Go.Proofs.YtbcmmmcbineipaaDoorW.PrintLast Go.Proofs.YtbcmmmcbineipaaDoorW.PrintMore
open Go.Proofs.YtbcmmmcbineipaaDoor.PR
theorem pts_name (kb : List Int) (p g : Int) (e : S46) (q : S67) (h : q ∈ ptsOf kb p g e) : q.f1 = e.f0 := by
  unfold ptsOf at h
  obtain ⟨i, _, rfl⟩ := List.mem_map.1 h
  rfl
theorem pts_some (kb : List Int) (p g : Int) (e : S46) : ∃ q, q ∈ ptsOf kb p g e := by
  refine ⟨ptOf kb e 0, ?_⟩
  unfold ptsOf
  exact List.mem_map.2 ⟨0, List.mem_range.2 (by unfold cntOf; omega), rfl⟩
theorem pts_filter (kb : List Int) (p g : Int) (X : List S46) (nm : ByteArray) : (X.flatMap (ptsOf kb p g)).filter (fun q => ne8 nm q.f1) = (X.filter fun e => ne8 nm e.f0).flatMap (ptsOf kb p g) := by
  induction X with
  | nil => rfl
  | cons e X ih =>
    rw [List.flatMap_cons, List.filter_append, ih, List.filter_cons]
    cases h : ne8 nm e.f0 with
    | true =>
      rw [if_pos rfl, List.flatMap_cons]
      congr 1
      rw [List.filter_eq_self]
      intro q hq
      rw [pts_name kb p g e q hq]
      exact h
    | false =>
      rw [if_neg (by decide)]
      have : (ptsOf kb p g e).filter (fun q => ne8 nm q.f1) = [] := by
        rw [List.filter_eq_nil_iff]
        intro q hq
        rw [pts_name kb p g e q hq, h]
        decide
      rw [this]
      rfl
theorem names_nodup {X : List S46} (h : good X) : (X.map (·.f0)).Nodup := by
  have h1 := h.1
  rw [show (X.map fun e => e.f0.toList) = (X.map (·.f0)).map (·.toList) by rw [List.map_map]; rfl] at h1
  exact List.Pairwise.of_map _ (fun a b hne e => hne (by rw [e])) h1
theorem less_filter (X : List S46) (w : Nat) (hw : w < X.length) (h : (X.map (·.f0)).Nodup) : X.take w ++ X.drop (w + 1) = X.filter fun e => ne8 X[w].f0 e.f0 := by
  have e1 : X = X.take w ++ X[w] :: X.drop (w + 1) := by rw [← List.drop_eq_getElem_cons hw, List.take_append_drop]
  obtain ⟨a, b, c, hc, hX⟩ : ∃ a b c, X[w] = c ∧ a = X.take w ∧ b = X.drop (w + 1) := ⟨_, _, _, rfl, rfl, rfl⟩
  rw [← hX.1, ← hX.2, hc] at e1 ⊢
  rw [e1] at h ⊢
  rw [List.map_append, List.map_cons, List.nodup_append] at h
  obtain ⟨h1, h2, h3⟩ := h
  rw [List.filter_append, List.filter_cons]
  have hcc : ne8 c.f0 c.f0 = false := by
    cases hh : ne8 c.f0 c.f0 with
    | false => rfl
    | true => exact absurd rfl ((ne8_iff _ _).1 hh)
  rw [hcc, if_neg (by decide)]
  have ha : a.filter (fun e => ne8 c.f0 e.f0) = a := by
    rw [List.filter_eq_self]
    intro e he
    exact (ne8_iff _ _).2 (fun e2 => h3 e.f0 (List.mem_map.2 ⟨e, he, rfl⟩) c.f0 (by simp) e2)
  have hb : b.filter (fun e => ne8 c.f0 e.f0) = b := by
    rw [List.filter_eq_self]
    intro e he
    exact (ne8_iff _ _).2 (fun e2 => (List.nodup_cons.1 h2).1 (List.mem_map.2 ⟨e, he, e2⟩))
  rw [ha, hb]
theorem ring_less (kb : List Int) (per : Int) (X : List S46) (w : Nat) (hw : w < X.length) (h : (X.map (·.f0)).Nodup) (hgr : greatest (X.take w ++ X.drop (w + 1)) = greatest X) :
    ptSort (rawPts kb per (X.take w ++ X.drop (w + 1))) = (ptSort (rawPts kb per X)).filter fun q => ne8 X[w].f0 q.f1 := by
  refine sorted_eq ?_ (ptSort_sorted _) ((ptSort_sorted _).filter _)
  refine (ptSort_perm _).trans ?_
  have e : rawPts kb per (X.take w ++ X.drop (w + 1)) = (rawPts kb per X).filter fun q => ne8 X[w].f0 q.f1 := by
    unfold rawPts
    rw [hgr, pts_filter, less_filter X w hw h]
  rw [e]
  exact ((ptSort_perm _).filter _).symm
theorem turn_mem (l : List S67) (x : Int) (p : S67) : p ∈ turnP l x ↔ p ∈ l := by
  unfold turnP
  rw [List.mem_append, List.mem_filter, List.mem_filter]
  simp only [decide_eq_true_eq]
  constructor
  · rintro (h | h) <;> exact h.1
  · intro h
    by_cases hx : x ≤ p.f0
    · exact .inl ⟨h, hx⟩
    · exact .inr ⟨h, by omega⟩
theorem ring_f0 (l : List S67) : (ptSort l).Pairwise (fun p q => p.f0 ≤ q.f0) := by
  refine (ptSort_sorted l).imp (fun {a b} h => ?_)
  unfold ltP at h
  omega
theorem walk_all (kb : List Int) (per : Int) (X : List S46) (h : (X.map (·.f0)).Nodup) (x : Int) : (walkN (ptSort (rawPts kb per X)) x).length = X.length := by
  unfold walkN
  rw [rnd_turn _ x (ring_f0 _)]
  obtain ⟨h1, h2⟩ := firsts_nodup ((turnP (ptSort (rawPts kb per X)) x).map (·.f1))
  have hm : ∀ n, n ∈ firsts ((turnP (ptSort (rawPts kb per X)) x).map (·.f1)) ↔ n ∈ X.map (·.f0) := by
    intro n
    rw [h2, List.mem_map, List.mem_map]
    constructor
    · rintro ⟨q, hq, rfl⟩
      rw [turn_mem, (ptSort_perm _).mem_iff] at hq
      unfold rawPts at hq
      obtain ⟨e, he, hq⟩ := List.mem_flatMap.1 hq
      exact ⟨e, he, (pts_name _ _ _ e q hq).symm⟩
    · rintro ⟨e, he, rfl⟩
      obtain ⟨q, hq⟩ := pts_some kb (perOf per) (greatest X) e
      refine ⟨q, ?_, pts_name _ _ _ e q hq⟩
      rw [turn_mem, (ptSort_perm _).mem_iff]
      exact List.mem_flatMap.2 ⟨e, he, hq⟩
  have a1 := nodup_le _ (X.map (·.f0)) h1 (fun n hn => (hm n).1 hn)
  have a2 := nodup_le _ _ h (fun n hn => (hm n).2 hn)
  rw [List.length_map] at a1 a2
  omega
theorem pick_names (l : List S67) (x : Int) (h : l.Pairwise (fun p q => p.f0 ≤ q.f0)) : pick l x = (((turnP l x).map (·.f1)).head?).getD ⟨#[]⟩ := by
  unfold pick
  rw [rnd_turn l x h, List.head?_map]
/-- LITTLE: without an entry a number is answered by whom it was, or by the next one. -/
theorem little (kb : List Int) (per : Int) (X : List S46) (w : Nat) (hw : w < X.length) (h2 : 2 ≤ X.length) (hg : good X) (hgr : greatest (X.take w ++ X.drop (w + 1)) = greatest X) (x : Int) :
    ∃ a b t, walkN (ptSort (rawPts kb per X)) x = a :: b :: t ∧ (a :: b :: t).length = X.length ∧
      (a = X[w].f0 → pick (ptSort (rawPts kb per (X.take w ++ X.drop (w + 1)))) x = b) ∧ (a ≠ X[w].f0 → pick (ptSort (rawPts kb per (X.take w ++ X.drop (w + 1)))) x = a) := by
  have hn := names_nodup hg
  have hlen := walk_all kb per X hn x
  have hW : walkN (ptSort (rawPts kb per X)) x = firsts ((turnP (ptSort (rawPts kb per X)) x).map (·.f1)) := by unfold walkN; rw [rnd_turn _ x (ring_f0 _)]
  have hP : pick (ptSort (rawPts kb per (X.take w ++ X.drop (w + 1)))) x = ((((turnP (ptSort (rawPts kb per X)) x).map (·.f1)).filter (ne8 X[w].f0)).head?).getD ⟨#[]⟩ := by
    rw [pick_names _ x (ring_f0 _), ring_less kb per X w hw hn hgr, turn_filter, List.filter_map]
    rfl
  obtain ⟨N, hN⟩ : ∃ N, N = (turnP (ptSort (rawPts kb per X)) x).map (·.f1) := ⟨_, rfl⟩
  rw [← hN] at hW hP
  rw [hP]
  cases N with
  | nil => rw [hW] at hlen; simp [firsts] at hlen; omega
  | cons n0 rest =>
    rw [firsts_cons] at hW
    cases hr : rest.filter (ne8 n0) with
    | nil => rw [hW, hr] at hlen; simp [firsts] at hlen; omega
    | cons n1 rest1 =>
      rw [hr, firsts_cons] at hW
      refine ⟨n0, n1, _, hW, by rw [← hW]; exact hlen, fun e => ?_, fun e => ?_⟩
      · have hf : ne8 X[w].f0 n0 = false := by
          cases hh : ne8 X[w].f0 n0 with
          | false => rfl
          | true => exact absurd e ((ne8_iff _ _).1 hh)
        rw [List.filter_cons, hf, if_neg (by decide), ← e, hr]
        rfl
      · rw [List.filter_cons, if_pos ((ne8_iff _ _).2 e)]
        rfl
end Go.Proofs.YtbcmmmcbineipaaDoor
