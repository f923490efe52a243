/- An index of a file; the closed case: what every right program finds in one file. -/
import Derived.Test.YtiofkhjpknfkgaaDoorP01
import Derived.Test.YtiofkhjpknfkgaaDoorP02
import Derived.Test.YtiofkhjpknfkgaaDoorP03
import Derived.Test.YtiofkhjpknfkgaaDoorP04
import Derived.Test.YtiofkhjpknfkgaaDoorP05
import Derived.Test.YtiofkhjpknfkgaaDoorP06
import Derived.Test.YtiofkhjpknfkgaaDoorP07
import Derived.Test.YtiofkhjpknfkgaaDoorP08
import Derived.Test.YtiofkhjpknfkgaaDoorP09
import Derived.Test.YtiofkhjpknfkgaaDoorP10
import Derived.Test.YtiofkhjpknfkgaaDoorP11
import Derived.Test.YtiofkhjpknfkgaaDoorP12
import Derived.Test.YtiofkhjpknfkgaaDoorP13
import Derived.Test.YtiofkhjpknfkgaaDoorP14
import Derived.Defers
import Derived.Recover
import Derived.WalkLawsBesides
import Derived.Laws.Rows
namespace Go.Proofs.YtiofkhjpknfkgaaDoor
namespace Ms
open Go.RowKit Ba Tm Os_ Bk Ro Sm
set_option linter.unusedVariables false
theorem sign_good (b : List UInt8) (z : Nat) (hz : 1 ≤ z ∧ z ≤ 4096) (hb : b.length ≤ 4096) : sign (z : Int) b = (signK z b (b.length / z), 0) := by
  have := Nat.div_le_self b.length z
  unfold sign
  rw [if_neg (by omega), if_neg (by simp only [Int.toNat_natCast]; omega)]
  simp
theorem check_sign (b : List UInt8) (z : Nat) (hz : 1 ≤ z ∧ z ≤ 4096) (hb : b.length ≤ 4096) : check (z : Int) (b.length : Int) (signK z b (b.length / z)).length = 0 := by
  have := Nat.div_le_self b.length z
  unfold check
  rw [signK_len, if_neg (by omega), if_neg (by omega), if_neg]
  rintro (h | h)
  · exact h (by rw [Int.natCast_ediv])
  · omega
set_option maxRecDepth 100000 in
set_option maxHeartbeats 2000000 in
theorem index_calls (old : List UInt8) (z : Nat) (A : Option Addr) (n c : Nat) (w : World) (hn : n = old.length) (hz : 1 ≤ z ∧ z ≤ 4096) (ho : n ≤ 4096) (hc : n ≤ c) (hcm : c ≤ 9223372036854775807) (hr : ReadB w w.heap.size A old) (htab : Tab w) :
    Calls Tryd.prog 10 #[.slice A n c, .int .i64 (z : Int)] w fun e w' => ∃ g, e = .returned (.tuple #[.pointer (some ⟨g, 0, none⟩), .bool true]) ∧ w.heap.size ≤ g ∧ IsX w' g z (signK z old (old.length / z)) ∧ Below w.heap.size w w' := by
  have hsg := sign_calls old (z : Int) A c w hr (by omega) hcm (by omega) htab
  rw [sign_good old z hz (by omega)] at hsg
  have hck := check_sign old z hz (by omega)
  have hwf := signK_wf z old (old.length / z)
  obtain ⟨L, hL⟩ : ∃ L, L = signK z old (old.length / z) := ⟨_, rfl⟩
  rw [← hL] at hsg hck hwf ⊢
  rw [← hn] at hsg hck
  have hnew := fun w1 A1 c1 h => new_good z (n : Int) L A1 c1 (by omega) w1 hck h hwf
  obtain ⟨m, hm⟩ : ∃ m, m = L.length := ⟨_, rfl⟩
  rw [← hm] at hnew
  have Hm := Lib.hid hm
  have Hsg := Lib.hid hsg
  have Hnew := Lib.hid hnew
  clear hsg hck hwf hL hnew hr htab hn hm
  go_enter Tryd.func10, Tryd.ntmps10
  go_wp2_with fail
  refine Calls.mono Hsg.out ?_
  rintro e1 w1 ⟨v1, rfl, ho1, hb1⟩
  obtain ⟨A1, c1, rfl, -, -, q1, -⟩ := ho1.opens
  have Hq1 := Lib.hid q1
  have Hb1 := Lib.hid hb1
  rw [← Hm.out]
  clear ho1 hb1 q1
  go_wp2_with fail
  refine Calls.mono (Hnew.out w1 A1 c1 Hq1.out) ?_
  rintro e2 w2 ⟨g, rfl, hg2, hX2, hb2⟩
  have HX2 := Lib.hid hX2
  have Hg2 := Lib.hid hg2
  have Hb2 := Lib.hid (Hb1.out.trans (hb2.mono Hb1.out.size))
  clear hX2 hb2 hg2
  go_wp2_with fail
  go_ret2
  exact ⟨g, rfl, Nat.le_trans Hb1.out.size Hg2.out, HX2.out, Hb2.out⟩
/-! ### one file -/
def old6 : List UInt8 := [97, 98, 99, 100, 101, 102]
def new12 : List UInt8 := [120, 120, 97, 98, 99, 100, 101, 102, 121, 97, 98, 99]
def fourL : List O := [lit [120, 120], cp 0 6, lit [121], cp 0 3]
theorem o6_sign : signK 3 old6 2 = [sgOf [97, 98, 99], sgOf [100, 101, 102]] := by
  show [sgOf (blk 3 old6 0), sgOf (blk 3 old6 1)] = _
  rw [show blk 3 old6 0 = [97, 98, 99] by decide, show blk 3 old6 1 = [100, 101, 102] by decide]
theorem o6_find (x : List UInt8) (hx : x.length = 3) : findB 3 (signK 3 old6 2) x = if sgOf [97, 98, 99] = sgOf x then (0, true) else if sgOf [100, 101, 102] = sgOf x then (3, true) else (0, false) := by
  have e0 : findB 3 (signK 3 old6 2) x = tellIx 3 (findIx (signK 3 old6 2) (sgOf x)) := if_pos hx
  rw [e0, o6_sign]
  generalize sgOf [97, 98, 99] = p
  generalize sgOf [100, 101, 102] = q
  generalize sgOf x = r
  have e : findIx [p, q] r = List.find? (fun i => sg [p, q] i == r) [0, 1] := rfl
  rw [e]
  have h0 : sg [p, q] 0 = p := rfl
  have h1 : sg [p, q] 1 = q := rfl
  by_cases hp : p = r
  · rw [List.find?_cons_of_pos (by rw [h0]; exact beq_iff_eq.2 hp), if_pos hp]; rfl
  · rw [List.find?_cons_of_neg (by rw [h0]; simpa using hp), if_neg hp]
    by_cases hq : q = r
    · rw [List.find?_cons_of_pos (by rw [h1]; exact beq_iff_eq.2 hq), if_pos hq]; rfl
    · rw [List.find?_cons_of_neg (by rw [h1]; simpa using hq), if_neg hq]; rfl
theorem sg_ne {x y : List UInt8} (h : rsum x ≠ rsum y) : sgOf x ≠ sgOf y := fun e => h (congrArg Prod.fst e)
theorem o6_search : search (findB 3 (signK 3 old6 2)) 3 new12 = fourL := by
  have f0 : findB 3 (signK 3 old6 2) [120, 120, 97] = (0, false) := by rw [o6_find _ rfl, if_neg (sg_ne (by decide)), if_neg (sg_ne (by decide))]
  have f1 : findB 3 (signK 3 old6 2) [120, 97, 98] = (0, false) := by rw [o6_find _ rfl, if_neg (sg_ne (by decide)), if_neg (sg_ne (by decide))]
  have f2 : findB 3 (signK 3 old6 2) [97, 98, 99] = (0, true) := by rw [o6_find _ rfl, if_pos rfl]
  have f5 : findB 3 (signK 3 old6 2) [100, 101, 102] = (3, true) := by rw [o6_find _ rfl, if_neg (sg_ne (by decide)), if_pos rfl]
  have f8 : findB 3 (signK 3 old6 2) [121, 97, 98] = (0, false) := by rw [o6_find _ rfl, if_neg (sg_ne (by decide)), if_neg (sg_ne (by decide))]
  generalize findB 3 (signK 3 old6 2) = F at *
  have s0 := rest_miss F 3 new12 (by decide) [] 0 0 (by decide) (by rw [show cut new12 0 (0 + 3) = [120, 120, 97] by decide, f0])
  have s1 := rest_miss F 3 new12 (by decide) [] 0 1 (by decide) (by rw [show cut new12 1 (1 + 3) = [120, 97, 98] by decide, f1])
  have s2 := rest_hit F 3 new12 (by decide) [] 0 2 (by decide) (by rw [show cut new12 2 (2 + 3) = [97, 98, 99] by decide, f2])
  rw [show cut new12 2 (2 + 3) = [97, 98, 99] by decide, f2, show put1 3 new12 [] 0 2 0 = [lit [120, 120], cp 0 3] by rfl] at s2
  have s5 := rest_hit F 3 new12 (by decide) [lit [120, 120], cp 0 3] 5 5 (by decide) (by rw [show cut new12 5 (5 + 3) = [100, 101, 102] by decide, f5])
  rw [show cut new12 5 (5 + 3) = [100, 101, 102] by decide, f5, show put1 3 new12 [lit [120, 120], cp 0 3] 5 5 3 = [lit [120, 120], cp 0 6] by rfl] at s5
  have s8 := rest_miss F 3 new12 (by decide) [lit [120, 120], cp 0 6] 8 8 (by decide) (by rw [show cut new12 8 (8 + 3) = [121, 97, 98] by decide, f8])
  have s9 := rest_hit F 3 new12 (by decide) [lit [120, 120], cp 0 6] 8 9 (by decide) (by rw [show cut new12 9 (9 + 3) = [97, 98, 99] by decide, f2])
  rw [show cut new12 9 (9 + 3) = [97, 98, 99] by decide, f2, show put1 3 new12 [lit [120, 120], cp 0 6] 8 9 0 = fourL by rfl] at s9
  have s12 := rest_end F 3 new12 fourL 12 12 (by decide)
  unfold search
  rw [← rest_zero, s0]
  rw [show (0 + 1) = 1 by rfl, s1, show (1 + 1) = 2 by rfl, s2, show (2 + 3) = 5 by rfl, s5, show (5 + 3) = 8 by rfl, s8, show (8 + 1) = 9 by rfl, s9, show (9 + 3) = 12 by rfl, s12]
  rfl
theorem four_copied : copied fourL = 9 := by decide
theorem four_literal : literal fourL = 3 := by decide
theorem four_bd1 (k : Nat) : 0 ≤ copied (fourL.take k) ∧ copied (fourL.take k) ≤ 4611686018427387904 := by rcases k with _ | _ | _ | _ | k <;> simp [fourL, copied, cp, lit]
theorem four_bd2 (k : Nat) : 0 ≤ literal (fourL.take k) ∧ literal (fourL.take k) ≤ 4611686018427387904 := by rcases k with _ | _ | _ | _ | k <;> simp [fourL, literal, cp, lit]
theorem four_nil : same fourL [] = false := rfl
def fourR (g h : Nat) : List Ow := [(lit [120, 120], some ⟨g, 0, none⟩, 2), (cp 0 6, none, 0), (lit [121], some ⟨h, 0, none⟩, 1), (cp 0 3, none, 0)]
theorem lit_row4 (w : World) (L : List Ow) (E : TypeId) : ReadRow opv 4 (w.alloc (.cells (rows opv L).toArray E)) (w.heap.size + 1) (some ⟨w.heap.size, 0, none⟩) L := by
  refine ⟨fun x _ => ⟨rfl, opv_one x⟩, fun _ => ⟨w.heap.size, 0, rfl, by omega, fun j u hu => ?_⟩⟩
  rw [Nat.zero_add, cell_of_row _ w.heap.size j (rows opv L).toArray E (0, 0) (heap_alloc_new w _)]
  simpa using hu
theorem four_row (w : World) :
    ReadO ((Li.mkB ((Li.mkB (w.alloc (.cells (bvs [120, 120]).toArray 5)) w.heap.size).alloc (.cells (bvs [121]).toArray 5)) (w.heap.size + 1)).alloc (.cells (rows opv (fourR w.heap.size (w.heap.size + 1))).toArray 40))
      ((Li.mkB ((Li.mkB (w.alloc (.cells (bvs [120, 120]).toArray 5)) w.heap.size).alloc (.cells (bvs [121]).toArray 5)) (w.heap.size + 1)).alloc (.cells (rows opv (fourR w.heap.size (w.heap.size + 1))).toArray 40)).heap.size (some ⟨w.heap.size + 2, 0, none⟩) (fourR w.heap.size (w.heap.size + 1)) ∧
    Below w.heap.size w ((Li.mkB ((Li.mkB (w.alloc (.cells (bvs [120, 120]).toArray 5)) w.heap.size).alloc (.cells (bvs [121]).toArray 5)) (w.heap.size + 1)).alloc (.cells (rows opv (fourR w.heap.size (w.heap.size + 1))).toArray 40)) := by
  obtain ⟨h1, h2⟩ := mkB_lit w 5 (bvs [120, 120]) [120, 120] w.heap.size rfl rfl
  have hws : (Li.mkB (w.alloc (.cells (bvs [120, 120]).toArray 5)) w.heap.size).heap.size = w.heap.size + 1 := by rw [Li.mkB_size]; simp
  generalize Li.mkB (w.alloc (.cells (bvs [120, 120]).toArray 5)) w.heap.size = W at *
  obtain ⟨h3, h4⟩ := mkB_lit W 5 (bvs [121]) [121] W.heap.size rfl rfl
  have hws2 : (Li.mkB (W.alloc (.cells (bvs [121]).toArray 5)) W.heap.size).heap.size = W.heap.size + 1 := by rw [Li.mkB_size]; simp
  rw [← hws]
  generalize Li.mkB (W.alloc (.cells (bvs [121]).toArray 5)) W.heap.size = V at *
  have e2 : w.heap.size + 2 = V.heap.size := by omega
  rw [e2]
  have hrow := lit_row4 V (fourR w.heap.size W.heap.size) 40
  have hal := (Below.refl V.heap.size V).alloc (Nat.le_refl _) (.cells (rows opv (fourR w.heap.size W.heap.size)).toArray 40)
  have hr1 := ((h1.below h4).below (hal.mono (by omega))).more (B' := (V.alloc (.cells (rows opv (fourR w.heap.size W.heap.size)).toArray 40)).heap.size) (by simp; omega)
  have hr2 := (h3.below hal).more (B' := (V.alloc (.cells (rows opv (fourR w.heap.size W.heap.size)).toArray 40)).heap.size) (by simp)
  have hrow2 := hrow.more (B' := (V.alloc (.cells (rows opv (fourR w.heap.size W.heap.size)).toArray 40)).heap.size) (by simp)
  refine ⟨⟨hrow2, fun x hx => ?_⟩, (h2.trans (h4.mono h2.size)).trans (hal.mono (by omega))⟩
  simp only [fourR, List.mem_cons, List.not_mem_nil, or_false] at hx
  rcases hx with rfl | rfl | rfl | rfl
  · exact ⟨by simp [lit], by simp [lit], by simp [lit], by simp, hr1⟩
  · exact ⟨by simp [cp], by simp [cp], by simp [cp], by simp, ReadB.nil⟩
  · exact ⟨by simp [lit], by simp [lit], by simp [lit], by simp, hr2⟩
  · exact ⟨by simp [cp], by simp [cp], by simp [cp], by simp, ReadB.nil⟩
theorem fillL_app (sz i : Nat) (v : Value) (pre post : List Value) (rest : List (Nat × Value)) (h : pre.length = i * sz) (hv : v.cells.toList.length = sz) (hp : sz ≤ post.length) : fillL (fun i => some (i * sz, sz)) (pre ++ post) ((i, v) :: rest) = fillL (fun i => some (i * sz, sz)) (pre ++ v.cells.toList ++ post.drop sz) rest := by
  conv => lhs; unfold fillL
  simp only
  rw [if_neg (by rw [List.length_append]; omega), ← h, List.take_left, List.drop_append, List.drop_eq_nil_of_le (show pre.length ≤ pre.length + sz by omega)]
  simp
theorem fill_four (v0 v1 v2 v3 : Value) (h0 : v0.cells.toList.length = 4) (h1 : v1.cells.toList.length = 4) (h2 : v2.cells.toList.length = 4) (h3 : v3.cells.toList.length = 4) (Z : List Value) (hZ : Z.length = 4 * 4) : fillL (fun i => some (i * 4, 4)) Z [(0, v0), (1, v1), (2, v2), (3, v3)] = some (v0.cells.toList ++ v1.cells.toList ++ v2.cells.toList ++ v3.cells.toList) := by
  have a0 := fillL_app 4 0 v0 [] Z [(1, v1), (2, v2), (3, v3)] rfl h0 (by omega)
  rw [List.nil_append, List.nil_append] at a0
  rw [a0, fillL_app 4 1 v1 v0.cells.toList (Z.drop 4) _ (by omega) h1 (by simp; omega), fillL_app 4 2 v2 (v0.cells.toList ++ v1.cells.toList) _ _ (by simp only [List.length_append]; omega) h2 (by simp; omega), fillL_app 4 3 v3 (v0.cells.toList ++ v1.cells.toList ++ v2.cells.toList) _ _ (by simp only [List.length_append]; omega) h3 (by simp; omega)]
  unfold fillL
  rw [List.drop_eq_nil_of_le (by simp; omega), List.append_nil]
theorem wpList_bsliceg {P : Program} (w : World) {ops : Array Oper} {rest : List Oper} {o : Oper} {a : Act} {Q : Exit → Act → World → Prop} (hgd : Region.wanted o (yielded ops a.tmps) = true) (t E : TypeId) (len : Nat) (parts : Array (Nat × Operand)) (ho : o.op = .buildSlice t len parts)
    (ht : P.underlying t = some (.slice E)) (i : TypeInfo) (sz bytes : Nat) (hi : IsRec P E i sz bytes) (h0 : 0 < len * sz) (h24 : len * sz ≤ 16777216) (ps : List (Nat × Value)) (hps : parts.toList.map (fun (i, x) => (i, a.eval x)) = ps) (cs : List Value)
    (hf : ∀ Z : List Value, Z.length = len * sz → fillL (fun i => some (i * sz, sz)) Z ps = some cs)
    (h : wpList P ops Q rest (a.put o.dst (.slice (some ⟨w.heap.size, 0, none⟩) len len)) (w.alloc (.cells cs.toArray E))) : wpList P ops Q (o :: rest) a w :=
  wpList_step fun _ hK => step_bslice w hgd t E len parts ho ht i sz bytes hi h0 h24 ps hps cs hf (hK _ _ h)
set_option maxRecDepth 100000 in
set_option maxHeartbeats 8000000 in
theorem awake_calls (w : World) (htab : Tab w) : Calls Tryd.prog 9 #[] w fun e w' => e = .returned (.bool true) ∧ Below w.heap.size w w' := by
  have Htab := Lib.hid htab
  have hcv := fun (g n c : Nat) (w' : World) => Li.conv_run (P := Tryd.prog) 22 5 Tryd.underlying22 Tryd.underlying5 g n c w'
  have hms := Li.mkB_size
  obtain ⟨iO, hiO⟩ := isOp
  have Hi := Lib.hid hiO
  have h1 := mkB_lit w 5 (bvs old6) old6 w.heap.size rfl rfl
  have hix := index_calls old6 3 (some ⟨w.heap.size, 0, none⟩) 6 6 _ rfl (by omega) (by omega) (by omega) (by omega) h1.1 (htab.below h1.2)
  have H1 := Lib.hid h1.2
  have Hix := Lib.hid hix
  have Hsr := Lib.hid o6_search
  clear h1 hix htab hiO
  go_enter Tryd.func9, Tryd.ntmps9
  go_wp2_with fail
  refine Calls.mono Hix.out ?_
  rintro e1 w1 ⟨g, rfl, -, hX1, hb1⟩
  have h2 := mkB_lit w1 5 (bvs new12) new12 w1.heap.size rfl rfl
  have hB1 := H1.out.trans (hb1.mono H1.out.size)
  have hX1 : IsX w1 g 3 (signK 3 old6 2) := hX1
  have hsc := search_calls 3 (signK 3 old6 2) g new12 (some ⟨w1.heap.size, 0, none⟩) 12 12 _ (hX1.below h2.2) (by omega) (by rw [signK_len]; omega) (signK_wf 3 old6 2) h2.1 rfl (by omega) (by omega) (by omega) (Htab.out.below (hB1.trans (h2.2.mono hB1.size)))
  rw [o6_search] at hsc
  have Hsc := Lib.hid hsc
  have HB2 := Lib.hid (hB1.trans (h2.2.mono hB1.size))
  clear hX1 hb1 h2 hB1 hsc
  go_wp2_with fail
  refine Calls.mono Hsc.out ?_
  rintro e3 w3 ⟨v3, M, rfl, ho3, hM3, hb3⟩
  obtain ⟨A3, c3, hv3, -, -, q3, -⟩ := ho3.opens
  have hl3 : M.length = 4 := by rw [← ops_len, hM3]; rfl
  rw [hl3] at hv3
  subst hv3
  have HB3 := Lib.hid (HB2.out.trans (hb3.mono HB2.out.size))
  have h4 := four_row w3
  have hsm := Dl.same_calls M (fourR w3.heap.size (w3.heap.size + 1)) A3 4 c3 (some ⟨w3.heap.size + 2, 0, none⟩) 4 4 hl3.symm rfl (by omega) (by omega) _ (ReadO.more (q3.below h4.2) h4.2.size) h4.1
  rw [hM3, show ops (fourR w3.heap.size (w3.heap.size + 1)) = fourL by rfl, same_refl] at hsm
  have HB4 := Lib.hid (HB3.out.trans (h4.2.mono HB3.out.size))
  have HQ4 := Lib.hid (ReadO.below q3 h4.2)
  have Hsz : Hid (w3.heap.size ≤ ((Li.mkB ((Li.mkB (w3.alloc (.cells (bvs [120, 120]).toArray 5)) w3.heap.size).alloc (.cells (bvs [121]).toArray 5)) (w3.heap.size + 1)).alloc (.cells (rows opv (fourR w3.heap.size (w3.heap.size + 1))).toArray 40)).heap.size) := Lib.hid h4.2.size
  have Hsm := Lib.hid hsm
  have HM := Lib.hid hM3
  have Hl := Lib.hid hl3
  clear ho3 hM3 hb3 q3 hl3 h4 hsm Hix Hsc
  go_wp2_with (refine wpList_bsliceg _ (by go_simp; done) 31 40 4 _ rfl Tryd.underlying31 iO 4 48 Hi.out (by omega) (by omega) [(0, .agg #[.bool false, .int .i64 0, .int .i64 0, .slice (some ⟨w3.heap.size, 0, none⟩) 2 2]), (1, .agg #[.bool true, .int .i64 0, .int .i64 6, .slice none 0 0]), (2, .agg #[.bool false, .int .i64 0, .int .i64 0, .slice (some ⟨w3.heap.size + 1, 0, none⟩) 1 1]), (3, .agg #[.bool true, .int .i64 0, .int .i64 3, .slice none 0 0])] rfl [.bool false, .int .i64 0, .int .i64 0, .slice (some ⟨w3.heap.size, 0, none⟩) 2 2, .bool true, .int .i64 0, .int .i64 6, .slice none 0 0, .bool false, .int .i64 0, .int .i64 0, .slice (some ⟨w3.heap.size + 1, 0, none⟩) 1 1, .bool true, .int .i64 0, .int .i64 3, .slice none 0 0] (fun Z hZ => fill_four _ _ _ _ rfl rfl rfl rfl Z hZ) ?_)
  refine Calls.mono Hsm.out ?_
  rintro e5 w5 ⟨rfl, hb5⟩
  have HB5 := Lib.hid (HB4.out.trans (hb5.mono HB4.out.size))
  have hq5 : ReadO w5 w5.heap.size A3 M := ReadO.more (HQ4.out.below (hb5.mono Hsz.out)) (Nat.le_trans Hsz.out hb5.size)
  have hcp := Dl.copied_calls M A3 4 c3 Hl.out.symm (by omega) (by rw [HM.out]; exact four_bd1) w5 hq5
  rw [HM.out, four_copied] at hcp
  have Hcp := Lib.hid hcp
  have HQ5 := Lib.hid hq5
  clear hb5 hq5 hcp Hsm HQ4 Hsz
  go_wp2_with fail
  refine Calls.mono Hcp.out ?_
  rintro e6 w6 ⟨rfl, hb6⟩
  have HB6 := Lib.hid (HB5.out.trans (hb6.mono HB5.out.size))
  have hq6 : ReadO w6 w6.heap.size A3 M := ReadO.more (HQ5.out.below hb6) hb6.size
  have hlt := Dl.literal_calls M A3 4 c3 Hl.out.symm (by omega) (by rw [HM.out]; exact four_bd2) w6 hq6
  rw [HM.out, four_literal] at hlt
  have Hlt := Lib.hid hlt
  have HQ6 := Lib.hid hq6
  clear hb6 hq6 hlt Hcp HQ5
  go_wp2_with fail
  refine Calls.mono Hlt.out ?_
  rintro e7 w7 ⟨rfl, hb7⟩
  have HB7 := Lib.hid (HB6.out.trans (hb7.mono HB6.out.size))
  have hq7 : ReadO w7 w7.heap.size A3 M := ReadO.more (HQ6.out.below hb7) hb7.size
  have hs7 := Dl.msame_calls M M A3 4 c3 A3 4 c3 Hl.out.symm Hl.out.symm (by omega) (by omega) w7 hq7 hq7
  rw [HM.out, same_refl] at hs7
  have Hs7 := Lib.hid hs7
  have HQ7 := Lib.hid hq7
  clear hb7 hq7 hs7 Hlt HQ6
  go_wp2_with fail
  refine Calls.mono Hs7.out ?_
  rintro e8 w8 ⟨rfl, hb8⟩
  have HB8 := Lib.hid (HB7.out.trans (hb8.mono HB7.out.size))
  have hq8 : ReadO w8 w8.heap.size A3 M := ReadO.more (HQ7.out.below hb8) hb8.size
  have hs8 := Dl.msame_calls M [] A3 4 c3 none 0 0 Hl.out.symm rfl (by omega) (by omega) w8 hq8 ReadO.nil
  rw [HM.out, show ops [] = [] by rfl, four_nil] at hs8
  have Hs8 := Lib.hid hs8
  clear hb8 hq8 hs8 Hs7 HQ7
  go_wp2_with fail
  refine Calls.mono Hs8.out ?_
  rintro e9 w9 ⟨rfl, hb9⟩
  have HB9 := Lib.hid (HB8.out.trans (hb9.mono HB8.out.size))
  clear hb9 Hs8
  go_wp2_with fail
  go_ret
  exact ⟨rfl, HB9.out⟩
end Ms
end Go.Proofs.YtiofkhjpknfkgaaDoor
/- What gives up, to the program: must, and a number that is taken off. -/
namespace Go.Proofs.YtiofkhjpknfkgaaDoor
namespace Vm
theorem sh_facts (l : List UInt8) : (shortest l).1 < 4611686018427387904 ∧ ((shortest l).2.2 = 0 ∨ (shortest l).2.2 = 3 ∨ (shortest l).2.2 = 4) ∧ ((shortest l).2.2 = 0 → (shortest l).2.1 ≤ l.length) := by
  have h := get_bound l
  have h3 := h.2.2
  unfold shortest
  split
  · rename_i h0
    refine ⟨by simp, ?_, fun h => absurd h h0⟩
    rcases h3 with h3 | h3
    · exact absurd h3 h0
    · exact .inr (.inl h3)
  · split
    · exact ⟨by simp, .inr (.inr rfl), fun h => by simp at h⟩
    · rename_i h0 _
      have h0' : (get l).2.2 = 0 := by simpa using h0
      exact ⟨h.1, .inl h0', fun _ => (h.2.1 h0').2⟩
end Vm
namespace Dl
open Go.RowKit Ba Tm Dm Os_
set_option linter.unusedVariables false
/-- a fault with an error, as it is thrown -/
def flt (e : Int) : Value := .iface 126 (.agg #[.int .i64 e])
set_option maxHeartbeats 1000000 in
theorem must_ok (e : Int) (w : World) : Calls Tryd.prog 72 #[.bool true, .int .i64 e] w fun r w' => r = .returned (.tuple #[]) ∧ w = w' := by
  go_enter Tryd.func72, Tryd.ntmps72
  go_wp2
  go_end0
  exact ⟨rfl, rfl⟩
set_option maxHeartbeats 1000000 in
theorem must_no (e : Int) (w : World) : Calls Tryd.prog 72 #[.bool false, .int .i64 e] w fun r w' => r = .panicked [{ v := flt e, recovered := false }] ∧ w = w' := by
  go_enter Tryd.func72, Tryd.ntmps72
  go_wp2
  exact ⟨rfl, rfl, rfl⟩
set_option maxRecDepth 100000 in
set_option maxHeartbeats 2000000 in
theorem number_bad (l : List UInt8) (A : Option Addr) (n c B : Nat) (hn : n = l.length) (w : World) (h : ReadB w B A l) (hlc : n ≤ c) (hcm : c ≤ 9223372036854775807) (hs : (Vm.shortest l).2.2 ≠ 0) :
    Calls Tryd.prog 73 #[.slice A n c] w fun r w' => r = .panicked [{ v := flt (if (Vm.shortest l).2.2 = 4 then 4 else 0), recovered := false }] ∧ Below w.heap.size w w' := by
  subst hn
  have hsh := Vi.shortest_calls l A c B w h hlc hcm
  obtain ⟨hb1, hb2, hb3⟩ := Vm.sh_facts l
  generalize hz : Vm.shortest l = z at *
  obtain ⟨z1, z2, z3⟩ := z
  simp only at *
  have Hsh := Lib.hid hsh
  clear hsh hz h hb3
  rcases hb2 with rfl | rfl | rfl
  · exact absurd rfl hs
  · rw [if_neg (by omega)]
    go_enter Tryd.func73, Tryd.ntmps73
    go_wp2_with fail
    refine Calls.mono Hsh.out ?_
    rintro e1 w1 ⟨rfl, hb⟩
    have HB := Lib.hid hb
    clear hb
    go_wp2_with fail
    refine Calls.mono (must_no _ _) ?_
    rintro e2 w2 ⟨rfl, rfl⟩
    go_wp2_with fail
    exact ⟨rfl, rfl, HB.out⟩
  · rw [if_pos rfl]
    go_enter Tryd.func73, Tryd.ntmps73
    go_wp2_with fail
    refine Calls.mono Hsh.out ?_
    rintro e1 w1 ⟨rfl, hb⟩
    have HB := Lib.hid hb
    clear hb
    go_wp2_with fail
    refine Calls.mono (must_ok _ _) ?_
    rintro e2 w2 ⟨rfl, rfl⟩
    go_wp2_with fail
    refine Calls.mono (must_no _ _) ?_
    rintro e2 w2 ⟨rfl, rfl⟩
    go_wp2_with fail
    exact ⟨rfl, rfl, HB.out⟩
set_option maxRecDepth 100000 in
set_option maxHeartbeats 2000000 in
theorem number_ok (l : List UInt8) (A : Option Addr) (n c B : Nat) (hn : n = l.length) (w : World) (h : ReadB w B A l) (hlc : n ≤ c) (hcm : c ≤ 9223372036854775807) (hs : (Vm.shortest l).2.2 = 0) :
    Calls Tryd.prog 73 #[.slice A n c] w fun r w' => r = .returned (.tuple #[.int .i64 ((Vm.shortest l).1 : Int), .slice (if c = (Vm.shortest l).2.1 then A else A.map (·.add (Vm.shortest l).2.1)) (n - (Vm.shortest l).2.1) (c - (Vm.shortest l).2.1)]) ∧ Below w.heap.size w w' := by
  subst hn
  have hsh := Vi.shortest_calls l A c B w h hlc hcm
  obtain ⟨hb1, hb2, hb3⟩ := Vm.sh_facts l
  have hu := hb3 hs
  obtain ⟨i0, hi0⟩ := isByte_of Vi.info5
  have hsl := fun w' => sl_l (P := Tryd.prog) 22 5 i0 Tryd.underlying22 hi0 A l.length c ((Vm.shortest l).2.1 : Int) (Vm.shortest l).2.1 rfl hu w'
  generalize hz : Vm.shortest l = z at *
  obtain ⟨z1, z2, z3⟩ := z
  simp only at *
  subst hs
  obtain ⟨A6, hA6⟩ : ∃ A6, A6 = if c = z2 then A else A.map (·.add z2) := ⟨_, rfl⟩
  rw [← hA6] at hsl ⊢
  have Hsh := Lib.hid hsh
  clear hsh hz h hb3 hb2 hA6 hi0
  go_enter Tryd.func73, Tryd.ntmps73
  go_wp2_with fail
  refine Calls.mono Hsh.out ?_
  rintro e1 w1 ⟨rfl, hb⟩
  have HB := Lib.hid hb
  clear hb
  go_wp2_with fail
  refine Calls.mono (must_ok _ _) ?_
  rintro e2 w2 ⟨rfl, rfl⟩
  go_wp2_with fail
  refine Calls.mono (must_ok _ _) ?_
  rintro e2 w2 ⟨rfl, rfl⟩
  go_wp2_with fail
  refine CanT.region (fun _ => True) 1000 (.op 0 2 (.op 1 2 (.op 2 2 (.op 3 2 (.op 4 2 (.op 5 2 (.nil))))))) (by kernel_rfl) (by kernel_rfl) trivial ?_
  repeat (first | (refine CanT.skip rfl ?_ (fun K hK => ?_); (focus (go_simp; done)); go_simp; refine hK _ ?_; clear hK K) | (refine CanT.pur rfl ?_ ?_; (focus (go_simp; done)); refine ⟨?_, ?_, ?_⟩; rotate_left; (focus (intro w'; go_simp; rfl)); (focus (intro K hK; go_simp; refine hK _ ?_; clear hK K))))
  refine CanT.done ?_
  go_wp2_with fail
  go_ret2
  exact ⟨rfl, HB.out.drew⟩
end Dl
end Go.Proofs.YtiofkhjpknfkgaaDoor
/- The deferred call behind an operation that is taken off: what gave up is caught. -/
namespace Go.Proofs.YtiofkhjpknfkgaaDoor
namespace Dl
open Go.RowKit Ba Tm Dm Os_
set_option linter.unusedVariables false
/-- the frame's variables: the bytes, and the four results -/
def Fr (w : World) (N : Nat) (b : Value) (c : Bool) (p n : Int) (d r : Value) (th : Bool) (e : Int) : Prop :=
  Blk w N 22 #[b] ∧ Blk w (N + 1) 40 #[.bool c, .int .i64 p, .int .i64 n, d] ∧ Blk w (N + 1 + 1) 22 #[r] ∧ Blk w (N + 1 + 1 + 1) 4 #[.bool th] ∧ Blk w (N + 1 + 1 + 1 + 1) 35 #[.int .i64 e]
theorem Fr.below {w w' : World} {N : Nat} {b : Value} {c : Bool} {p n : Int} {d r : Value} {th : Bool} {e : Int} (h : Fr w N b c p n d r th e) (hb : Below w.heap.size w w') : Fr w' N b c p n d r th e := by
  obtain ⟨h1, h2, h3, h4, h5⟩ := h
  exact ⟨h1.below hb h1.lt, h2.below hb h2.lt, h3.below hb h3.lt, h4.below hb h4.lt, h5.below hb h5.lt⟩
section
variable {w : World} {N : Nat} {b : Value} {c : Bool} {p n : Int} {d r : Value} {th : Bool} {e : Int}
theorem Fr.cells (h : Fr w N b c p n d r th e) : w.cell? ⟨N, 0, none⟩ = some b ∧ (w.cell? ⟨N + 1, 0, none⟩ = some (.bool c) ∧ w.cell? ⟨N + 1, 1, none⟩ = some (.int .i64 p) ∧ w.cell? ⟨N + 1, 2, none⟩ = some (.int .i64 n) ∧ w.cell? ⟨N + 1, 3, none⟩ = some d ∧ w.rangeAt (N + 1) 0 [.bool c, .int .i64 p, .int .i64 n, d]) ∧ w.cell? ⟨N + 1 + 1, 0, none⟩ = some r ∧ w.cell? ⟨N + 1 + 1 + 1, 0, none⟩ = some (.bool th) ∧ w.cell? ⟨N + 1 + 1 + 1 + 1, 0, none⟩ = some (.int .i64 e) := by
  obtain ⟨h1, h2, h3, h4, h5⟩ := h
  refine ⟨by rw [Blk.cell h1]; rfl, ⟨by rw [Blk.cell h2]; rfl, by rw [Blk.cell h2]; rfl, by rw [Blk.cell h2]; rfl, by rw [Blk.cell h2]; rfl, fun j v hv => ?_⟩, by rw [Blk.cell h3]; rfl, by rw [Blk.cell h4]; rfl, by rw [Blk.cell h5]; rfl⟩
  rw [Blk.cell h2, Nat.zero_add]
  simpa using hv
theorem Fr.froz (h : Fr w N b c p n d r th e) : (∀ i, w.frozen? ⟨N, i, none⟩ = false) ∧ (∀ i, w.frozen? ⟨N + 1, i, none⟩ = false) ∧ (∀ i, w.frozen? ⟨N + 1 + 1, i, none⟩ = false) ∧ (∀ i, w.frozen? ⟨N + 1 + 1 + 1, i, none⟩ = false) ∧ ∀ i, w.frozen? ⟨N + 1 + 1 + 1 + 1, i, none⟩ = false :=
  ⟨Blk.frozen h.1, Blk.frozen h.2.1, Blk.frozen h.2.2.1, Blk.frozen h.2.2.2.1, Blk.frozen h.2.2.2.2⟩
theorem Fr.set2 (h : Fr w N b c p n d r th e) (r' : Value) : Fr (w.setCell ⟨N + 1 + 1, 0, none⟩ r') N b c p n d r' th e := by
  obtain ⟨h1, h2, h3, h4, h5⟩ := h
  exact ⟨h1.far (by first | (simp; done) | (simp; omega)) _, h2.far (by first | (simp; done) | (simp; omega)) _, Blk.set_ h3 0 _, h4.far (by first | (simp; done) | (simp; omega)) _, h5.far (by first | (simp; done) | (simp; omega)) _⟩
theorem Fr.set3 (h : Fr w N b c p n d r th e) (t : Bool) : Fr (w.setCell ⟨N + 1 + 1 + 1, 0, none⟩ (.bool t)) N b c p n d r t e := by
  obtain ⟨h1, h2, h3, h4, h5⟩ := h
  exact ⟨h1.far (by first | (simp; done) | (simp; omega)) _, h2.far (by first | (simp; done) | (simp; omega)) _, h3.far (by first | (simp; done) | (simp; omega)) _, Blk.set_ h4 0 _, h5.far (by first | (simp; done) | (simp; omega)) _⟩
theorem Fr.set4 (h : Fr w N b c p n d r th e) (x : Int) : Fr (w.setCell ⟨N + 1 + 1 + 1 + 1, 0, none⟩ (.int .i64 x)) N b c p n d r th x := by
  obtain ⟨h1, h2, h3, h4, h5⟩ := h
  exact ⟨h1.far (by first | (simp; done) | (simp; omega)) _, h2.far (by first | (simp; done) | (simp; omega)) _, h3.far (by first | (simp; done) | (simp; omega)) _, h4.far (by first | (simp; done) | (simp; omega)) _, Blk.set_ h5 0 _⟩
theorem Fr.setc (h : Fr w N b c p n d r th e) (c' : Bool) : Fr (w.setCell ⟨N + 1, 0, none⟩ (.bool c')) N b c' p n d r th e := by
  obtain ⟨h1, h2, h3, h4, h5⟩ := h
  exact ⟨h1.far (by first | (simp; done) | (simp; omega)) _, Blk.set_ h2 0 _, h3.far (by first | (simp; done) | (simp; omega)) _, h4.far (by first | (simp; done) | (simp; omega)) _, h5.far (by first | (simp; done) | (simp; omega)) _⟩
theorem Fr.setp (h : Fr w N b c p n d r th e) (p' : Int) : Fr (w.setCell ⟨N + 1, 1, none⟩ (.int .i64 p')) N b c p' n d r th e := by
  obtain ⟨h1, h2, h3, h4, h5⟩ := h
  exact ⟨h1.far (by first | (simp; done) | (simp; omega)) _, Blk.set_ h2 1 _, h3.far (by first | (simp; done) | (simp; omega)) _, h4.far (by first | (simp; done) | (simp; omega)) _, h5.far (by first | (simp; done) | (simp; omega)) _⟩
theorem Fr.setn (h : Fr w N b c p n d r th e) (n' : Int) : Fr (w.setCell ⟨N + 1, 2, none⟩ (.int .i64 n')) N b c p n' d r th e := by
  obtain ⟨h1, h2, h3, h4, h5⟩ := h
  exact ⟨h1.far (by first | (simp; done) | (simp; omega)) _, Blk.set_ h2 2 _, h3.far (by first | (simp; done) | (simp; omega)) _, h4.far (by first | (simp; done) | (simp; omega)) _, h5.far (by first | (simp; done) | (simp; omega)) _⟩
theorem Fr.setd (h : Fr w N b c p n d r th e) (d' : Value) : Fr (w.setCell ⟨N + 1, 3, none⟩ d') N b c p n d' r th e := by
  obtain ⟨h1, h2, h3, h4, h5⟩ := h
  exact ⟨h1.far (by first | (simp; done) | (simp; omega)) _, Blk.set_ h2 3 _, h3.far (by first | (simp; done) | (simp; omega)) _, h4.far (by first | (simp; done) | (simp; omega)) _, h5.far (by first | (simp; done) | (simp; omega)) _⟩
theorem Fr.row1 {w' : World} {c' : Bool} {p' n' : Int} {d' : Value} (h : Fr w N b c p n d r th e) (hB : Blk w' (N + 1) 40 #[.bool c', .int .i64 p', .int .i64 n', d']) (hg : w.grownBy w' (some (N + 1))) : Fr w' N b c' p' n' d' r th e := by
  obtain ⟨h1, h2, h3, h4, h5⟩ := h
  exact ⟨h1.grown hg (by first | (simp; done) | (simp; omega)), hB, h3.grown hg (by first | (simp; done) | (simp; omega)), h4.grown hg (by first | (simp; done) | (simp; omega)), h5.grown hg (by first | (simp; done) | (simp; omega))⟩
theorem Fr.lt (h : Fr w N b c p n d r th e) : N + 1 + 1 + 1 + 1 < w.heap.size := h.2.2.2.2.lt
end
theorem step_storeR {P : Program} {ops : Array Oper} {o : Oper} {a : Act} {w : World} {K : Act → World → Prop} {Q : Exit → Act → World → Prop} {R : Prop} (hgd : Region.wanted o (yielded ops a.tmps) = true) (ty : TypeId) (x y : Operand) (ho : o.op = .store ty x y)
    (g : Nat) (cells : Array Value) (hx : a.eval x = .pointer (some ⟨g, 0, none⟩)) (hy : a.eval y = .agg cells) (t : TypeId) (old : Array Value) (hg : Blk w g t old) (hi : (P.info? ty).map (·.size) = some cells.size) (hold : old.size = cells.size) (h1 : cells.all (·.oneCell') = true)
    (h : ∀ w', Blk w' g t cells → w.grownBy w' (some g) → K (a.put o.dst undef) w') : if Region.wanted o (yielded ops a.tmps) = true then Oper.wp P o a w K Q else R := by
  rw [if_pos hgd]
  exact wp_store_row ty x y ho g cells hx hy t old hg hi hold h1 (h _ (setRow_heap w g _ _ t _ hg) ⟨rfl, rfl, rfl, by simp, fun k hk hne => setRow_other w g k _ (fun e => hne (by rw [e]))⟩)
theorem loadVar_cell {P : Program} (w : World) (g : Nat) (t ty : TypeId) (v : Value) (hB : Blk w g t #[v]) (ha : (isAgg ty).run P w = .ok false w) : (loadVar ty ⟨g, 0, none⟩).run P w = .ok v w := by
  have hc : w.cell? ⟨g, 0, none⟩ = some v := by rw [Blk.cell hB]; rfl
  simp [loadVar, Sem.run_bind, ha, hc]
theorem take_results (tm : Array Value) (w : World) (N : Nat) (b : Value) (c : Bool) (p n : Int) (d r : Value) (th : Bool) (e : Int) (h : Fr w N b c p n d r th e)
    (h6 : tm.getD 6 undef = .pointer (some ⟨N + 1, 0, none⟩)) (h7 : tm.getD 7 undef = .pointer (some ⟨N + 1 + 1, 0, none⟩)) (h8 : tm.getD 8 undef = .pointer (some ⟨N + 1 + 1 + 1, 0, none⟩)) (h9 : tm.getD 9 undef = .pointer (some ⟨N + 1 + 1 + 1 + 1, 0, none⟩)) :
    (results Tryd.f55 tm).run Tryd.prog w = .ok (.tuple #[.agg #[.bool c, .int .i64 p, .int .i64 n, d], r, .bool th, .int .i64 e]) w := by
  obtain ⟨h1, h2, h3, h4, h5⟩ := h
  have l6 := run_loadVar_row (P := Tryd.prog) w (N + 1) 40 40 #[.bool c, .int .i64 p, .int .i64 n, d] (0, 0) _ h2 Tryd.underlying40 rfl (by kernel_rfl)
  have l7 := loadVar_cell (P := Tryd.prog) w (N + 1 + 1) 22 22 r h3 (by unfold isAgg; rw [Sem.run_bind, run_underlying Tryd.underlying22 w]; rfl)
  have l8 := loadVar_cell (P := Tryd.prog) w (N + 1 + 1 + 1) 4 4 (.bool th) h4 (by unfold isAgg; rw [Sem.run_bind, run_underlying Tryd.underlying4 w]; rfl)
  have l9 := loadVar_cell (P := Tryd.prog) w (N + 1 + 1 + 1 + 1) 35 35 (.int .i64 e) h5 (by unfold isAgg; rw [Sem.run_bind, run_underlying Tryd.underlying35 w]; rfl)
  simp only [Array.getD_eq_getD_getElem?] at h6 h7 h8 h9
  simp [results, Tryd.results55, asAddr, h6, h7, h8, h9, l6, l7, l8, l9, Sem.run_bind]
theorem rep13 : Array.replicate 13 undef = #[undef, undef, undef, undef, undef, undef, undef, undef, undef, undef, undef, undef, undef] := rfl
def frArgs (N : Nat) : Array Value := #[.pointer (some ⟨N, 0, none⟩), .pointer (some ⟨N + 1, 0, none⟩), .pointer (some ⟨N + 1 + 1, 0, none⟩), .pointer (some ⟨N + 1 + 1 + 1, 0, none⟩), .pointer (some ⟨N + 1 + 1 + 1 + 1, 0, none⟩)]
set_option maxHeartbeats 1000000 in
theorem catch_idle (N : Nat) (w : World) : CallsD Tryd.prog 71 (frArgs N) .returning w fun e u' w' => e = .returned (.tuple #[]) ∧ u' = .returning ∧ w' = w := by
  refine callsD_of_wpS Tryd.func71 rfl fun c₀ cs hu => ?_
  apply wpS_seq
  apply wpS_region
  simp [wpOpsS, go_sem, recoverD, hu, Tryd.ntmps71, Exit.thenS, frArgs, flt, rep13]
  refine wpS_of_wp ?_
  go_wp2
  cases c₀
  simp_all [bodyPostS, results, Tryd.results71]
set_option maxRecDepth 100000 in
set_option maxHeartbeats 2000000 in
theorem catch_fault (N : Nat) (bA : Option Addr) (bn bc : Nat) (c : Bool) (p n : Int) (d r : Value) (th : Bool) (e0 e : Int) (older : List PanicEntry) (w : World) (h : Fr w N (.slice bA bn bc) c p n d r th e0) :
    CallsD Tryd.prog 71 (frArgs N) (.panicking ({ v := flt e, recovered := false } :: older)) w fun x u' w' => x = .returned (.tuple #[]) ∧ u' = .panicking ({ v := flt e, recovered := true } :: older) ∧ Fr w' N (.slice bA bn bc) false 0 0 (.slice none 0 0) (.slice bA bn bc) false e ∧ Below N w w' := by
  refine callsD_of_wpS Tryd.func71 rfl fun c₀ cs hu => ?_
  apply wpS_seq
  apply wpS_region
  simp [wpOpsS, go_sem, recoverD, hu, Tryd.ntmps71, Exit.thenS, frArgs, flt, rep13]
  refine wpS_of_wp ?_
  have hta : ∀ w', (Instr.typeAssert (.iface 126 (.agg #[.int .i64 e])) 20 126 true).run Tryd.prog w' = .ok (.tuple #[.agg #[.int .i64 e], .bool true]) w' := fun w' => by simp [Instr.typeAssert, run_underlying Tryd.underlying126]
  have Hh := Lib.hid h
  clear h
  go_wp2_with fail
  have hF0 : Fr (w.alloc (.cells #[.int .i64 e] 126)).drew N (.slice bA bn bc) c p n d r th e0 := Hh.out.below (((Below.refl _ _).alloc (Nat.le_refl _) _).drew)
  have hG0 : Blk (w.alloc (.cells #[.int .i64 e] 126)).drew w.heap.size 126 #[.int .i64 e] := heap_alloc_new w _
  have hW0 : Below N w (w.alloc (.cells #[.int .i64 e] 126)).drew := ((Below.refl _ _).alloc (by have := Hh.out.lt; omega) _).drew
  have hlt : N + 1 + 1 + 1 + 1 < w.heap.size := Hh.out.lt
  have hFc : ∀ W : World, ∀ c' p' n' d' r' th' e', Fr W N (.slice bA bn bc) c' p' n' d' r' th' e' → Blk W w.heap.size 126 #[.int .i64 e] → W.cell? ⟨N, 0, none⟩ = some (.slice bA bn bc) ∧ W.cell? ⟨w.heap.size, 0, none⟩ = some (.int .i64 e) := fun W c' p' n' d' r' th' e' h1 h2 => ⟨h1.cells.1, by rw [Blk.cell h2]; rfl⟩
  refine CanT.region (fun W => W.cell? ⟨N, 0, none⟩ = some (.slice bA bn bc) ∧ W.cell? ⟨w.heap.size, 0, none⟩ = some (.int .i64 e)) 1000 (.op 0 2 (.op 1 1 (.op 2 2 (.op 3 1 (.op 4 0 (.op 5 0 (.op 6 0 (.op 7 0 (.nil))))))))) (by kernel_rfl) (by kernel_rfl) (hFc _ _ _ _ _ _ _ _ hF0 hG0) ?_
  have HFc := Lib.hid hFc
  generalize (w.alloc (.cells #[.int .i64 e] 126)).drew = W0 at *
  clear hFc
  repeat (first | (refine CanT.skip rfl ?_ (fun K hK => ?_); (focus (go_simp; done)); go_simp; refine hK _ ?_; clear hK K) | (refine CanT.pur rfl ?_ ?_; (focus (go_simp; done)); refine ⟨?_, ?_, ?_⟩; rotate_left; (focus (intro w'; go_simp; rfl)); (focus (intro K hK; go_simp; refine hK _ ?_; clear hK K))) | (refine CanT.cellG rfl ?_ (.slice bA bn bc) (.slice bA bn bc) ⟨N, 0, none⟩ (fun w1 h => h.1) ?_ (fun K hK => ?_); (focus (go_simp; done)); (focus (intro w' hc'; go_simp; (try rfl))); go_simp; refine hK _ ?_; clear hK K) | (refine CanT.cellG rfl ?_ (.int .i64 e) (.int .i64 e) ⟨w.heap.size, 0, none⟩ (fun w1 h => h.2) ?_ (fun K hK => ?_); (focus (go_simp; done)); (focus (intro w' hc'; go_simp; (try rfl))); go_simp; refine hK _ ?_; clear hK K))
  refine CanT.imp rfl (fun K hK => ?_)
  refine step_storeR ?_ 40 (.tmp 1) (.tmp 14) rfl (N + 1) #[.bool false, .int .i64 0, .int .i64 0, .slice none 0 0] rfl rfl 40 _ hF0.2.1 (by kernel_rfl) rfl (all_oneCell_toArray (opv_one (⟨false, 0, 0, []⟩, none, 0))) ?_
  focus (go_simp; done)
  intro W1 hB1 hg1
  have hF1 := hF0.row1 hB1 hg1
  have hG1 : Blk W1 w.heap.size 126 #[.int .i64 e] := hG0.grown hg1 (by first | (simp; done) | (simp; omega))
  have hW1 : Below N w W1 := hW0.trans (below_of_only hg1 (by omega) (by have := hF0.lt; omega))
  (try go_simp)
  refine hK.out _ _ (HFc.out _ _ _ _ _ _ _ _ hF1 hG1) ?_
  clear hK K hF0 hG0 hW0 hB1 hg1
  obtain ⟨c0, ⟨d0, d1, d2, d3, -⟩, c2, c3, c4⟩ := hF1.cells
  obtain ⟨z0, z1, z2, z3, z4⟩ := hF1.froz
  refine CanT.imp rfl (fun K hK => ?_)
  go_simp
  have hF2 := hF1.set2 (.slice bA bn bc)
  have hG2 := hG1.far (p := ⟨N + 1 + 1, 0, none⟩) (by first | (simp; done) | (simp; omega)) (.slice bA bn bc)
  have hW2 := hW1.setCell (p := ⟨N + 1 + 1, 0, none⟩) (by first | (simp; done) | (simp; omega)) (.slice bA bn bc)
  refine hK.out _ _ (HFc.out _ _ _ _ _ _ _ _ hF2 hG2) ?_
  clear hK K hF1 hG1 hW1 c0 d0 d1 d2 d3 c2 c3 c4 z0 z1 z2 z3 z4
  generalize W1.setCell ⟨N + 1 + 1, 0, none⟩ (.slice bA bn bc) = W2 at *
  obtain ⟨c0, ⟨d0, d1, d2, d3, -⟩, c2, c3, c4⟩ := hF2.cells
  obtain ⟨z0, z1, z2, z3, z4⟩ := hF2.froz
  refine CanT.imp rfl (fun K hK => ?_)
  go_simp
  have hF3 := hF2.set3 false
  have hG3 := hG2.far (p := ⟨N + 1 + 1 + 1, 0, none⟩) (by first | (simp; done) | (simp; omega)) (.bool false)
  have hW3 := hW2.setCell (p := ⟨N + 1 + 1 + 1, 0, none⟩) (by first | (simp; done) | (simp; omega)) (.bool false)
  refine hK.out _ _ (HFc.out _ _ _ _ _ _ _ _ hF3 hG3) ?_
  clear hK K hF2 hG2 hW2 c0 d0 d1 d2 d3 c2 c3 c4 z0 z1 z2 z3 z4
  generalize W2.setCell ⟨N + 1 + 1 + 1, 0, none⟩ (.bool false) = W3 at *
  obtain ⟨c0, ⟨d0, d1, d2, d3, -⟩, c2, c3, c4⟩ := hF3.cells
  obtain ⟨z0, z1, z2, z3, z4⟩ := hF3.froz
  refine CanT.imp rfl (fun K hK => ?_)
  go_simp
  have hF4 := hF3.set4 e
  have hG4 := hG3.far (p := ⟨N + 1 + 1 + 1 + 1, 0, none⟩) (by first | (simp; done) | (simp; omega)) (.int .i64 e)
  have hW4 := hW3.setCell (p := ⟨N + 1 + 1 + 1 + 1, 0, none⟩) (by first | (simp; done) | (simp; omega)) (.int .i64 e)
  refine hK.out _ _ (HFc.out _ _ _ _ _ _ _ _ hF4 hG4) ?_
  clear hK K hF3 hG3 hW3 c0 d0 d1 d2 d3 c2 c3 c4 z0 z1 z2 z3 z4
  generalize W3.setCell ⟨N + 1 + 1 + 1 + 1, 0, none⟩ (.int .i64 e) = W4 at *
  have HF := Lib.hid hF4
  have HW := Lib.hid hW4
  clear hF4 hW4 hG4 hta
  refine CanT.done ?_
  go_wp2_with fail
  have e1 := HF.out
  have e2 := HW.out
  cases c₀
  simp_all [bodyPostS, results, Tryd.results71]
end Dl
end Go.Proofs.YtiofkhjpknfkgaaDoor
/- The operation that bytes begin with, case by case: plain words. -/
namespace Go.Proofs.YtiofkhjpknfkgaaDoor
namespace Dm
open Tm
set_option linter.unusedVariables false
/-- an operation that is taken off: it is not there, with an error or without one -/
def takeE (l : List UInt8) (old room : Int) : Int := if (one l old).2.2 ≠ 0 then (one l old).2.2 else if (one l old).2.1 = 0 then 0 else 5
def takeOk (l : List UInt8) (old room : Int) : Prop := (one l old).2.2 = 0 ∧ (one l old).2.1 ≠ 0 ∧ makes (one l old).1 ≤ room
theorem take_not {l : List UInt8} {old room : Int} {e : Int} (h : one l old = (none_, 0, e)) : ¬ takeOk l old room ∧ takeE l old room = e := by
  unfold takeOk takeE
  rw [h]
  refine ⟨fun h => h.2.1 rfl, ?_⟩
  by_cases he : e = 0
  · simp [he]
  · simp [he]
theorem take_long {l : List UInt8} {old room : Int} {x : O} {u : Nat} (h : one l old = (x, u, 0)) (hu : u ≠ 0) (hm : ¬ makes x ≤ room) : ¬ takeOk l old room ∧ takeE l old room = 5 := by
  unfold takeOk takeE
  rw [h]
  exact ⟨fun h => hm h.2.2, by simp [hu]⟩
theorem take_yes {l : List UInt8} {old room : Int} {x : O} {u : Nat} (h : one l old = (x, u, 0)) (hu : u ≠ 0) (hm : makes x ≤ room) : takeOk l old room := by
  unfold takeOk
  rw [h]
  exact ⟨rfl, hu, hm⟩
section
variable (c : UInt8) (t : List UInt8) (old : Int)
theorem one_nil : one [] old = (none_, 0, 0) := rfl
theorem one_big (h : ¬ c.toNat ≤ 1) : one (c :: t) old = (none_, 0, 4) := by
  show (if 1 < c.toNat then _ else _) = _
  rw [if_pos (by omega)]
theorem one_bad1 (h : c.toNat ≤ 1) (hs : (Vm.shortest t).2.2 ≠ 0) : one (c :: t) old = (none_, 0, if (Vm.shortest t).2.2 = 4 then 4 else 0) := by
  show (if 1 < c.toNat then _ else _) = _
  rw [if_neg (by omega)]
  by_cases h4 : (Vm.shortest t).2.2 = 4
  · rw [if_pos h4, if_pos h4]
  · rw [if_neg h4, if_pos hs, if_neg h4]
theorem one_litE (h : c.toNat = 0) (hs : (Vm.shortest t).2.2 = 0) : one (c :: t) old =
    if 65536 < (Vm.shortest t).1 then (none_, 0, 5) else if (Vm.shortest t).1 = 0 then (none_, 0, 4) else if (t.drop (Vm.shortest t).2.1).length < (Vm.shortest t).1 then (none_, 0, 0) else
      (lit ((t.drop (Vm.shortest t).2.1).take (Vm.shortest t).1), 1 + (Vm.shortest t).2.1 + (Vm.shortest t).1, 0) := by
  show (if 1 < c.toNat then _ else _) = _
  rw [if_neg (by omega), if_neg (by omega), if_neg (by omega), if_pos h]
theorem one_cp (h : c.toNat = 1) (hs : (Vm.shortest t).2.2 = 0) : one (c :: t) old =
    if (Vm.shortest (t.drop (Vm.shortest t).2.1)).2.2 = 4 then (none_, 0, 4) else if (Vm.shortest (t.drop (Vm.shortest t).2.1)).2.2 ≠ 0 then (none_, 0, 0) else
      if may (cp ((Vm.shortest t).1 : Int) ((Vm.shortest (t.drop (Vm.shortest t).2.1)).1 : Int)) old then (cp ((Vm.shortest t).1 : Int) ((Vm.shortest (t.drop (Vm.shortest t).2.1)).1 : Int), 1 + (Vm.shortest t).2.1 + (Vm.shortest (t.drop (Vm.shortest t).2.1)).2.1, 0) else (none_, 0, 4) := by
  show (if 1 < c.toNat then _ else _) = _
  rw [if_neg (by omega), if_neg (by omega), if_neg (by omega), if_neg (by omega)]
theorem one_bad2 (h : c.toNat = 1) (hs : (Vm.shortest t).2.2 = 0) (h2 : (Vm.shortest (t.drop (Vm.shortest t).2.1)).2.2 ≠ 0) : one (c :: t) old = (none_, 0, if (Vm.shortest (t.drop (Vm.shortest t).2.1)).2.2 = 4 then 4 else 0) := by
  rw [one_cp c t old h hs]
  by_cases h4 : (Vm.shortest (t.drop (Vm.shortest t).2.1)).2.2 = 4
  · rw [if_pos h4, if_pos h4]
  · rw [if_neg h4, if_pos h2, if_neg h4]
end
end Dm
end Go.Proofs.YtiofkhjpknfkgaaDoor
