/- An index of a file; the closed case: what every right program finds in one file. -/
import Derived.Test.YtiofkhjpknfkgaaDoorM01
import Derived.Test.YtiofkhjpknfkgaaDoorM02
import Derived.Test.YtiofkhjpknfkgaaDoorM03
import Derived.Test.YtiofkhjpknfkgaaDoorM04
import Derived.Test.YtiofkhjpknfkgaaDoorM05
import Derived.Test.YtiofkhjpknfkgaaDoorM06
import Derived.Test.YtiofkhjpknfkgaaDoorM07
import Derived.Test.YtiofkhjpknfkgaaDoorM08
import Derived.Test.YtiofkhjpknfkgaaDoorM09
import Derived.Test.YtiofkhjpknfkgaaDoorM10
import Derived.Test.YtiofkhjpknfkgaaDoorM11
import Derived.Test.YtiofkhjpknfkgaaDoorM12
import Derived.Test.YtiofkhjpknfkgaaDoorM13
import Derived.Test.YtiofkhjpknfkgaaDoorM14
import Derived.Test.YtiofkhjpknfkgaaDoorM15
import Derived.Test.YtiofkhjpknfkgaaDoorM16
import Derived.ProofKit
import Derived.OpenShut
import Derived.ShutString
import Derived.ChangeOld
import Derived.SizedLaws
import Derived.ChangeSlices
import Derived.Test.YtiofkhjpknfkgaaDoorRows
import Derived.LaidMore
import Derived.Stop.Joined
import Derived.Lib.LaidTab
import Derived.Deep.Slices
namespace Go.Proofs.YtiofkhjpknfkgaaDoor
namespace Ms
open Go.RowKit Ba Tm Os_ Bk Ro Sm
set_option linter.unusedVariables false
theorem sign_good (b : List UInt8) (z : Nat) (hz : 1 ≤ z ∧ z ≤ 4096) (hb : b.length ≤ 4096) : sign (z : Int) b = (signK z b (b.length / z), 0) := by
  have := Nat.div_le_self b.length z
  unfold sign
  rw [if_neg (by omega), if_neg (by simp only [Int.toNat_natCast]; omega)]
  simp
theorem check_sign (b : List UInt8) (z : Nat) (hz : 1 ≤ z ∧ z ≤ 4096) (hb : b.length ≤ 4096) : check (z : Int) (b.length : Int) (signK z b (b.length / z)).length = 0 := by
  have := Nat.div_le_self b.length z
  unfold check
  rw [signK_len, if_neg (by omega), if_neg (by omega), if_neg]
  rintro (h | h)
  · exact h (by rw [Int.natCast_ediv])
  · omega
set_option maxRecDepth 100000 in
set_option maxHeartbeats 2000000 in
theorem index_calls (old : List UInt8) (z : Nat) (A : Option Addr) (n c : Nat) (w : World) (hn : n = old.length) (hz : 1 ≤ z ∧ z ≤ 4096) (ho : n ≤ 4096) (hc : n ≤ c) (hcm : c ≤ 9223372036854775807) (hr : ReadB w w.heap.size A old) (htab : Tab w) :
    Calls Tryd.prog 10 #[.slice A n c, .int .i64 (z : Int)] w fun e w' => ∃ g, e = .returned (.tuple #[.pointer (some ⟨g, 0, none⟩), .bool true]) ∧ w.heap.size ≤ g ∧ IsX w' g z (signK z old (old.length / z)) ∧ Below w.heap.size w w' := by
  have hsg := sign_calls old (z : Int) A c w hr (by omega) hcm (by omega) htab
  rw [sign_good old z hz (by omega)] at hsg
  have hck := check_sign old z hz (by omega)
  have hwf := signK_wf z old (old.length / z)
  obtain ⟨L, hL⟩ : ∃ L, L = signK z old (old.length / z) := ⟨_, rfl⟩
  rw [← hL] at hsg hck hwf ⊢
  rw [← hn] at hsg hck
  have hnew := fun w1 A1 c1 h => new_good z (n : Int) L A1 c1 (by omega) w1 hck h hwf
  obtain ⟨m, hm⟩ : ∃ m, m = L.length := ⟨_, rfl⟩
  rw [← hm] at hnew
  have Hm := Lib.hid hm
  have Hsg := Lib.hid hsg
  have Hnew := Lib.hid hnew
  clear hsg hck hwf hL hnew hr htab hn hm
  go_enter Tryd.func10, Tryd.ntmps10
  go_wp2_with fail
  refine Calls.mono Hsg.out ?_
  rintro e1 w1 ⟨v1, rfl, ho1, hb1⟩
  obtain ⟨A1, c1, rfl, -, -, q1, -⟩ := ho1.opens
  have Hq1 := Lib.hid q1
  have Hb1 := Lib.hid hb1
  rw [← Hm.out]
  clear ho1 hb1 q1
  go_wp2_with fail
  refine Calls.mono (Hnew.out w1 A1 c1 Hq1.out) ?_
  rintro e2 w2 ⟨g, rfl, hg2, hX2, hb2⟩
  have HX2 := Lib.hid hX2
  have Hg2 := Lib.hid hg2
  have Hb2 := Lib.hid (Hb1.out.trans (hb2.mono Hb1.out.size))
  clear hX2 hb2 hg2
  go_wp2_with fail
  go_ret2
  exact ⟨g, rfl, Nat.le_trans Hb1.out.size Hg2.out, HX2.out, Hb2.out⟩
/-! ### one file -/
def old6 : List UInt8 := [97, 98, 99, 100, 101, 102]
def new12 : List UInt8 := [120, 120, 97, 98, 99, 100, 101, 102, 121, 97, 98, 99]
def fourL : List O := [lit [120, 120], cp 0 6, lit [121], cp 0 3]
theorem o6_sign : signK 3 old6 2 = [sgOf [97, 98, 99], sgOf [100, 101, 102]] := by
  show [sgOf (blk 3 old6 0), sgOf (blk 3 old6 1)] = _
  rw [show blk 3 old6 0 = [97, 98, 99] by decide, show blk 3 old6 1 = [100, 101, 102] by decide]
theorem o6_find (x : List UInt8) (hx : x.length = 3) : findB 3 (signK 3 old6 2) x = if sgOf [97, 98, 99] = sgOf x then (0, true) else if sgOf [100, 101, 102] = sgOf x then (3, true) else (0, false) := by
  have e0 : findB 3 (signK 3 old6 2) x = tellIx 3 (findIx (signK 3 old6 2) (sgOf x)) := if_pos hx
  rw [e0, o6_sign]
  generalize sgOf [97, 98, 99] = p
  generalize sgOf [100, 101, 102] = q
  generalize sgOf x = r
  have e : findIx [p, q] r = List.find? (fun i => sg [p, q] i == r) [0, 1] := rfl
  rw [e]
  have h0 : sg [p, q] 0 = p := rfl
  have h1 : sg [p, q] 1 = q := rfl
  by_cases hp : p = r
  · rw [List.find?_cons_of_pos (by rw [h0]; exact beq_iff_eq.2 hp), if_pos hp]; rfl
  · rw [List.find?_cons_of_neg (by rw [h0]; simpa using hp), if_neg hp]
    by_cases hq : q = r
    · rw [List.find?_cons_of_pos (by rw [h1]; exact beq_iff_eq.2 hq), if_pos hq]; rfl
    · rw [List.find?_cons_of_neg (by rw [h1]; simpa using hq), if_neg hq]; rfl
theorem sg_ne {x y : List UInt8} (h : rsum x ≠ rsum y) : sgOf x ≠ sgOf y := fun e => h (congrArg Prod.fst e)
theorem o6_search : search (findB 3 (signK 3 old6 2)) 3 new12 = fourL := by
  have f0 : findB 3 (signK 3 old6 2) [120, 120, 97] = (0, false) := by rw [o6_find _ rfl, if_neg (sg_ne (by decide)), if_neg (sg_ne (by decide))]
  have f1 : findB 3 (signK 3 old6 2) [120, 97, 98] = (0, false) := by rw [o6_find _ rfl, if_neg (sg_ne (by decide)), if_neg (sg_ne (by decide))]
  have f2 : findB 3 (signK 3 old6 2) [97, 98, 99] = (0, true) := by rw [o6_find _ rfl, if_pos rfl]
  have f5 : findB 3 (signK 3 old6 2) [100, 101, 102] = (3, true) := by rw [o6_find _ rfl, if_neg (sg_ne (by decide)), if_pos rfl]
  have f8 : findB 3 (signK 3 old6 2) [121, 97, 98] = (0, false) := by rw [o6_find _ rfl, if_neg (sg_ne (by decide)), if_neg (sg_ne (by decide))]
  generalize findB 3 (signK 3 old6 2) = F at *
  have s0 := rest_miss F 3 new12 (by decide) [] 0 0 (by decide) (by rw [show cut new12 0 (0 + 3) = [120, 120, 97] by decide, f0])
  have s1 := rest_miss F 3 new12 (by decide) [] 0 1 (by decide) (by rw [show cut new12 1 (1 + 3) = [120, 97, 98] by decide, f1])
  have s2 := rest_hit F 3 new12 (by decide) [] 0 2 (by decide) (by rw [show cut new12 2 (2 + 3) = [97, 98, 99] by decide, f2])
  rw [show cut new12 2 (2 + 3) = [97, 98, 99] by decide, f2, show put1 3 new12 [] 0 2 0 = [lit [120, 120], cp 0 3] by rfl] at s2
  have s5 := rest_hit F 3 new12 (by decide) [lit [120, 120], cp 0 3] 5 5 (by decide) (by rw [show cut new12 5 (5 + 3) = [100, 101, 102] by decide, f5])
  rw [show cut new12 5 (5 + 3) = [100, 101, 102] by decide, f5, show put1 3 new12 [lit [120, 120], cp 0 3] 5 5 3 = [lit [120, 120], cp 0 6] by rfl] at s5
  have s8 := rest_miss F 3 new12 (by decide) [lit [120, 120], cp 0 6] 8 8 (by decide) (by rw [show cut new12 8 (8 + 3) = [121, 97, 98] by decide, f8])
  have s9 := rest_hit F 3 new12 (by decide) [lit [120, 120], cp 0 6] 8 9 (by decide) (by rw [show cut new12 9 (9 + 3) = [97, 98, 99] by decide, f2])
  rw [show cut new12 9 (9 + 3) = [97, 98, 99] by decide, f2, show put1 3 new12 [lit [120, 120], cp 0 6] 8 9 0 = fourL by rfl] at s9
  have s12 := rest_end F 3 new12 fourL 12 12 (by decide)
  unfold search
  rw [← rest_zero, s0]
  rw [show (0 + 1) = 1 by rfl, s1, show (1 + 1) = 2 by rfl, s2, show (2 + 3) = 5 by rfl, s5, show (5 + 3) = 8 by rfl, s8, show (8 + 1) = 9 by rfl, s9, show (9 + 3) = 12 by rfl, s12]
  rfl
theorem four_copied : copied fourL = 9 := by decide
theorem four_literal : literal fourL = 3 := by decide
theorem four_bd1 (k : Nat) : 0 ≤ copied (fourL.take k) ∧ copied (fourL.take k) ≤ 4611686018427387904 := by rcases k with _ | _ | _ | _ | k <;> simp [fourL, copied, cp, lit]
theorem four_bd2 (k : Nat) : 0 ≤ literal (fourL.take k) ∧ literal (fourL.take k) ≤ 4611686018427387904 := by rcases k with _ | _ | _ | _ | k <;> simp [fourL, literal, cp, lit]
theorem four_nil : same fourL [] = false := rfl
def fourR (g h : Nat) : List Ow := [(lit [120, 120], some ⟨g, 0, none⟩, 2), (cp 0 6, none, 0), (lit [121], some ⟨h, 0, none⟩, 1), (cp 0 3, none, 0)]
theorem lit_row4 (w : World) (L : List Ow) (E : TypeId) : ReadRow opv 4 (w.alloc (.cells (rows opv L).toArray E)) (w.heap.size + 1) (some ⟨w.heap.size, 0, none⟩) L := by
  refine ⟨fun x _ => ⟨rfl, opv_one x⟩, fun _ => ⟨w.heap.size, 0, rfl, by omega, fun j u hu => ?_⟩⟩
  rw [Nat.zero_add, cell_of_row _ w.heap.size j (rows opv L).toArray E (0, 0) (heap_alloc_new w _)]
  simpa using hu
theorem four_row (w : World) :
    ReadO ((Li.mkB ((Li.mkB (w.alloc (.cells (bvs [120, 120]).toArray 5)) w.heap.size).alloc (.cells (bvs [121]).toArray 5)) (w.heap.size + 1)).alloc (.cells (rows opv (fourR w.heap.size (w.heap.size + 1))).toArray 40))
      ((Li.mkB ((Li.mkB (w.alloc (.cells (bvs [120, 120]).toArray 5)) w.heap.size).alloc (.cells (bvs [121]).toArray 5)) (w.heap.size + 1)).alloc (.cells (rows opv (fourR w.heap.size (w.heap.size + 1))).toArray 40)).heap.size (some ⟨w.heap.size + 2, 0, none⟩) (fourR w.heap.size (w.heap.size + 1)) ∧
    Below w.heap.size w ((Li.mkB ((Li.mkB (w.alloc (.cells (bvs [120, 120]).toArray 5)) w.heap.size).alloc (.cells (bvs [121]).toArray 5)) (w.heap.size + 1)).alloc (.cells (rows opv (fourR w.heap.size (w.heap.size + 1))).toArray 40)) := by
  obtain ⟨h1, h2⟩ := mkB_lit w 5 (bvs [120, 120]) [120, 120] w.heap.size rfl rfl
  have hws : (Li.mkB (w.alloc (.cells (bvs [120, 120]).toArray 5)) w.heap.size).heap.size = w.heap.size + 1 := by rw [Li.mkB_size]; simp
  generalize Li.mkB (w.alloc (.cells (bvs [120, 120]).toArray 5)) w.heap.size = W at *
  obtain ⟨h3, h4⟩ := mkB_lit W 5 (bvs [121]) [121] W.heap.size rfl rfl
  have hws2 : (Li.mkB (W.alloc (.cells (bvs [121]).toArray 5)) W.heap.size).heap.size = W.heap.size + 1 := by rw [Li.mkB_size]; simp
  rw [← hws]
  generalize Li.mkB (W.alloc (.cells (bvs [121]).toArray 5)) W.heap.size = V at *
  have e2 : w.heap.size + 2 = V.heap.size := by omega
  rw [e2]
  have hrow := lit_row4 V (fourR w.heap.size W.heap.size) 40
  have hal := (Below.refl V.heap.size V).alloc (Nat.le_refl _) (.cells (rows opv (fourR w.heap.size W.heap.size)).toArray 40)
  have hr1 := ((h1.below h4).below (hal.mono (by omega))).more (B' := (V.alloc (.cells (rows opv (fourR w.heap.size W.heap.size)).toArray 40)).heap.size) (by simp; omega)
  have hr2 := (h3.below hal).more (B' := (V.alloc (.cells (rows opv (fourR w.heap.size W.heap.size)).toArray 40)).heap.size) (by simp)
  have hrow2 := hrow.more (B' := (V.alloc (.cells (rows opv (fourR w.heap.size W.heap.size)).toArray 40)).heap.size) (by simp)
  refine ⟨⟨hrow2, fun x hx => ?_⟩, (h2.trans (h4.mono h2.size)).trans (hal.mono (by omega))⟩
  simp only [fourR, List.mem_cons, List.not_mem_nil, or_false] at hx
  rcases hx with rfl | rfl | rfl | rfl
  · exact ⟨by simp [lit], by simp [lit], by simp [lit], by simp, hr1⟩
  · exact ⟨by simp [cp], by simp [cp], by simp [cp], by simp, ReadB.nil⟩
  · exact ⟨by simp [lit], by simp [lit], by simp [lit], by simp, hr2⟩
  · exact ⟨by simp [cp], by simp [cp], by simp [cp], by simp, ReadB.nil⟩
theorem fillL_app (sz i : Nat) (v : Value) (pre post : List Value) (rest : List (Nat × Value)) (h : pre.length = i * sz) (hv : v.cells.toList.length = sz) (hp : sz ≤ post.length) : fillL (fun i => some (i * sz, sz)) (pre ++ post) ((i, v) :: rest) = fillL (fun i => some (i * sz, sz)) (pre ++ v.cells.toList ++ post.drop sz) rest := by
  conv => lhs; unfold fillL
  simp only
  rw [if_neg (by rw [List.length_append]; omega), ← h, List.take_left, List.drop_append, List.drop_eq_nil_of_le (show pre.length ≤ pre.length + sz by omega)]
  simp
theorem fill_four (v0 v1 v2 v3 : Value) (h0 : v0.cells.toList.length = 4) (h1 : v1.cells.toList.length = 4) (h2 : v2.cells.toList.length = 4) (h3 : v3.cells.toList.length = 4) (Z : List Value) (hZ : Z.length = 4 * 4) : fillL (fun i => some (i * 4, 4)) Z [(0, v0), (1, v1), (2, v2), (3, v3)] = some (v0.cells.toList ++ v1.cells.toList ++ v2.cells.toList ++ v3.cells.toList) := by
  have a0 := fillL_app 4 0 v0 [] Z [(1, v1), (2, v2), (3, v3)] rfl h0 (by omega)
  rw [List.nil_append, List.nil_append] at a0
  rw [a0, fillL_app 4 1 v1 v0.cells.toList (Z.drop 4) _ (by omega) h1 (by simp; omega), fillL_app 4 2 v2 (v0.cells.toList ++ v1.cells.toList) _ _ (by simp only [List.length_append]; omega) h2 (by simp; omega), fillL_app 4 3 v3 (v0.cells.toList ++ v1.cells.toList ++ v2.cells.toList) _ _ (by simp only [List.length_append]; omega) h3 (by simp; omega)]
  unfold fillL
  rw [List.drop_eq_nil_of_le (by simp; omega), List.append_nil]
theorem wpList_bsliceg {P : Program} (w : World) {ops : Array Oper} {rest : List Oper} {o : Oper} {a : Act} {Q : Exit → Act → World → Prop} (hgd : Region.wanted o (yielded ops a.tmps) = true) (t E : TypeId) (len : Nat) (parts : Array (Nat × Operand)) (ho : o.op = .buildSlice t len parts)
    (ht : P.underlying t = some (.slice E)) (i : TypeInfo) (sz bytes : Nat) (hi : IsRec P E i sz bytes) (h0 : 0 < len * sz) (h24 : len * sz ≤ 16777216) (ps : List (Nat × Value)) (hps : parts.toList.map (fun (i, x) => (i, a.eval x)) = ps) (cs : List Value)
    (hf : ∀ Z : List Value, Z.length = len * sz → fillL (fun i => some (i * sz, sz)) Z ps = some cs)
    (h : wpList P ops Q rest (a.put o.dst (.slice (some ⟨w.heap.size, 0, none⟩) len len)) (w.alloc (.cells cs.toArray E))) : wpList P ops Q (o :: rest) a w :=
  wpList_step fun _ hK => step_bslice w hgd t E len parts ho ht i sz bytes hi h0 h24 ps hps cs hf (hK _ _ h)
set_option maxRecDepth 100000 in
set_option maxHeartbeats 8000000 in
theorem awake_calls (w : World) (htab : Tab w) : Calls Tryd.prog 9 #[] w fun e w' => e = .returned (.bool true) ∧ Below w.heap.size w w' := by
  have Htab := Lib.hid htab
  have hcv := fun (g n c : Nat) (w' : World) => Li.conv_run (P := Tryd.prog) 22 5 Tryd.underlying22 Tryd.underlying5 g n c w'
  have hms := Li.mkB_size
  obtain ⟨iO, hiO⟩ := isOp
  have Hi := Lib.hid hiO
  have h1 := mkB_lit w 5 (bvs old6) old6 w.heap.size rfl rfl
  have hix := index_calls old6 3 (some ⟨w.heap.size, 0, none⟩) 6 6 _ rfl (by omega) (by omega) (by omega) (by omega) h1.1 (htab.below h1.2)
  have H1 := Lib.hid h1.2
  have Hix := Lib.hid hix
  have Hsr := Lib.hid o6_search
  clear h1 hix htab hiO
  go_enter Tryd.func9, Tryd.ntmps9
  go_wp2_with fail
  refine Calls.mono Hix.out ?_
  rintro e1 w1 ⟨g, rfl, -, hX1, hb1⟩
  have h2 := mkB_lit w1 5 (bvs new12) new12 w1.heap.size rfl rfl
  have hB1 := H1.out.trans (hb1.mono H1.out.size)
  have hX1 : IsX w1 g 3 (signK 3 old6 2) := hX1
  have hsc := search_calls 3 (signK 3 old6 2) g new12 (some ⟨w1.heap.size, 0, none⟩) 12 12 _ (hX1.below h2.2) (by omega) (by rw [signK_len]; omega) (signK_wf 3 old6 2) h2.1 rfl (by omega) (by omega) (by omega) (Htab.out.below (hB1.trans (h2.2.mono hB1.size)))
  rw [o6_search] at hsc
  have Hsc := Lib.hid hsc
  have HB2 := Lib.hid (hB1.trans (h2.2.mono hB1.size))
  clear hX1 hb1 h2 hB1 hsc
  go_wp2_with fail
  refine Calls.mono Hsc.out ?_
  rintro e3 w3 ⟨v3, M, rfl, ho3, hM3, hb3⟩
  obtain ⟨A3, c3, hv3, -, -, q3, -⟩ := ho3.opens
  have hl3 : M.length = 4 := by rw [← ops_len, hM3]; rfl
  rw [hl3] at hv3
  subst hv3
  have HB3 := Lib.hid (HB2.out.trans (hb3.mono HB2.out.size))
  have h4 := four_row w3
  have hsm := Dl.same_calls M (fourR w3.heap.size (w3.heap.size + 1)) A3 4 c3 (some ⟨w3.heap.size + 2, 0, none⟩) 4 4 hl3.symm rfl (by omega) (by omega) _ (ReadO.more (q3.below h4.2) h4.2.size) h4.1
  rw [hM3, show ops (fourR w3.heap.size (w3.heap.size + 1)) = fourL by rfl, same_refl] at hsm
  have HB4 := Lib.hid (HB3.out.trans (h4.2.mono HB3.out.size))
  have HQ4 := Lib.hid (ReadO.below q3 h4.2)
  have Hsz : Hid (w3.heap.size ≤ ((Li.mkB ((Li.mkB (w3.alloc (.cells (bvs [120, 120]).toArray 5)) w3.heap.size).alloc (.cells (bvs [121]).toArray 5)) (w3.heap.size + 1)).alloc (.cells (rows opv (fourR w3.heap.size (w3.heap.size + 1))).toArray 40)).heap.size) := Lib.hid h4.2.size
  have Hsm := Lib.hid hsm
  have HM := Lib.hid hM3
  have Hl := Lib.hid hl3
  clear ho3 hM3 hb3 q3 hl3 h4 hsm Hix Hsc
  go_wp2_with (refine wpList_bsliceg _ (by go_simp; done) 31 40 4 _ rfl Tryd.underlying31 iO 4 48 Hi.out (by omega) (by omega) [(0, .agg #[.bool false, .int .i64 0, .int .i64 0, .slice (some ⟨w3.heap.size, 0, none⟩) 2 2]), (1, .agg #[.bool true, .int .i64 0, .int .i64 6, .slice none 0 0]), (2, .agg #[.bool false, .int .i64 0, .int .i64 0, .slice (some ⟨w3.heap.size + 1, 0, none⟩) 1 1]), (3, .agg #[.bool true, .int .i64 0, .int .i64 3, .slice none 0 0])] rfl [.bool false, .int .i64 0, .int .i64 0, .slice (some ⟨w3.heap.size, 0, none⟩) 2 2, .bool true, .int .i64 0, .int .i64 6, .slice none 0 0, .bool false, .int .i64 0, .int .i64 0, .slice (some ⟨w3.heap.size + 1, 0, none⟩) 1 1, .bool true, .int .i64 0, .int .i64 3, .slice none 0 0] (fun Z hZ => fill_four _ _ _ _ rfl rfl rfl rfl Z hZ) ?_)
  refine Calls.mono Hsm.out ?_
  rintro e5 w5 ⟨rfl, hb5⟩
  have HB5 := Lib.hid (HB4.out.trans (hb5.mono HB4.out.size))
  have hq5 : ReadO w5 w5.heap.size A3 M := ReadO.more (HQ4.out.below (hb5.mono Hsz.out)) (Nat.le_trans Hsz.out hb5.size)
  have hcp := Dl.copied_calls M A3 4 c3 Hl.out.symm (by omega) (by rw [HM.out]; exact four_bd1) w5 hq5
  rw [HM.out, four_copied] at hcp
  have Hcp := Lib.hid hcp
  have HQ5 := Lib.hid hq5
  clear hb5 hq5 hcp Hsm HQ4 Hsz
  go_wp2_with fail
  refine Calls.mono Hcp.out ?_
  rintro e6 w6 ⟨rfl, hb6⟩
  have HB6 := Lib.hid (HB5.out.trans (hb6.mono HB5.out.size))
  have hq6 : ReadO w6 w6.heap.size A3 M := ReadO.more (HQ5.out.below hb6) hb6.size
  have hlt := Dl.literal_calls M A3 4 c3 Hl.out.symm (by omega) (by rw [HM.out]; exact four_bd2) w6 hq6
  rw [HM.out, four_literal] at hlt
  have Hlt := Lib.hid hlt
  have HQ6 := Lib.hid hq6
  clear hb6 hq6 hlt Hcp HQ5
  go_wp2_with fail
  refine Calls.mono Hlt.out ?_
  rintro e7 w7 ⟨rfl, hb7⟩
  have HB7 := Lib.hid (HB6.out.trans (hb7.mono HB6.out.size))
  have hq7 : ReadO w7 w7.heap.size A3 M := ReadO.more (HQ6.out.below hb7) hb7.size
  have hs7 := Dl.msame_calls M M A3 4 c3 A3 4 c3 Hl.out.symm Hl.out.symm (by omega) (by omega) w7 hq7 hq7
  rw [HM.out, same_refl] at hs7
  have Hs7 := Lib.hid hs7
  have HQ7 := Lib.hid hq7
  clear hb7 hq7 hs7 Hlt HQ6
  go_wp2_with fail
  refine Calls.mono Hs7.out ?_
  rintro e8 w8 ⟨rfl, hb8⟩
  have HB8 := Lib.hid (HB7.out.trans (hb8.mono HB7.out.size))
  have hq8 : ReadO w8 w8.heap.size A3 M := ReadO.more (HQ7.out.below hb8) hb8.size
  have hs8 := Dl.msame_calls M [] A3 4 c3 none 0 0 Hl.out.symm rfl (by omega) (by omega) w8 hq8 ReadO.nil
  rw [HM.out, show ops [] = [] by rfl, four_nil] at hs8
  have Hs8 := Lib.hid hs8
  clear hb8 hq8 hs8 Hs7 HQ7
  go_wp2_with fail
  refine Calls.mono Hs8.out ?_
  rintro e9 w9 ⟨rfl, hb9⟩
  have HB9 := Lib.hid (HB8.out.trans (hb9.mono HB8.out.size))
  clear hb9 Hs8
  go_wp2_with fail
  go_ret
  exact ⟨rfl, HB9.out⟩
end Ms
end Go.Proofs.YtiofkhjpknfkgaaDoor
/- The sums of a file's blocks, of the document's answer. -/
namespace Go.Proofs.YtiofkhjpknfkgaaDoor
namespace Bk
open Go.RowKit Ba Sm Ro
set_option linter.unusedVariables false
set_option maxRecDepth 100000 in
set_option maxHeartbeats 2000000 in
theorem rsign_calls (b : List UInt8) (size : Int) (A : Option Addr) (c : Nat) (w : World) (hr : ReadB w w.heap.size A b) (hbc : b.length ≤ c) (hcm : c ≤ 9223372036854775807) (hsz : -9223372036854775808 ≤ size ∧ size ≤ 9223372036854775807) :
    Calls Tryd.prog 11 #[.slice A b.length c, .int .i64 size] w
      fun e w' => ∃ v, e = .returned (.tuple #[v, .int .i64 (sign size b).2]) ∧ OwnRow sgv 33 w' w.heap.size 60 v (sign size b).1 ∧ Below w.heap.size w w' := by
  by_cases h1 : 1 ≤ size ∧ size ≤ 4096
  · obtain ⟨z, rfl⟩ : ∃ z : Nat, size = (z : Int) := ⟨size.toNat, by omega⟩
    by_cases h2 : b.length ≤ 65536 ∧ b.length / z ≤ 4096
    · have hs : sign (z : Int) b = (signK z b (b.length / z), 0) := by unfold sign; rw [if_neg (by omega), if_neg (by simp; omega)]; simp
      rw [hs]
      obtain ⟨n, hn⟩ : ∃ n, n = b.length / z := ⟨_, rfl⟩
      rw [← hn] at h2 ⊢
      have hnz : n * z ≤ b.length := by rw [hn]; exact Nat.div_mul_le_self _ _
      have hnz2 : b.length < n * z + z := by rw [hn]; have h5 := Nat.div_add_mod b.length z; have h6 := Nat.mod_lt b.length (show z > 0 by omega); rw [Nat.mul_comm] at h5; omega
      have hdiv : (b.length : Int).tdiv (z : Int) = (n : Int) := by rw [hn]; exact Int.ofNat_tdiv _ _ |>.symm
      have hz0 : (z : Int) ≠ 0 := by omega
      obtain ⟨i0, hi0⟩ := isRec_of infoSig
      have Hi := Lib.hid hi0
      have Hr := Lib.hid hr
      have Hnz := Lib.hid hnz
      have Hnz2 := Lib.hid hnz2
      have Hn := Lib.hid hn
      clear hi0 hr hnz hnz2 hn hs
      go_enter Tryd.func11, Tryd.ntmps11
      go_wp2_with fail
      go_loopg [6, 7] n (fun m v6 v7 wr => ∃ (k i : Nat), k ≤ n ∧ m = n - k ∧ i = k * z ∧ v7 = .int .i64 (i : Int) ∧ OwnRow sgv 33 wr w.heap.size 60 v6 (signK z b k) ∧ Below w.heap.size w wr)
      case atStart => exact ⟨0, 0, by omega, rfl, by simp, rfl, OwnRow.nil, Below.refl _ _⟩
      case round =>
        obtain ⟨k, i, hk, hm, hi, rfl, ho, hb⟩ := hrel
        have hib : i ≤ b.length := by
          have e1 : k * z ≤ n * z := Nat.mul_le_mul_right z hk
          have := Hnz.out
          omega
        have Hm2 := Lib.hid hm
        have Hii := Lib.hid hi
        have Ho := Lib.hid ho
        have Hb := Lib.hid hb
        clear hm hi ho hb
        by_cases hkn : k < n
        · have hzr : i + z ≤ b.length := by
            have e1 : (k + 1) * z ≤ n * z := Nat.mul_le_mul_right z hkn
            rw [Nat.add_mul, Nat.one_mul] at e1
            have := Hnz.out
            have := Hii.out
            omega
          obtain ⟨x, hx⟩ : ∃ x, x = blk z b k := ⟨_, rfl⟩
          have hxl : x.length = z := by rw [hx, blk, List.length_take, List.length_drop, ← Hii.out]; omega
          have hxe : x = (b.drop i).take z := by rw [hx, blk, ← Hii.out]
          obtain ⟨j, hj⟩ : ∃ j, j = i + z := ⟨_, rfl⟩
          have t1 : decide (((i : Int) + (z : Int)) ≤ (b.length : Int)) = true := by rw [decide_eq_true_eq]; omega
          have i2 : (j : Int) ≤ (c : Int) := by omega
          have i3 : (i : Int) ≤ (j : Int) := by omega
          have hR : ReadB w w.heap.size (A.map (·.add i)) x := by
            have := (Hr.out.cut (k := i) (cap := b.length + i + 1) (by omega)).take z
            rw [if_neg (by omega)] at this
            rw [hxe]
            exact this
          have hof := fun w1 h => rof_calls x (A.map (·.add i)) (c - i) w1 h (by omega) (by omega)
          rw [hxl] at hof
          have Hof := Lib.hid hof
          have HR := Lib.hid hR
          have Hx := Lib.hid hx
          have Hxl := Lib.hid hxl
          obtain ⟨x1, hx1⟩ : ∃ x1, rsum x = x1 := ⟨_, rfl⟩
          obtain ⟨x2, hx2⟩ : ∃ x2, sha x = x2 := ⟨_, rfl⟩
          have Hl2 : Hid (x2.length = 32) := Lib.hid (by rw [← hx2]; exact hash_len _)
          have Hx1 := Lib.hid hx1
          have Hx2 := Lib.hid hx2
          clear hx1 hx2 hR hof hx hxl hxe
          go_wp2_with (first
            | (go_at_call 27; refine (rsum_calls (l := x) Hxl.out.symm (HR.out.below Hb.out) (by rw [Hxl.out]; omega)).mono ?_; rw [Hx1.out]; rintro e w1 ⟨rfl, rfl⟩)
            | (go_at_call 28; refine (Hof.out _ ((HR.out.below Hb.out).more Hb.out.size)).mono ?_; rw [Hx2.out]; rintro e w2 ⟨rfl, hb2⟩; have Ho2 := Lib.hid (Ho.out.keptB hb2); have Hb2 := Lib.hid (Hb.out.trans (hb2.mono Hb.out.size)); clear hb2)
            | (refine wpList_bldL _ rfl 60 _ rfl #[(0, .int .u32 (x1 : Int)), (1, .agg (bvs x2).toArray)] rfl _ (run_sig x1 x2 Hl2.out _) ?_)
            | (refine wpList_bslice _ rfl 27 60 1 _ rfl Tryd.underlying27 i0 33 36 Hi.out (by omega) (by omega) [(0, .agg (sgv (x1, x2)).toArray)] rfl (sgv (x1, x2)) (fun Z hZ => fill_one 33 (.agg (sgv (x1, x2)).toArray) (sgv_len Hl2.out) Z hZ) ?_)
            | (at_builtin; refine wpList_appR _ rfl (.tmp 40) (.tmp 46) 27 rfl w.heap.size 60 i0 36 Tryd.underlying27 Hi.out (by omega) _ _ rfl (Ho2.out.alloc _) _ _ 1 1 [(x1, x2)] rfl rfl (ReadRow.lit1 w2 60 _ (x1, x2) rfl (sgv_len Hl2.out) (sgv_one _)) (by rw [signK_len]; simp; omega) (by rw [signK_len]; simp; omega) (by have := Hb2.out.size; simp; omega) ?_; intro v3 w3 ho3 _ _ hb3; have Ho3 := Lib.hid ho3; have Hb3 := Lib.hid ((Hb2.out.alloc Hb2.out.size _).trans hb3); clear ho3 hb3))
          have hs3 : signK z b (k + 1) = signK z b k ++ [(x1, x2)] := by
            rw [signK_succ, ← Hx.out]
            unfold sgOf
            rw [Hx1.out, Hx2.out]
          have Hs3 := Lib.hid hs3
          clear hs3
          go_roundg (n - (k + 1))
          case rel => exact ⟨k + 1, i + z, by omega, rfl, by rw [Hii.out, Nat.add_mul, Nat.one_mul], rfl, by rw [Hs3.out]; exact Ho3.out, Hb3.out⟩
          case measure => have := Hm2.out; omega
        · have hkn2 : k = n := by omega
          have t1 : decide (((i : Int) + (z : Int)) ≤ (b.length : Int)) = false := by
            rw [decide_eq_false_iff_not]
            have := Hnz2.out
            have h2 := Hii.out
            rw [hkn2] at h2
            omega
          have t2 : ¬ i + z ≤ b.length := by
            rw [decide_eq_false_iff_not] at t1
            omega
          go_wp2_with fail
          go_ret2
          rw [hkn2] at Ho
          exact ⟨u6, rfl, Ho.out, Hb.out⟩
    · have hs : sign (z : Int) b = ([], 5) := by unfold sign; rw [if_neg (by omega), if_pos (by simp; omega)]
      rw [hs]
      have hdiv : (b.length : Int).tdiv (z : Int) = ((b.length / z : Nat) : Int) := Int.ofNat_tdiv _ _ |>.symm
      have hnl : b.length / z ≤ b.length := Nat.div_le_self _ _
      generalize b.length / z = n at hdiv h2 hnl
      have hz0 : (z : Int) ≠ 0 := by omega
      clear hr hs
      by_cases h3 : b.length ≤ 65536
      all_goals
        go_enter Tryd.func11, Tryd.ntmps11
        go_wp2
        go_ret2
        exact ⟨_, rfl, OwnRow.nil, Below.refl _ _⟩
  · have hs : sign size b = ([], 2) := by unfold sign; rw [if_pos (by omega)]
    rw [hs]
    clear hr hs
    by_cases h3 : 1 ≤ size
    all_goals
      go_enter Tryd.func11, Tryd.ntmps11
      go_wp2
      go_ret2
      exact ⟨_, rfl, OwnRow.nil, Below.refl _ _⟩
end Bk
end Go.Proofs.YtiofkhjpknfkgaaDoor
/- What any new file has of any old one; any sums lead to the operations that the document says: the walks of two statements. -/
namespace Go.Proofs.YtiofkhjpknfkgaaDoor
namespace Ms
open Go.RowKit Ba Tm Os_ Bk Ro Sm
set_option linter.unusedVariables false
set_option maxRecDepth 100000 in
set_option maxHeartbeats 4000000 in
theorem matchSearches_calls (old : List UInt8) (A : Option Addr) (no c : Nat) (b : List UInt8) (A1 : Option Addr) (n c1 : Nat) (s : Int) (hno : no = old.length) (hn : n = b.length) (hc : no ≤ c) (hcm : c ≤ 9223372036854775807) (hc1 : n ≤ c1) (hcm1 : c1 ≤ 9223372036854775807) (hs : 0 ≤ s ∧ s < 256) (w : World) (htab : Tab w) (ho : ReadB w w.heap.size A old) (hr : ReadB w w.heap.size A1 b) :
    Calls Tryd.prog 3 #[.slice A no c, .slice A1 n c1, .int .u8 s] w fun e w' => e = .returned (.bool true) ∧ Below w.heap.size w w' := by
  have Htab := Lib.hid htab
  have Ho := Lib.hid ho
  have Hr := Lib.hid hr
  have Hn := Lib.hid hn
  have Hno := Lib.hid hno
  obtain ⟨q, hq, hq2⟩ : ∃ q : Nat, s.tmod 32 = (q : Int) ∧ q < 32 := ⟨(s.tmod 32).toNat, by rw [Int.tmod_eq_emod_of_nonneg hs.1]; omega, by rw [Int.tmod_eq_emod_of_nonneg hs.1]; omega⟩
  obtain ⟨z, hz⟩ : ∃ z, z = 1 + q := ⟨_, rfl⟩
  have hqz : (1 : Int) + (q : Int) = (z : Int) := by omega
  have hz1 : 1 ≤ z ∧ z ≤ 4096 := by omega
  have hwz : IntKind.i64.wrap (z : Int) = (z : Int) := by rw [IntKind.wrap_i64]; omega
  have Hz := Lib.hid hz
  clear hz htab ho hr hn hno
  by_cases h1 : 160 < no
  · have g1 : decide (160 < (no : Int)) = true := decide_eq_true (by omega)
    go_enter Tryd.func3, Tryd.ntmps3
    go_wp2_with (go_at_call 9; refine (awake_calls _ Htab.out).mono ?_; rintro e w5 ⟨rfl, hb5⟩)
    go_ret
    exact ⟨rfl, hb5⟩
  have g1 : decide (160 < (no : Int)) = false := decide_eq_false (by omega)
  by_cases h2 : 160 < n
  · have g2 : decide (160 < (n : Int)) = true := decide_eq_true (by omega)
    go_enter Tryd.func3, Tryd.ntmps3
    go_wp2_with (go_at_call 9; refine (awake_calls _ Htab.out).mono ?_; rintro e w5 ⟨rfl, hb5⟩)
    go_ret
    exact ⟨rfl, hb5⟩
  have g2 : decide (160 < (n : Int)) = false := decide_eq_false (by omega)
  have hix := index_calls old z A no c w Hno.out hz1 (by omega) hc hcm Ho.out Htab.out
  have hsg := fun w' h => rsign_calls old (z : Int) A c w' h (by have := Hno.out; omega) hcm (by omega)
  rw [sign_good old z hz1 (by have := Hno.out; omega), ← Hno.out] at hsg
  have hwf := signK_wf z old (no / z)
  have hlL : (signK z old (no / z)).length ≤ 4096 := by rw [signK_len]; have := Nat.div_le_self no z; omega
  rw [← Hno.out] at hix
  obtain ⟨L, hL⟩ : ∃ L, L = signK z old (no / z) := ⟨_, rfl⟩
  rw [← hL] at hix hsg hwf hlL
  have Hix := Lib.hid hix
  have Hsg := Lib.hid hsg
  have Hwf := Lib.hid hwf
  have HlL := Lib.hid hlL
  clear hix hsg hwf hlL hL
  go_enter Tryd.func3, Tryd.ntmps3
  go_wp2_with fail
  refine Calls.mono Hix.out ?_
  rintro e1 w1 ⟨g, rfl, -, hX1, hb1⟩
  have HX1 := Lib.hid hX1
  have Hb1 := Lib.hid hb1
  clear hX1 hb1 Hix
  go_wp2_with fail
  refine Calls.mono (Hsg.out w1 ((Ho.out.below Hb1.out).more Hb1.out.size)) ?_
  rintro e2 w2 ⟨v2, rfl, ho2, hb2⟩
  obtain ⟨A2, c2, hv2, -, -, q2, -⟩ := ho2.opens
  obtain ⟨m, hm⟩ : ∃ m, m = L.length := ⟨_, rfl⟩
  rw [← hm] at hv2
  subst hv2
  have HmL := Lib.hid hm
  have HXs := Lib.hid (HX1.out.below hb2)
  have HLs := Lib.hid q2
  have HBs := Lib.hid (Hb1.out.trans (hb2.mono Hb1.out.size))
  clear ho2 hb2 q2 hm HX1 Hsg
  have hsc := search_calls z L g b A1 n c1 w2 HXs.out hz1 HlL.out Hwf.out ((Hr.out.below HBs.out).more HBs.out.size) Hn.out hc1 hcm1 (by omega) (Htab.out.below HBs.out)
  have Hsc := Lib.hid hsc
  clear hsc
  go_wp2_with fail
  refine Calls.mono Hsc.out ?_
  rintro e3 w3 ⟨v3, M3, rfl, ho3, hM3, hb3⟩
  obtain ⟨A3, c3, hv3, -, -, q3, -⟩ := ho3.opens
  obtain ⟨m3, hm3⟩ : ∃ m3, m3 = M3.length := ⟨_, rfl⟩
  rw [← hm3] at hv3
  subst hv3
  have hk3 : m3 ≤ 9223372036854775807 := by obtain ⟨A', c', e', h1', h2', -⟩ := ho3.opens; omega
  have HB3 := Lib.hid (HBs.out.trans (hb3.mono HBs.out.size))
  have hrs := rsearch_calls z L A2 m c2 b A1 n c1 w3 HmL.out hz1 HlL.out ((HLs.out.below hb3).more hb3.size) ((Hr.out.below HB3.out).more HB3.out.size) Hn.out hc1 hcm1 (by omega)
  have Hrs := Lib.hid hrs
  have HQ3 := Lib.hid q3
  have HM3 := Lib.hid hM3
  have Hm3 := Lib.hid hm3
  have Hk3 := Lib.hid hk3
  clear ho3 hM3 hb3 q3 hrs hm3 Hsc hk3
  go_wp2_with fail
  refine Calls.mono Hrs.out ?_
  rintro e4 w4 ⟨v4, M4, rfl, ho4, hM4, hb4⟩
  obtain ⟨A4, c4, hv4, -, -, q4, -⟩ := ho4.opens
  obtain ⟨m4, hm4⟩ : ∃ m4, m4 = M4.length := ⟨_, rfl⟩
  rw [← hm4] at hv4
  subst hv4
  have hk4 : m4 ≤ 9223372036854775807 := by obtain ⟨A', c', e', h1', h2', -⟩ := ho4.opens; omega
  have HB4 := Lib.hid (HB3.out.trans (hb4.mono HB3.out.size))
  have hsm := Dl.same_calls M3 M4 A3 m3 c3 A4 m4 c4 Hm3.out hm4 Hk3.out hk4 w4 (ReadO.more (HQ3.out.below hb4) hb4.size) q4
  rw [HM3.out, hM4, same_refl] at hsm
  have Hsm := Lib.hid hsm
  clear ho4 hM4 hb4 q4 hsm hm4 Hrs hk4
  go_wp2_with fail
  refine Calls.mono Hsm.out ?_
  rintro e5 w5 ⟨rfl, hb5⟩
  have HB5 := Lib.hid (HB4.out.trans (hb5.mono HB4.out.size))
  clear hb5 Hsm
  go_wp2_with fail
  refine (awake_calls _ (Htab.out.below HB5.out)).mono ?_
  rintro e6 w6 ⟨rfl, hb6⟩
  have HB6 := Lib.hid (HB5.out.trans (hb6.mono HB5.out.size))
  clear hb6
  go_wp2_with fail
  go_ret
  exact ⟨rfl, HB6.out⟩
set_option maxRecDepth 100000 in
set_option maxHeartbeats 4000000 in
theorem matchSums_calls (size : Int) (L : List Sg) (A2 : Option Addr) (m c2 : Nat) (b : List UInt8) (A1 : Option Addr) (n c1 : Nat) (hsz : -9223372036854775808 ≤ size ∧ size ≤ 9223372036854775807) (hm : m = L.length) (hmc : m ≤ c2) (hmm : c2 ≤ 9223372036854775807) (hn : n = b.length) (hc1 : n ≤ c1) (hcm1 : c1 ≤ 9223372036854775807) (w : World) (htab : Tab w) (hL : ReadRow sgv 33 w w.heap.size A2 L) (hwf : ∀ s ∈ L, WfS s) (hr : ReadB w w.heap.size A1 b) :
    Calls Tryd.prog 4 #[.int .i64 size, .slice A2 m c2, .slice A1 n c1] w fun e w' => e = .returned (.bool true) ∧ Below w.heap.size w w' := by
  have Htab := Lib.hid htab
  have HL0 := Lib.hid hL
  have Hwf := Lib.hid hwf
  have Hr := Lib.hid hr
  have Hn := Lib.hid hn
  have HmL := Lib.hid hm
  clear htab hL hwf hr hn hm
  by_cases h0 : 1 ≤ size ∧ size ≤ 64
  · obtain ⟨z, rfl⟩ : ∃ z : Nat, size = (z : Int) := ⟨size.toNat, by omega⟩
    have hz1 : 1 ≤ z ∧ z ≤ 4096 := by omega
    have g1 : decide ((z : Int) < 1) = false := decide_eq_false (by omega)
    have g2 : decide (64 < (z : Int)) = false := decide_eq_false (by omega)
    by_cases h3 : 60 < m
    · have g3 : decide (60 < (m : Int)) = true := decide_eq_true (by omega)
      go_enter Tryd.func4, Tryd.ntmps4
      go_wp2_with (go_at_call 9; refine (awake_calls _ Htab.out).mono ?_; rintro e w5 ⟨rfl, hb5⟩)
      go_ret
      exact ⟨rfl, hb5⟩
    have g3 : decide (60 < (m : Int)) = false := decide_eq_false (by omega)
    by_cases h4 : 160 < n
    · have g4 : decide (160 < (n : Int)) = true := decide_eq_true (by omega)
      go_enter Tryd.func4, Tryd.ntmps4
      go_wp2_with (go_at_call 9; refine (awake_calls _ Htab.out).mono ?_; rintro e w5 ⟨rfl, hb5⟩)
      go_ret
      exact ⟨rfl, hb5⟩
    have g4 : decide (160 < (n : Int)) = false := decide_eq_false (by omega)
    obtain ⟨p, hp⟩ : ∃ p : Nat, p = z * m := ⟨_, rfl⟩
    have hp2 : (z : Int) * (m : Int) = (p : Int) := by rw [hp, Int.natCast_mul]
    have hp3 : p ≤ 64 * 60 := by rw [hp]; exact Nat.mul_le_mul (by omega) (by omega)
    have hpw : IntKind.i64.wrap (p : Int) = (p : Int) := by rw [IntKind.wrap_i64]; omega
    have hpw2 : IntKind.i64.wrap ((z : Int) * (m : Int)) = (p : Int) := by rw [hp2]; exact hpw
    have hck : check (z : Int) (p : Int) L.length = 0 := by
      unfold check
      rw [if_neg (by omega), if_neg (by omega), if_neg]
      have : (p : Int) / (z : Int) = (m : Int) := by rw [← hp2]; exact Int.mul_ediv_cancel_left _ (by omega)
      rw [this, ← HmL.out]
      rintro (h | h)
      · exact h rfl
      · omega
    have hnw := new_good z (p : Int) L A2 c2 (by omega) w hck HL0.out Hwf.out
    rw [← HmL.out] at hnw
    have Hnw := Lib.hid hnw
    have HlL : Hid (L.length ≤ 4096) := Lib.hid (by rw [← HmL.out]; omega)
    clear hnw hck hp
    go_enter Tryd.func4, Tryd.ntmps4
    go_wp2_with fail
    refine Calls.mono Hnw.out ?_
    rintro e1 w1 ⟨g, rfl, -, hX1, hb1⟩
    have HXs := Lib.hid hX1
    have HBs := Lib.hid hb1
    have HLs := Lib.hid ((HL0.out.below hb1).more hb1.size)
    clear hX1 hb1 Hnw
    have hsc := search_calls z L g b A1 n c1 w1 HXs.out hz1 HlL.out Hwf.out ((Hr.out.below HBs.out).more HBs.out.size) Hn.out hc1 hcm1 (by omega) (Htab.out.below HBs.out)
    have Hsc := Lib.hid hsc
    clear hsc
    go_wp2_with fail
    refine Calls.mono Hsc.out ?_
    rintro e3 w3 ⟨v3, M3, rfl, ho3, hM3, hb3⟩
    obtain ⟨A3, c3, hv3, -, -, q3, -⟩ := ho3.opens
    obtain ⟨m3, hm3⟩ : ∃ m3, m3 = M3.length := ⟨_, rfl⟩
    rw [← hm3] at hv3
    subst hv3
    have hk3 : m3 ≤ 9223372036854775807 := by obtain ⟨A', c', e', h1', h2', -⟩ := ho3.opens; omega
    have HB3 := Lib.hid (HBs.out.trans (hb3.mono HBs.out.size))
    have hrs := rsearch_calls z L A2 m c2 b A1 n c1 w3 HmL.out hz1 HlL.out ((HLs.out.below hb3).more hb3.size) ((Hr.out.below HB3.out).more HB3.out.size) Hn.out hc1 hcm1 (by omega)
    have Hrs := Lib.hid hrs
    have HQ3 := Lib.hid q3
    have HM3 := Lib.hid hM3
    have Hm3 := Lib.hid hm3
    have Hk3 := Lib.hid hk3
    clear ho3 hM3 hb3 q3 hrs hm3 Hsc hk3
    go_wp2_with fail
    refine Calls.mono Hrs.out ?_
    rintro e4 w4 ⟨v4, M4, rfl, ho4, hM4, hb4⟩
    obtain ⟨A4, c4, hv4, -, -, q4, -⟩ := ho4.opens
    obtain ⟨m4, hm4⟩ : ∃ m4, m4 = M4.length := ⟨_, rfl⟩
    rw [← hm4] at hv4
    subst hv4
    have hk4 : m4 ≤ 9223372036854775807 := by obtain ⟨A', c', e', h1', h2', -⟩ := ho4.opens; omega
    have HB4 := Lib.hid (HB3.out.trans (hb4.mono HB3.out.size))
    have hsm := Dl.same_calls M3 M4 A3 m3 c3 A4 m4 c4 Hm3.out hm4 Hk3.out hk4 w4 (ReadO.more (HQ3.out.below hb4) hb4.size) q4
    rw [HM3.out, hM4, same_refl] at hsm
    have Hsm := Lib.hid hsm
    clear ho4 hM4 hb4 q4 hsm hm4 Hrs hk4
    go_wp2_with fail
    refine Calls.mono Hsm.out ?_
    rintro e5 w5 ⟨rfl, hb5⟩
    have HB5 := Lib.hid (HB4.out.trans (hb5.mono HB4.out.size))
    clear hb5 Hsm
    go_wp2_with fail
    refine (awake_calls _ (Htab.out.below HB5.out)).mono ?_
    rintro e6 w6 ⟨rfl, hb6⟩
    have HB6 := Lib.hid (HB5.out.trans (hb6.mono HB5.out.size))
    clear hb6
    go_wp2_with fail
    go_ret
    exact ⟨rfl, HB6.out⟩
  · by_cases h1 : size < 1
    · have g1 : decide (size < 1) = true := decide_eq_true h1
      go_enter Tryd.func4, Tryd.ntmps4
      go_wp2_with (go_at_call 9; refine (awake_calls _ Htab.out).mono ?_; rintro e w5 ⟨rfl, hb5⟩)
      go_ret
      exact ⟨rfl, hb5⟩
    · have g1 : decide (size < 1) = false := decide_eq_false h1
      have g2 : decide (64 < size) = true := decide_eq_true (by omega)
      go_enter Tryd.func4, Tryd.ntmps4
      go_wp2_with (go_at_call 9; refine (awake_calls _ Htab.out).mono ?_; rintro e w5 ⟨rfl, hb5⟩)
      go_ret
      exact ⟨rfl, hb5⟩
end Ms
end Go.Proofs.YtiofkhjpknfkgaaDoor
/- How a row's arguments are opened: bytes that came in, read as a list of bytes; how many there may be. -/
namespace Go.Proofs.YtiofkhjpknfkgaaDoor
namespace Rk
open Go.ChangeShapes Go.WideShapes Go.ChangeAt Go.RowKit Ba
set_option linter.unusedVariables false

theorem bd_i64 {n : Int} (h : (Lit.int .i64 n).wf = true) : -9223372036854775808 ≤ n ∧ n ≤ 9223372036854775807 := by
  simpa [Lit.wf, IntKind.min, IntKind.max, IntKind.signed, IntKind.bits] using h
theorem bd_u8 {n : Int} (h : (Lit.int .u8 n).wf = true) : 0 ≤ n ∧ n ≤ 255 := by
  simpa [Lit.wf, IntKind.min, IntKind.max, IntKind.signed, IntKind.bits] using h
theorem bd_u16 {n : Int} (h : (Lit.int .u16 n).wf = true) : 0 ≤ n ∧ n ≤ 65535 := by
  simpa [Lit.wf, IntKind.min, IntKind.max, IntKind.signed, IntKind.bits] using h
theorem bd_u32 {n : Int} (h : (Lit.int .u32 n).wf = true) : 0 ≤ n ∧ n ≤ 4294967295 := by
  simpa [Lit.wf, IntKind.min, IntKind.max, IntKind.signed, IntKind.bits] using h

theorem bytes_open {H : Type} {enc : TypeId × Value → H} {P : Program} {W : World} {base : Nat} {spare : Nat → Bool} {held : Bool} {t e : TypeId} {a : Option Addr} {len cap : Nat} {d : DataW H} {ps : List MemPlace}
    (hu : P.underlying t = some (.slice e)) (he : P.underlying e = some (.int .u8)) (hc : P.cellsOf e = 1) (h : DataW.Trod enc P W base spare held t (.slice a len cap) d ps) :
    ∃ l : List UInt8, len = l.length ∧ l.length ≤ cap ∧ cap ≤ 9223372036854775807 ∧ ReadB W W.heap.size a l := by
  obtain ⟨fuel, hf⟩ := h
  rcases open_ints hu he hc hf with ⟨hcs, _⟩ | ⟨x, l, c, zs, hcs, _, hl, hm, hz, hx, hcell, hwz⟩
  · simp [Value.cells] at hcs
    obtain ⟨rfl, rfl, rfl⟩ := hcs
    exact ⟨[], rfl, by simp, by omega, ReadB.nil⟩
  · simp [Value.cells] at hcs
    obtain ⟨rfl, rfl, rfl⟩ := hcs
    have hl2 : len ≤ zs.length := by
      rw [hz]
      split
      · exact hl
      · exact Nat.le_refl _
    have hb : ∀ k, k < zs.length → ((UInt8.ofNat (zs.getD k 0).toNat).toNat : Int) = zs.getD k 0 := fun k hk => by
      have hmem : zs.getD k 0 ∈ zs := by simp [List.getD, hk]
      have := bd_u8 (hwz _ hmem)
      rw [UInt8.toNat_ofNat']
      omega
    refine ⟨(zs.take len).map fun z => UInt8.ofNat z.toNat, by simp; omega, by simp; omega, by simpa [maxLen] using hm, ?_⟩
    intro hn
    have hn2 : 0 < len := by simp at hn; omega
    have h0 : W.cell? x = some (.int .u8 (zs.getD 0 0)) := by
      have := hcell 0 (by omega)
      rwa [add_zero_] at this
    have hs : x.spot = none := by
      unfold World.cell? at h0
      split at h0
      · split at h0
        · cases h0
        · rename_i hs; simpa using hs
      · cases h0
    have hblk := block_lt_of_cell h0
    obtain ⟨b, o, s⟩ := x
    simp only at hs
    subst hs
    refine ⟨b, o, rfl, hblk, fun k hk => ?_⟩
    have hk2 : k < len := by simp at hk; omega
    have := hcell k (by omega)
    rw [add_lit_] at this
    rw [this]
    have e : (((zs.take len).map fun z => UInt8.ofNat z.toNat).getD k 0) = UInt8.ofNat (zs.getD k 0).toNat := by
      simp [List.getD, hk2, show k < zs.length by omega]
    rw [e, hb k (by omega)]

theorem sized_ints {H : Type} {enc : TypeId × Value → H} {P : Program} {W : World} {base : Nat} {spare : Nat → Bool} {held : Bool} {t e : TypeId} {k : IntKind} {a : Option Addr} {len cap : Nat} {d : DataW H} {ps : List MemPlace} {ts : List TypeId} {ds : List (DataW H)} {j : Nat}
    (hsz : (DataW.weightsEach P ts ds).all (· ≤ reachBytes) = true) (ht : ts[j]? = some t) (hd : ds[j]? = some d) (hu : P.underlying t = some (.slice e)) (he : P.underlying e = some (.int k)) (hc : P.cellsOf e = 1) {B : Nat} (hB : P.bytesOf e = B)
    (h : DataW.Trod enc P W base spare held t (.slice a len cap) d ps) : len * B ≤ 140737488351232 := by
  obtain ⟨fuel, hf⟩ := h
  rcases open_ints hu he hc hf with ⟨hcs, _⟩ | ⟨x, l, c, zs, hcs, _, hl, _, hz, hx, _, _⟩
  · simp [Value.cells] at hcs
    obtain ⟨rfl, rfl, rfl⟩ := hcs
    simp
  · simp [Value.cells] at hcs
    obtain ⟨rfl, rfl, rfl⟩ := hcs
    obtain ⟨hx, _⟩ := Prod.mk.inj hx
    subst hx
    have z := sized_slice hsz ht hd hu
    rw [hB] at z
    have hl2 : len ≤ zs.length := by
      rw [hz]
      split
      · exact hl
      · exact Nat.le_refl _
    have h1 : (lits (H := H) k (zs.take len)).length + (lits (H := H) k (zs.drop len)).length = zs.length := by
      simp [lits]
      omega
    rw [h1] at z
    exact Nat.le_trans (Nat.mul_le_mul_right _ hl2) z
end Rk
end Go.Proofs.YtiofkhjpknfkgaaDoor
/- What the listed variable gives the walks: the round words lie in it; and the start's own heap meets the condition. -/
namespace Go.Proofs.YtiofkhjpknfkgaaDoor
namespace Ld
open Go.ChangeShapes Go.WideShapes Go.ChangeAt Go.RowKit Sm Ba
set_option linter.unusedVariables false
def laid1 : List (String × DataW Unit) := [("sumpter/sha.rounds", Rows.laid_sumpter_sha_rounds)]
theorem gN : Tryd.prog.globalNamed "sumpter/sha.rounds" = some 0 := by kernel_rfl
theorem gT : (Tryd.prog.globals[0]?).map (·.type) = some 108 := by kernel_rfl
def zs : List Int := rounds.map U
set_option maxRecDepth 100000 in
theorem datum_eq : (Rows.laid_sumpter_sha_rounds : DataW Unit) = Lib.tabData .u32 zs := by rfl
set_option maxRecDepth 100000 in
theorem door_met (os : Os) (args : Array Value) : laidMetH Tryd.prog laid1 ((World.doorLaid Tryd.prog 14 os).forCall (fun _ _ => 0) ⟨#[], args, []⟩).memory :=
  laidMetH_of_parts3 (fuel := 8) (laidMet_of_run' 8 (by kernel_rfl) (by kernel_rfl)) (by kernel_rfl) (by kernel_rfl)
set_option maxRecDepth 100000 in
theorem tab_of_laid {W : World} (h : laidMetH Tryd.prog laid1 W) : Tab W := by
  rw [MakeChecks.laidMetH_plain _ _ _ (by kernel_rfl)] at h
  unfold laid1 at h
  rw [datum_eq] at h
  have hT := Lib.tabIs_of_head gN gT Tryd.underlying108 Tryd.underlying56 (by kernel_rfl) (by kernel_rfl) h
  have hc : ∀ j, j < 64 → W.cell? ⟨0, j, none⟩ = some (.int .u32 (U (Sm.g rounds j))) := fun j hj => by
    have := hT.cell gN j hj
    rw [this]
    congr 2
    unfold zs Sm.g
    have hl : rounds.length = 64 := rfl
    simp only [List.getD_eq_getElem?_getD, List.getElem?_map]
    rw [List.getElem?_eq_getElem (by omega)]
    rfl
  refine ⟨block_lt_of_cell (hc 0 (by omega)), fun j v hv => ?_⟩
  have hj : j < 64 := by
    rcases Nat.lt_or_ge j 64 with h1 | h1
    · exact h1
    · rw [List.getElem?_eq_none (by rw [wvs_len]; exact h1)] at hv; cases hv
  rw [Nat.zero_add, hc j hj, ← hv]
  have hl : rounds.length = 64 := rfl
  unfold wvs Sm.g
  rw [List.getElem?_map, List.getElem?_eq_getElem (by omega), List.getD_eq_getElem?_getD, List.getElem?_eq_getElem (by omega)]
  rfl
end Ld
end Go.Proofs.YtiofkhjpknfkgaaDoor
/- Arguments: slices of records, structs, arrays of bytes: opened from what they read as, cell by cell. -/
namespace Go.Proofs.YtiofkhjpknfkgaaDoor
namespace Rk
open Go.ChangeShapes Go.WideShapes Go.ChangeAt Go.RowKit Ba
set_option linter.unusedVariables false
section
variable {H : Type} {enc : TypeId × Value → H} {P : Program} {W : World} {base : Nat} {spare : Nat → Bool} {held : Bool}
theorem cells_plain {x : Addr} {v : Value} (h0 : W.cell? x = some v) : ∃ b o, x = ⟨b, o, none⟩ ∧ b < W.heap.size := by
  have hs : x.spot = none := by
    unfold World.cell? at h0
    split at h0
    · split at h0
      · cases h0
      · rename_i hs; simpa using hs
    · cases h0
  have hblk := block_lt_of_cell h0
  obtain ⟨b, o, s⟩ := x
  simp only at hs
  subst hs
  exact ⟨b, o, rfl, hblk⟩
/-- a slice of records -/
theorem open_rows {α : Type} {f : α → List Value} {sz : Nat} (Wf : α → Prop) {t e : TypeId} {fuel : Nat} {cs : List Value} {x : DataW H × List MemPlace} (hu : P.underlying t = some (.slice e)) (ce : P.cellsOf e = sz) (hsz : 0 < sz)
    (hel : ∀ fuel cs x, DataW.trod enc P W base spare held fuel e cs = some x → ∃ y, cs = f y ∧ Wf y) (h1 : ∀ y, Wf y → ∀ u ∈ f y, u.oneCell' = true) (hln : ∀ y, Wf y → (f y).length = sz)
    (h : DataW.trod enc P W base spare held fuel t cs = some x) :
    ∃ (A : Option Addr) (l : List α) (c : Nat), cs = [.slice A l.length c] ∧ l.length ≤ c ∧ c ≤ 9223372036854775807 ∧ ReadRow f sz W W.heap.size A l ∧ ∀ y ∈ l, Wf y := by
  rcases Deep.open_slice hu h with ⟨hcs, _⟩ | ⟨a, len, cap, m, n, D, Pl, hcs, _, hl, hm, hmm, hx0, hcell⟩
  · exact ⟨none, [], 0, hcs, by simp, by omega, ReadRow.nil, by simp⟩
  · have hl2 : len ≤ m := by rw [hmm]; split <;> omega
    have key : ∀ i, i < len → ∃ y, Wf y ∧ ∀ j u, (f y)[j]? = some u → W.cell? (a.add (i * sz + j)) = some u := fun i hi => by
      obtain ⟨cs', q1, q2⟩ := hcell i (by omega)
      obtain ⟨y, rfl, hy⟩ := hel _ _ _ q2
      obtain ⟨_, q3, q4⟩ := World.cells?_some q1
      rw [ce] at q3 q4
      refine ⟨y, hy, fun j u hj => ?_⟩
      have hjs : j < sz := by
        rcases Nat.lt_or_ge j sz with h | h
        · exact h
        · rw [List.getElem?_eq_none (by omega)] at hj; cases hj
      rw [← add_of_add, q4 j hjs]
      exact hj
    have hex : ∃ l : List α, l.length = len ∧ ∀ i y, l[i]? = some y → Wf y ∧ ∀ j u, (f y)[j]? = some u → W.cell? (a.add (i * sz + j)) = some u := by
      clear hcs hl hm hmm hcell hl2 hx0
      induction len with
      | zero => exact ⟨[], rfl, by simp⟩
      | succ k ih =>
        obtain ⟨l, h1, h2⟩ := ih (fun i hi => key i (by omega))
        obtain ⟨y, h3, h4⟩ := key k (by omega)
        refine ⟨l ++ [y], by simp [h1], fun i z hz => ?_⟩
        rcases Nat.lt_or_ge i l.length with h | h
        · rw [List.getElem?_append_left h] at hz
          exact h2 i z hz
        · rw [List.getElem?_append_right h] at hz
          have h0 : i - l.length = 0 := by
            rcases Nat.eq_zero_or_pos (i - l.length) with h | h
            · exact h
            · rw [List.getElem?_eq_none (by simp; omega)] at hz; cases hz
          rw [h0] at hz
          simp at hz
          subst hz
          have : i = k := by omega
          subst this
          exact ⟨h3, h4⟩
    obtain ⟨l, hl3, hl4⟩ := hex
    have hwf : ∀ y ∈ l, Wf y := fun y hy => by
      obtain ⟨i, hi⟩ := List.getElem?_of_mem hy
      exact (hl4 i y hi).1
    have hR : RWf f sz l := fun y hy => ⟨hln y (hwf y hy), h1 y (hwf y hy)⟩
    subst hl3
    refine ⟨some a, l, cap, hcs, hl, by simpa [maxLen] using hm, ⟨hR, fun hn => ?_⟩, hwf⟩
    have hc0 : ∀ j u, (rows f l)[j]? = some u → W.cell? (a.add j) = some u := fun j u hu => by
      have hj : j < l.length * sz := by
        rcases Nat.lt_or_ge j (l.length * sz) with h | h
        · exact h
        · rw [List.getElem?_eq_none (by rw [rows_len hR]; exact h)] at hu; cases hu
      have hd : j / sz < l.length := Nat.div_lt_of_lt_mul (by rw [Nat.mul_comm]; exact hj)
      have e : j = j / sz * sz + j % sz := by rw [Nat.mul_comm]; exact (Nat.div_add_mod j sz).symm
      have hg := rows_get hR (List.getElem?_eq_getElem hd) (j % sz) (Nat.mod_lt _ hsz)
      rw [← e, hu] at hg
      have := (hl4 _ _ (List.getElem?_eq_getElem hd)).2 (j % sz) u hg.symm
      rwa [← e] at this
    obtain ⟨u0, hu0⟩ : ∃ u, (rows f l)[0]? = some u := by
      have : 0 < (rows f l).length := by rw [rows_len hR]; exact Nat.mul_pos hn hsz
      exact ⟨_, List.getElem?_eq_getElem this⟩
    have h00 := hc0 0 u0 hu0
    rw [add_zero_] at h00
    obtain ⟨b, o, rfl, hb⟩ := cells_plain h00
    exact ⟨b, o, rfl, hb, fun j u hu => by rw [← add_lit_]; exact hc0 j u hu⟩
/-- an array of bytes -/
theorem open_arr {t e : TypeId} {n fuel : Nat} {cs : List Value} {x : DataW H × List MemPlace} (hu : P.underlying t = some (.array n e)) (he : P.underlying e = some (.int .u8)) (ce : P.cellsOf e = 1) (ct : P.cellsOf t = n)
    (h : DataW.trod enc P W base spare held fuel t cs = some x) : ∃ l : List UInt8, cs = bvs l ∧ l.length = n := by
  obtain ⟨xs, m, rfl, _, hl, hxs, hi⟩ := DataW.trod_array hu h
  have hcl : cs.length = n := by omega
  have key : ∀ i, i < n → ∃ b : UInt8, cs[i]? = some (bv b) := fun i hin => by
    have h1 := hi i hin
    rw [ce, Nat.mul_one, List.getElem?_eq_getElem (show i < xs.length by omega)] at h1
    obtain ⟨z, e0, _, w0⟩ := DataW.trod_int he h1
    have hb := bd_u8 w0
    have hil : i < cs.length := by omega
    have e1 : (cs.drop i).take 1 = [cs[i]] := by
      rw [List.drop_eq_getElem_cons hil]; rfl
    rw [e1] at e0
    injection e0 with e0
    refine ⟨UInt8.ofNat z.toNat, ?_⟩
    rw [List.getElem?_eq_getElem hil, e0]
    unfold bv
    rw [UInt8.toNat_ofNat']
    congr 2
    omega
  refine ⟨(List.range n).map fun i => if hin : i < n then (key i hin).choose else 0, ?_, by simp⟩
  refine List.ext_getElem? fun i => ?_
  by_cases hin : i < n
  · rw [(key i hin).choose_spec]
    simp [bvs, hin]
  · rw [List.getElem?_eq_none (by omega), List.getElem?_eq_none (by simp [bvs]; omega)]
/-- a struct's field -/
theorem open_field {t : TypeId} {fs : Array Field} {fuel : Nat} {cs : List Value} {x : DataW H × List MemPlace} (ht : P.underlying t = some (.struct fs)) (h : DataW.trod enc P W base spare held fuel t cs = some x) :
    cs.length = P.cellsOf t ∧ ∀ (i : Nat) (f : Field), fs[i]? = some f → ∃ m y, DataW.trod enc P W base spare held m f.type ((cs.drop f.offset).take (P.cellsOf f.type)) = some y := by
  obtain ⟨xs, m, rfl, _, hl, hxs, hi⟩ := DataW.trod_struct ht h
  refine ⟨hl, fun i f hf => ?_⟩
  have hil : i < xs.length := by
    rw [hxs]
    exact (Array.getElem?_eq_some_iff.1 hf).1
  have := hi i f hf
  rw [List.getElem?_eq_getElem hil] at this
  exact ⟨m, _, this⟩
/-- a struct by value has its cells -/
theorem agg_of {b2 : Nat} {t : TypeId} {fs : Array Field} {v : Value} (ht : P.underlying t = some (.struct fs)) (hv : Value.okWide P W .any b2 t v) : ∃ cs, v = .agg cs := by
  unfold Value.okWide at hv
  simp only [ht] at hv
  obtain ⟨cs, h1, _⟩ := hv
  exact ⟨cs, h1⟩
end
end Rk
end Go.Proofs.YtiofkhjpknfkgaaDoor
/- Arguments: sums. -/
namespace Go.Proofs.YtiofkhjpknfkgaaDoor
namespace Rk
open Go.ChangeShapes Go.WideShapes Go.ChangeAt Go.RowKit Ba Bk
set_option linter.unusedVariables false
theorem sigF : (Tryd.prog.fieldsOf 60).toList.map (fun f => (f.type, f.offset)) = [(56, 0), (42, 1)] := by kernel_rfl
theorem fields_at {P : Program} {t : TypeId} {l : List (TypeId × Nat)} (h : (P.fieldsOf t).toList.map (fun f => (f.type, f.offset)) = l) (i : Nat) (a : TypeId) (o : Nat) (hi : l[i]? = some (a, o)) : ∃ f, (P.fieldsOf t)[i]? = some f ∧ f.type = a ∧ f.offset = o := by
  subst h
  rw [List.getElem?_map] at hi
  obtain ⟨f, hf, e⟩ := Option.map_eq_some_iff.1 hi
  simp only [Prod.mk.injEq] at e
  exact ⟨f, by rw [← Array.getElem?_toList]; exact hf, e.1, e.2⟩
section
variable {H : Type} {enc : TypeId × Value → H} {W : World} {base : Nat} {spare : Nat → Bool} {held : Bool}
theorem open_sig {fuel : Nat} {cs : List Value} {x : DataW H × List MemPlace} (h : DataW.trod enc Tryd.prog W base spare held fuel 60 cs = some x) : ∃ s : Sg, cs = sgv s ∧ WfS s := by
  obtain ⟨hl, hf⟩ := open_field (t := 60) (fs := Tryd.prog.fieldsOf 60) (by kernel_rfl) h
  obtain ⟨f0, g0, t0, o0⟩ := fields_at sigF 0 56 0 rfl
  obtain ⟨f1, g1, t1, o1⟩ := fields_at sigF 1 42 1 rfl
  obtain ⟨m0, y0, h0⟩ := hf 0 f0 g0
  obtain ⟨m1, y1, h1⟩ := hf 1 f1 g1
  rw [t0, o0, show Tryd.prog.cellsOf 56 = 1 by kernel_rfl] at h0
  rw [t1, o1, show Tryd.prog.cellsOf 42 = 32 by kernel_rfl] at h1
  rw [show Tryd.prog.cellsOf 60 = 33 by kernel_rfl] at hl
  obtain ⟨z, e0, _, w0⟩ := DataW.trod_int Tryd.underlying56 h0
  obtain ⟨b, e1, hb⟩ := open_arr Tryd.underlying42 Tryd.underlying5 (by kernel_rfl) (by kernel_rfl) h1
  have hz := bd_u32 w0
  refine ⟨(z.toNat, b), ?_, by simp only; omega, hb⟩
  unfold sgv
  have e : cs = cs.take 1 ++ (cs.drop 1).take 32 := by
    rw [List.take_of_length_le (l := cs.drop 1) (by rw [List.length_drop]; omega), List.take_append_drop]
  rw [List.drop_zero] at e0
  rw [e, e0, e1]
  have : ((z.toNat : Nat) : Int) = z := by omega
  simp [this]
end
end Rk
end Go.Proofs.YtiofkhjpknfkgaaDoor
/- Arguments: sums. -/
namespace Go.Proofs.YtiofkhjpknfkgaaDoor
namespace Rk
open Go.ChangeShapes Go.WideShapes Go.ChangeAt Go.RowKit Ba Bk
set_option linter.unusedVariables false
section
variable {H : Type} {enc : TypeId × Value → H} {W : World} {base : Nat} {spare : Nat → Bool} {held : Bool}
/-- an argument of sums -/
theorem sigs_open {a : Option Addr} {len cap : Nat} {d : DataW H} {ps : List MemPlace} (h : DataW.Trod enc Tryd.prog W base spare held 27 (.slice a len cap) d ps) :
    ∃ L : List Sg, len = L.length ∧ L.length ≤ cap ∧ cap ≤ 9223372036854775807 ∧ ReadRow sgv 33 W W.heap.size a L ∧ ∀ s ∈ L, WfS s := by
  obtain ⟨fuel, hf⟩ := h
  obtain ⟨A, l, c, e, q1, q2, q3, q4⟩ := open_rows (f := sgv) (sz := 33) WfS Tryd.underlying27 (by kernel_rfl) (by omega) (fun fuel cs x hx => open_sig hx) (fun y _ => sgv_one y) (fun y hy => sgv_len hy.2) hf
  simp [Value.cells] at e
  obtain ⟨rfl, rfl, rfl⟩ := e
  exact ⟨l, rfl, q1, q2, q3, q4⟩
end
end Rk
end Go.Proofs.YtiofkhjpknfkgaaDoor
