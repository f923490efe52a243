/- Sums are read off bytes, by the document's answer. -/
import Derived.Test.YtcbkhbnemhkheaaDoorP01
import Derived.Test.YtcbkhbnemhkheaaDoorP02
import Derived.Test.YtcbkhbnemhkheaaDoorP03
import Derived.Test.YtcbkhbnemhkheaaDoorP04
import Derived.Test.YtcbkhbnemhkheaaDoorP05
import Derived.Test.YtcbkhbnemhkheaaDoorP06
import Derived.Test.YtcbkhbnemhkheaaDoorP07
import Derived.Test.YtcbkhbnemhkheaaDoorP08
import Derived.Test.YtcbkhbnemhkheaaDoorP09
import Derived.Test.YtcbkhbnemhkheaaDoorP10
import Derived.Test.YtcbkhbnemhkheaaDoorP11
import Derived.Test.YtcbkhbnemhkheaaDoorP12
import Derived.ProofKit
import Derived.OpenShut
import Derived.ShutString
import Derived.ChangeOld
import Derived.SizedLaws
import Derived.ChangeSlices
import Derived.Deep.Slices
namespace Go.Proofs.YtcbkhbnemhkheaaDoor
namespace Bk
open Go.RowKit Ba Sm Ro
set_option linter.unusedVariables false
/-- a reader of the document's in block g -/
def IsU (w : World) (g B : Nat) (r : Fm.Rd) : Prop :=
  ∃ A c, Blk w g 85 [Value.slice A r.l.length c, Value.int .i64 r.e].toArray ∧ r.l.length ≤ c ∧ c ≤ 9223372036854775807 ∧ ReadB w B A r.l
theorem IsU.below {w w' : World} {g B : Nat} {r : Fm.Rd} (h : IsU w g B r) (hB : B ≤ w.heap.size) (hb : Below w.heap.size w w') : IsU w' g B r := by
  obtain ⟨A, c, h1, h2, h3, h4⟩ := h
  exact ⟨A, c, h1.below hb h1.lt, h2, h3, h4.below (hb.mono hB)⟩
theorem IsU.grown {w w' : World} {g B : Nat} {r : Fm.Rd} {row : Option Nat} (h : IsU w g B r) (hg : w.grownBy w' row) (hne : some g ≠ row) (hb : Below B w w') : IsU w' g B r := by
  obtain ⟨A, c, h1, h2, h3, h4⟩ := h
  exact ⟨A, c, h1.grown hg hne, h2, h3, h4.below hb⟩
theorem num_shrinks (r : Fm.Rd) (most : Int) : (r.num most).1.l.length ≤ r.l.length := by
  unfold Fm.Rd.num
  split
  · exact Nat.le_refl _
  · split
    · exact Nat.le_refl _
    · split
      · exact Nat.le_refl _
      · simp only [List.length_drop]; omega
theorem strof_bk (W : World) (B : Nat) (A : Option Addr) (c : Nat) (l : List UInt8) (h : ReadB W B A l) : (convert 22 9 (.slice A l.length c)).run Tryd.prog W = .ok (.string (S l)) W :=
  run_strof W 22 5 Tryd.underlying22 Tryd.underlying5 A c B l h 9 Tryd.underlying9
theorem gby_set {w w1 : World} {g : Nat} (h : w.grownBy w1 (some g)) (k : Nat) (u : Value) : w.grownBy (w1.setCell ⟨g, k, none⟩ u) (some g) :=
  have k2 := only_set w1 g k u
  ⟨k2.os.trans h.os, k2.tape.trans h.tape, k2.output.trans h.output, Nat.le_trans h.size k2.size, fun i hi hne => (k2.block i (Nat.lt_of_lt_of_le hi h.size) hne).trans (h.block i hi hne)⟩
theorem rd_one (A : Option Addr) (n c : Nat) (e : Int) : ∀ v ∈ [Value.slice A n c, Value.int .i64 e], v.oneCell' = true := by
  intro v hv
  simp only [List.mem_cons, List.not_mem_nil, or_false] at hv
  rcases hv with rfl | rfl <;> rfl
theorem or_disj (a b k : Nat) (hb : b < 2 ^ k) (ha : a * 2 ^ k + b < 4294967296) : bits .or .u32 ((a * 2 ^ k : Nat) : Int) (b : Int) = ((a * 2 ^ k + b : Nat) : Int) := by
  have e1 : (BitVec.ofInt 32 ((a * 2 ^ k : Nat) : Int)).toNat = a * 2 ^ k := by rw [BitVec.ofInt_natCast, BitVec.toNat_ofNat]; exact Nat.mod_eq_of_lt (by omega)
  have e2 : (BitVec.ofInt 32 (b : Int)).toNat = b := by rw [BitVec.ofInt_natCast, BitVec.toNat_ofNat]; exact Nat.mod_eq_of_lt (by omega)
  show IntKind.u32.wrap ((BitVec.ofInt 32 ((a * 2 ^ k : Nat) : Int) ||| BitVec.ofInt 32 (b : Int)).toNat : Int) = _
  have h3 := Nat.two_pow_add_eq_or_of_lt (i := k) (b := b) hb a
  rw [BitVec.toNat_or, e1, e2, Nat.mul_comm a, ← h3, IntKind.wrap_u32, ← Nat.mul_comm a]
  rw [Nat.mul_comm a] at ha ⊢
  omega
theorem zsig_size (V : Nat) : (zsig V).toArray.size = 33 := by simp [zsig]
theorem zsig_one (V : Nat) : ∀ v ∈ zsig V, v.oneCell' = true := by
  intro v hv
  unfold zsig at hv
  rcases List.mem_cons.1 hv with rfl | h
  · rfl
  · obtain ⟨_, rfl⟩ := List.mem_replicate.1 h
    rfl
theorem wbits (y0 y1 y2 y3 : Nat) (b0 : y0 < 256) (b1 : y1 < 256) (b2 : y2 < 256) (b3 : y3 < 256) : bits .or .u32 (bits .or .u32 (bits .or .u32 (IntKind.u32.wrap (IntKind.u32.wrap (y0 : Int) * 16777216)) (IntKind.u32.wrap (IntKind.u32.wrap (y1 : Int) * 65536))) (IntKind.u32.wrap (IntKind.u32.wrap (y2 : Int) * 256))) (IntKind.u32.wrap (y3 : Int)) = ((((y0 * 256 + y1) * 256 + y2) * 256 + y3 : Nat) : Int) := by
  simp only [IntKind.wrap_u32]
  rw [show (y0 : Int) % 4294967296 = y0 by omega, show (y1 : Int) % 4294967296 = y1 by omega, show (y2 : Int) % 4294967296 = y2 by omega, show (y3 : Int) % 4294967296 = y3 by omega]
  rw [show (y0 : Int) * 16777216 % 4294967296 = ((y0 * 2 ^ 24 : Nat) : Int) by omega, show (y1 : Int) * 65536 % 4294967296 = ((y1 * 65536 : Nat) : Int) by omega, show (y2 : Int) * 256 % 4294967296 = ((y2 * 256 : Nat) : Int) by omega]
  rw [or_disj y0 (y1 * 65536) 24 (by omega) (by omega)]
  rw [show y0 * 2 ^ 24 + y1 * 65536 = (y0 * 256 + y1) * 2 ^ 16 by omega]
  rw [or_disj (y0 * 256 + y1) (y2 * 256) 16 (by omega) (by omega)]
  rw [show (y0 * 256 + y1) * 2 ^ 16 + y2 * 256 = ((y0 * 256 + y1) * 256 + y2) * 2 ^ 8 by omega]
  rw [or_disj ((y0 * 256 + y1) * 256 + y2) y3 8 (by omega) (by omega)]
theorem run_weakOnly (V : Nat) (w : World) : (Instr.build 49 #[(0, .int .u32 (V : Int))]).run Tryd.prog w = .ok (.agg (zsig V).toArray) w := by
  refine run_buildL w _ _ (.int .u32 0 :: List.replicate 32 (.int .u8 0)) [(0, 1), (1, 32)] (by kernel_rfl) _ ?_
  simp only [fillL, List.getElem?_cons_zero, List.getElem?_cons_succ, Value.cells]
  simp [zsig]
theorem val4 (x : List UInt8) (h : x.length = 36) : Vm.val 0 (x.take 4) = (((x.getD 0 0).toNat * 256 + (x.getD 1 0).toNat) * 256 + (x.getD 2 0).toNat) * 256 + (x.getD 3 0).toNat := by
  match x, h with
  | a :: b :: c :: d :: t, _ => simp [Vm.val]
/-- a sum half filled -/
def psig (V : Nat) (l : List UInt8) : List Value := .int .u32 (V : Int) :: (bvs l ++ List.replicate (32 - l.length) (.int .u8 0))
theorem psig_zero (V : Nat) : psig V [] = zsig V := by simp [psig, zsig, bvs]
theorem psig_full (V : Nat) (l : List UInt8) (h : l.length = 32) : psig V l = sgv (V, l) := by simp [psig, sgv, h]
theorem psig_set {w : World} {g V : Nat} {t : TypeId} {l : List UInt8} (h : Blk w g t (psig V l).toArray) (hl : l.length < 32) (b : UInt8) : Blk (w.setCell ⟨g, 1 + l.length, none⟩ (.int .u8 (b.toNat : Int))) g t (psig V (l ++ [b])).toArray := by
  have := Blk.set_ h (1 + l.length) (.int .u8 (b.toNat : Int))
  rw [toArray_set] at this
  have e : (psig V l).set (1 + l.length) (.int .u8 (b.toNat : Int)) = psig V (l ++ [b]) := by
    unfold psig
    rw [Nat.add_comm 1, List.set_cons_succ, List.set_append_right _ _ (by rw [bvs_length]; exact Nat.le_refl _), bvs_length, Nat.sub_self]
    obtain ⟨m, hm⟩ : ∃ m, 32 - l.length = m + 1 := ⟨32 - l.length - 1, by omega⟩
    have hm2 : 32 - (l ++ [b]).length = m := by simp; omega
    rw [hm, hm2, List.replicate_succ, List.set_cons_zero, bvs_append, List.append_assoc]
    rfl
  rw [e] at this
  exact this
theorem psig_cell {w : World} {g V : Nat} {t : TypeId} {l : List UInt8} (h : Blk w g t (psig V l).toArray) (hl : l.length < 32) : w.cell? ⟨g, 1 + l.length, none⟩ = some (.int .u8 0) := by
  rw [Blk.cell h, List.getElem?_toArray, Nat.add_comm 1]
  unfold psig
  rw [List.getElem?_cons_succ, List.getElem?_append_right (by rw [bvs_length]; exact Nat.le_refl _), bvs_length, Nat.sub_self]
  obtain ⟨m, hm⟩ : ∃ m, 32 - l.length = m + 1 := ⟨32 - l.length - 1, by omega⟩
  rw [hm]
  rfl
set_option maxRecDepth 100000 in
set_option maxHeartbeats 16000000 in
theorem rget_calls (raw : List UInt8) (A : Option Addr) (c : Nat) (w : World) (hr : ReadB w w.heap.size A raw) (hrc : raw.length ≤ c) (hcm : c ≤ 9223372036854775807) (hlen : raw.length ≤ 8000) :
    Calls Tryd.prog 26 #[.slice A raw.length c] w
      fun e w' => ∃ v, e = .returned (.tuple #[.int .i64 (get raw).1, .int .i64 (get raw).2.1, v, .int .i64 (get raw).2.2.2]) ∧ OwnRow sgv 33 w' w.heap.size 49 v (get raw).2.2.1 ∧ Below w.heap.size w w' := by
  obtain ⟨a, s, ha⟩ : ∃ a s, (Fm.Rd.mk raw 0).num 4096 = (a, s) := ⟨_, _, rfl⟩
  obtain ⟨b, n, hb⟩ : ∃ b n, a.num 65536 = (b, n) := ⟨_, _, rfl⟩
  have hge : get raw = rgetK raw (s : Int) (n : Int) b (if b.e ≠ 0 then 0 else b.l.length / 36) := by
    rw [get_rget]; unfold rget; simp only [ha, hb]
  obtain ⟨K, hK⟩ : ∃ K, K = (if b.e ≠ 0 then 0 else b.l.length / 36) := ⟨_, rfl⟩
  rw [← hK] at hge
  have hal : a.l.length ≤ raw.length := by have := num_shrinks ⟨raw, 0⟩ 4096; rw [ha] at this; exact this
  have hbl : b.l.length ≤ 8000 := by have := num_shrinks a 65536; rw [hb] at this; simp only at this; omega
  have hK36 : b.e = 0 → 36 * K ≤ b.l.length ∧ b.l.length < 36 * K + 36 := fun h => by rw [hK, if_neg (by simpa using h)]; omega
  have hK0 : b.e ≠ 0 → K = 0 := fun h => by rw [hK, if_pos h]
  have hKb : K ≤ 222 := by rw [hK]; split <;> omega
  have hse : (s : Int) ≤ 4096 := by
    have := num_most ⟨raw, 0⟩ 4096 (by omega)
    rw [ha] at this
    exact this
  have hne : (n : Int) ≤ 65536 := by
    have := num_most a 65536 (by omega)
    rw [hb] at this
    exact this
  have hV0 : Fr.IsV w w.heap.size (.agg #[.slice A raw.length c, .int .i64 0]) ⟨raw, 0⟩ := ⟨A, c, rfl, hrc, hcm, hr⟩
  have hn1 := Fr.rnum_calls w.heap.size _ ⟨raw, 0⟩ 4096 w hV0 (Nat.le_refl _)
  rw [ha] at hn1
  have Hn1 := Lib.hid hn1
  have Hb := Lib.hid hb
  have Hge := Lib.hid hge
  have HK36 := Lib.hid hK36
  have HK0 := Lib.hid hK0
  have Hr := Lib.hid hr
  obtain ⟨r1, r2, r3, r4, hgr⟩ : ∃ r1 r2 r3 r4, get raw = (r1, r2, r3, r4) := ⟨_, _, _, _, rfl⟩
  rw [hgr]
  simp only
  have Hgr := Lib.hid hgr
  clear ha hb hge hK hK36 hK0 hV0 hn1 hr hgr hal
  go_enter Tryd.func26, Tryd.ntmps26
  go_wp2_with fail
  refine Calls.mono Hn1.out ?_
  rintro e w1 ⟨v1, rfl, hv1, hb1⟩
  obtain ⟨A1, c1, rfl, p1, p2, p3⟩ := hv1
  have HB1 := Lib.hid hb1
  have HR1 := Lib.hid p3
  clear hb1 p3
  obtain ⟨g, hg⟩ : ∃ g, g = w1.heap.size := ⟨_, rfl⟩
  have Hg := Lib.hid hg
  have hg0 : w.heap.size ≤ g := by rw [hg]; exact HB1.out.size
  clear hg
  go_wp2_with (first
    | (refine wpList_store_blk rfl 85 (.tmp 6) (.tmp 19) rfl w1.heap.size 0 85 [] [Value.slice none 0 0, Value.int .i64 0] [] [Value.slice A1 a.l.length c1, Value.int .i64 a.e] rfl rfl (by exact heap_alloc_new _ _) rfl rfl (by kernel_rfl) (rd_one _ _ _ _) ?_; intro w2 hS2 hg2; rw [List.nil_append, List.append_nil, ← Hg.out] at hS2; have hb2 : Below w1.heap.size w1 w2 := only_after ((Below.refl _ _).alloc (Nat.le_refl _) _) hg2 (Nat.le_refl _); have HS2 := Lib.hid hS2; have HB2 := Lib.hid (HB1.out.trans (hb2.mono HB1.out.size)); have HR2 := Lib.hid (HR1.out.below (hb2.mono HB1.out.size)); clear hS2 hg2 hb2)
    | (refine wpList_load_blk rfl 85 (.tmp 6) rfl w1.heap.size 0 85 [] [Value.slice A1 a.l.length c1, Value.int .i64 a.e] [] rfl (by rw [← Hg.out]; exact HS2.out) rfl _ Tryd.underlying85 rfl (by kernel_rfl) ?_))
  have hn2 := Fr.rnum_calls w.heap.size _ a 65536 w2 ⟨A1, c1, rfl, p1, p2, HR2.out⟩ HB2.out.size
  rw [Hb.out] at hn2
  refine Calls.mono hn2 ?_
  clear hn2
  rintro e w3 ⟨v3, rfl, hv3, hb3⟩
  obtain ⟨A3, c3, rfl, p1, p2, p3⟩ := hv3
  have HB3 := Lib.hid (HB2.out.trans (hb3.mono HB2.out.size))
  have HR3 := Lib.hid p3
  have HS3 := Lib.hid (HS2.out.below hb3 HS2.out.lt)
  clear hb3 p3 HB2 HR2 HS2 HB1 HR1 Hn1
  rw [← Hg.out]
  go_wp2_with (refine wpList_store_blk rfl 85 (.tmp 6) (.tmp 24) rfl g 0 85 [] [Value.slice A1 a.l.length c1, Value.int .i64 a.e] [] [Value.slice A3 b.l.length c3, Value.int .i64 b.e] rfl rfl (by exact HS3.out) rfl rfl (by kernel_rfl) (rd_one _ _ _ _) ?_; intro w4 hS4 hg4; rw [List.nil_append, List.append_nil] at hS4; have hb4 : Below w.heap.size w3 w4 := below_of_only hg4 hg0 HB3.out.size; have HS4 := Lib.hid hS4; have HB4 := Lib.hid (HB3.out.trans hb4); have HR4 := Lib.hid (HR3.out.below hb4); clear hS4 hg4 hb4)
  clear HB3 HR3 HS3 Hb
  go_loopg [9] K (fun q v9 wr => ∃ k : Nat, k ≤ K ∧ q = K - k ∧ OwnRow sgv 33 wr w.heap.size 49 v9 (sigsK b.l k) ∧ IsU wr g w.heap.size ⟨b.l.drop (36 * k), b.e⟩ ∧ Below w.heap.size w wr)
  case atStart => exact ⟨0, by omega, rfl, OwnRow.nil, ⟨A3, c3, by rw [Nat.mul_zero, List.drop_zero]; exact HS4.out, by rw [Nat.mul_zero, List.drop_zero]; exact p1, p2, by rw [Nat.mul_zero, List.drop_zero]; exact HR4.out⟩, HB4.out⟩
  case round =>
    obtain ⟨k, hk, hq, ho, hU, hB⟩ := hrel
    have Hq := Lib.hid hq
    have HB := Lib.hid hB
    obtain ⟨x, hx⟩ : ∃ x, x = b.l.drop (36 * k) := ⟨_, rfl⟩
    rw [← hx] at hU
    obtain ⟨Ax, cx, hS, k1, k2, hRx⟩ := hU
    have HS := Lib.hid hS
    have HRx := Lib.hid hRx
    obtain ⟨A9, c9, hv9, hl9, hm9, hRR, _⟩ := ho.opens
    rw [sigsK_len] at hv9
    subst hv9
    have HO := Lib.hid ho
    have hxl : x.length = b.l.length - 36 * k := by rw [hx, List.length_drop]
    have hce := HS.out.cell 1
    have hcb := HS.out.cell 0
    have t2 : decide ((k : Int) ≤ 4096) = true := decide_eq_true (by omega)
    clear hq ho hS hRx hB HB4 HR4 HS4 p1 p2
    by_cases hkK : k < K
    · have hbe : b.e = 0 := by
        by_cases h : b.e = 0
        · exact h
        · have := HK0.out h; omega
      have h36 := HK36.out hbe
      have hx36 : 36 ≤ x.length := by omega
      have t1 : decide ((36 : Int) ≤ (x.length : Int)) = true := decide_eq_true (by omega)
      have hrw : (Fm.Rd.mk x 0).raw 36 = (⟨x.drop 36, 0⟩, x.take 36) := by
        unfold Fm.Rd.raw
        rw [if_neg (by simp), if_neg (by omega), if_neg (by simp only; omega)]
        rfl
      obtain ⟨z, hz⟩ : ∃ z, z = x.drop 36 := ⟨_, rfl⟩
      rw [← hz] at hrw
      have Hrw := Lib.hid hrw
      have h36l : (x.take 36).length = 36 := by rw [List.length_take]; omega
      have hsk := sigsK_succ b.l k
      rw [Nat.mul_comm k 36, ← hx] at hsk
      have hdr : z = b.l.drop (36 * (k + 1)) := by rw [hz, hx, List.drop_drop, Nat.mul_add]
      have hv4 := val4 (x.take 36) h36l
      obtain ⟨y, hy⟩ : ∃ y, y = x.take 36 := ⟨_, rfl⟩
      rw [← hy] at h36l hsk hv4
      have Hsk := Lib.hid hsk
      have Hdr := Lib.hid hdr
      have Hy := Lib.hid hy
      have Hbe := Lib.hid hbe
      obtain ⟨y0, hy0⟩ : ∃ z, z = (y.getD 0 0).toNat := ⟨_, rfl⟩
      obtain ⟨y1, hy1⟩ : ∃ z, z = (y.getD 1 0).toNat := ⟨_, rfl⟩
      obtain ⟨y2, hy2⟩ : ∃ z, z = (y.getD 2 0).toNat := ⟨_, rfl⟩
      obtain ⟨y3, hy3⟩ : ∃ z, z = (y.getD 3 0).toNat := ⟨_, rfl⟩
      have b0 : y0 < 256 := by rw [hy0]; exact UInt8.toNat_lt _
      have b1 : y1 < 256 := by rw [hy1]; exact UInt8.toNat_lt _
      have b2 : y2 < 256 := by rw [hy2]; exact UInt8.toNat_lt _
      have b3 : y3 < 256 := by rw [hy3]; exact UInt8.toNat_lt _
      rw [hbe] at hce HS
      have Hy0 := Lib.hid hy0
      have Hy1 := Lib.hid hy1
      have Hy2 := Lib.hid hy2
      have Hy3 := Lib.hid hy3
      have Hv4 := Lib.hid hv4
      clear hz hy0 hy1 hy2 hy3 hv4 hbe hy hdr hsk hrw hx hxl h36
      go_wp2_with (refine wpList_load_blk rfl 85 (.tmp 6) rfl g 0 85 [] [Value.slice Ax x.length cx, Value.int .i64 0] [] rfl HS.out rfl _ Tryd.underlying85 rfl (by kernel_rfl) ?_)
      have hra := Fr.rraw_calls w.heap.size _ ⟨x, 0⟩ 36 wr ⟨Ax, cx, rfl, k1, k2, HRx.out⟩ HB.out.size
      rw [Hrw.out, ← Hy.out] at hra
      refine Calls.mono hra ?_
      clear hra
      rintro e w5 ⟨v5, rfl, hv5, hb5⟩
      obtain ⟨A5, c5, rfl, l1, l2, hR5⟩ := hv5
      have HB5 := Lib.hid (HB.out.trans (hb5.mono HB.out.size))
      have HR5 := Lib.hid hR5
      have HS5 := Lib.hid (HS.out.below hb5 HS.out.lt)
      have HO5 := Lib.hid (HO.out.keptB hb5)
      clear hb5 hR5 HS HB HO HRx hce hcb
      go_wp2_with (refine wpList_store_blk rfl 85 (.tmp 6) (.tmp 43) rfl g 0 85 [] [Value.slice Ax x.length cx, Value.int .i64 0] [] [Value.slice A5 z.length c5, Value.int .i64 0] rfl rfl (by exact HS5.out) rfl rfl (by kernel_rfl) (rd_one _ _ _ _) ?_; intro w6 hS6 hg6; rw [List.nil_append, List.append_nil] at hS6; have hb6 : Below w.heap.size w5 w6 := below_of_only hg6 hg0 HB5.out.size; have HS6 := Lib.hid hS6; have HB6 := Lib.hid (HB5.out.trans hb6); have HR6 := Lib.hid (HR5.out.below hb6); have HO6 := Lib.hid (HO5.out.grown hg6 (.inr (own_blk_ne HO5.out.2 HS5.out (by decide)))); clear hS6 hg6 hb6)
      go_wp2_with fail
      refine CanT.region (fun _ => True) 20 (.op 0 2 (.op 1 2 (.op 2 2 (.op 3 2 (.op 4 2 (.op 5 2 (.op 6 2 (.op 7 2 (.op 8 2 (.op 9 2 (.op 10 2 (.op 11 2 (.op 12 2 (.op 13 2 (.op 14 2 (.op 15 2 (.op 16 2 (.op 17 2 (.op 18 2 (.op 19 0 (.op 20 0 (.nil)))))))))))))))))))))) (by kernel_rfl) (by kernel_rfl) trivial ?_
      have hi0 : ∀ w', (Instr.index 9 (.string (S y)) (.int .i64 0)).run Tryd.prog w' = .ok (.int .u8 (y0 : Int)) w' := fun w' => by have := run_idxS w' 9 Tryd.underlying9 y 0 (by omega); rw [← Hy0.out] at this; exact this
      have hi1 : ∀ w', (Instr.index 9 (.string (S y)) (.int .i64 1)).run Tryd.prog w' = .ok (.int .u8 (y1 : Int)) w' := fun w' => by have := run_idxS w' 9 Tryd.underlying9 y 1 (by omega); rw [← Hy1.out] at this; exact this
      have hi2 : ∀ w', (Instr.index 9 (.string (S y)) (.int .i64 2)).run Tryd.prog w' = .ok (.int .u8 (y2 : Int)) w' := fun w' => by have := run_idxS w' 9 Tryd.underlying9 y 2 (by omega); rw [← Hy2.out] at this; exact this
      have hi3 : ∀ w', (Instr.index 9 (.string (S y)) (.int .i64 3)).run Tryd.prog w' = .ok (.int .u8 (y3 : Int)) w' := fun w' => by have := run_idxS w' 9 Tryd.underlying9 y 3 (by omega); rw [← Hy3.out] at this; exact this
      repeat (first | (refine CanT.skip rfl ?_ (fun K hK => ?_); (focus (go_simp; done)); go_simp; refine hK _ ?_; clear hK K) | (refine CanT.pur rfl ?_ ?_; (focus (go_simp; done)); refine ⟨?_, ?_, ?_⟩; rotate_left; (focus (intro w'; go_simp; rfl)); (focus (intro K hK; go_simp; refine hK _ ?_; clear hK K))))
      have hbits := wbits y0 y1 y2 y3 b0 b1 b2 b3
      rw [hbits]
      have hVe : ((y0 * 256 + y1) * 256 + y2) * 256 + y3 = Vm.val 0 (y.take 4) := by rw [Hv4.out, Hy0.out, Hy1.out, Hy2.out, Hy3.out]
      rw [hVe]
      obtain ⟨V, hV⟩ : ∃ V, V = Vm.val 0 (y.take 4) := ⟨_, rfl⟩
      rw [← hV]
      have HV := Lib.hid hV
      clear hbits hVe hV hi0 hi1 hi2 hi3
      refine CanT.imp rfl (fun K hK => ?_)
      go_simp
      refine hK.out _ _ trivial ?_
      clear hK K
      refine CanT.last rfl (fun K hK => ?_)
      refine step_store_row ?_ 49 (.tmp 11) (.tmp 63) rfl w6.heap.size (zsig V).toArray rfl rfl 49 (zsig 0).toArray (by exact heap_alloc_new _ _) (by rw [zsig_size]; kernel_rfl) (by rw [zsig_size, zsig_size]) (all_oneCell_toArray (zsig_one V)) ?_
      focus (go_simp; done)
      intro w7 hS7 hg7
      (try go_simp)
      refine hK.out _ _ ?_
      clear hK K
      refine CanT.done ?_
      have hb7 : Below w6.heap.size w6 w7 := only_after (((Below.refl w6.heap.size w6).alloc (Nat.le_refl _) _).drew) hg7 (Nat.le_refl _)
      have HB7 := Lib.hid (HB6.out.trans (hb7.mono HB6.out.size))
      have hb7x : Below w6.heap.size w6 w7 := hb7
      have HR7 := Lib.hid (HR6.out.below (hb7x.mono HB6.out.size))
      have HO7 := Lib.hid (HO6.out.keptB hb7x)
      have HS7 := Lib.hid (HS6.out.below hb7x HS6.out.lt)
      obtain ⟨gx, hgx⟩ : ∃ gx, gx = w6.heap.size := ⟨_, rfl⟩
      rw [← hgx] at hS7 ⊢
      have hgx0 : g < gx := by rw [hgx]; exact HS6.out.lt
      have hgx1 : w.heap.size ≤ gx := by omega
      rw [← psig_zero V] at hS7
      have HX7 := Lib.hid hS7
      have hgb : gx ≤ w7.heap.size := Nat.le_of_lt hS7.lt
      have hown := own_blk_ne HO7.out.2 HS7.out (by decide)
      have hown2 : (Value.slice A9 k c9).ownBlock ≠ some gx := fun e => absurd (World.ownsRow.lt HO6.out.2 gx e).2 (by omega)
      clear hS7 hg7 hb7 hb7x hgx HS6 HB6 HR6 HO6 HS5 HB5 HR5 HO5
      go_wp2_with fail
      go_loopg [12] 32 (fun q v12 wr => ∃ j : Nat, j ≤ 32 ∧ q = 32 - j ∧ v12 = .int .i64 (j : Int) ∧ Blk wr gx 49 (psig V ((y.drop 4).take j)).toArray ∧ w7.grownBy wr (some gx))
      case atStart => exact ⟨0, by omega, rfl, rfl, by rw [List.take_zero]; exact HX7.out, World.grownBy.refl _ _⟩
      case round =>
        obtain ⟨j, hj, hq, rfl, hX, hBx⟩ := hrel
        have Hqx := Lib.hid hq
        have HX := Lib.hid hX
        have HBx := Lib.hid hBx
        clear hq hX hBx HX7
        by_cases hj32 : j < 32
        · have t4 : decide ((j : Int) < 32) = true := decide_eq_true (by omega)
          have hll : ((y.drop 4).take j).length = j := by rw [List.length_take, List.length_drop]; omega
          obtain ⟨yj, hyj⟩ : ∃ z, z = y.getD (4 + j) 0 := ⟨_, rfl⟩
          have hcell := psig_cell HX.out (by omega)
          have hfz := Blk.frozen HX.out (1 + j)
          have hset := psig_set HX.out (by omega) yj
          rw [hll] at hcell hset
          have hst : (y.drop 4).take j ++ [yj] = (y.drop 4).take (j + 1) := by
            rw [List.take_succ_eq_append_getElem (by rw [List.length_drop]; omega), List.getElem_drop, hyj]
            simp [List.getD, List.getElem?_eq_getElem (show 4 + j < y.length by omega)]
          have hix : ∀ w', (Instr.index 9 (.string (S y)) (.int .i64 (4 + (j : Int)))).run Tryd.prog w' = .ok (.int .u8 (yj.toNat : Int)) w' := fun w' => by
            have := run_idxS w' 9 Tryd.underlying9 y (4 + j) (by omega)
            rw [← hyj, show ((4 + j : Nat) : Int) = 4 + (j : Int) by omega] at this
            exact this
          have hw4 : IntKind.i64.wrap (4 + (j : Int)) = 4 + (j : Int) := by rw [IntKind.wrap_i64]; omega
          rw [hst] at hset
          have HX2 := Lib.hid hset
          clear hset hst hyj hll
          go_wp2_with fail
          go_roundg (32 - (j + 1))
          case rel => exact ⟨j + 1, by omega, rfl, rfl, HX2.out, gby_set HBx.out _ _⟩
          case measure => have := Hqx.out; omega
        · have t4 : decide ((j : Int) < 32) = false := decide_eq_false (by omega)
          have hX := HX.out
          rw [show j = 32 by omega, List.take_of_length_le (by rw [List.length_drop]; omega)] at hX
          have hyd : (y.drop 4).length = 32 := by rw [List.length_drop]; omega
          have hYe : ofB y = (V, y.drop 4) := by rw [HV.out]; rfl
          obtain ⟨Y, hY⟩ : ∃ Y : Sg, Y = (V, y.drop 4) := ⟨_, rfl⟩
          rw [psig_full V _ hyd, ← hY] at hX
          rw [← hY] at hYe
          have hY2 : Y.2.length = 32 := by rw [hY]; exact hyd
          rw [hYe] at Hsk
          have hbx : Below gx w7 wr := below_of_only HBx.out (Nat.le_refl _) hgb
          have HB8 := Lib.hid (HB7.out.trans (hbx.mono hgx1))
          have HR8 := Lib.hid (HR7.out.below (hbx.mono hgx1))
          have HO8 := Lib.hid (HO7.out.grown HBx.out (.inr hown2))
          have HS8 := Lib.hid (HS7.out.below hbx hgx0)
          have HY := Lib.hid hX
          have HY2 := Lib.hid hY2
          obtain ⟨i0, hi0⟩ := isRec_of infoSig
          have Hi := Lib.hid hi0
          clear hX hY hYe hyd hY2 hbx hi0 HX HBx HB7 HR7 HO7 HS7 Hqx HV Hv4
          go_wp2_with (first
            | (refine wpList_load_blk rfl 49 (.tmp 11) rfl gx 0 49 [] (sgv Y) [] rfl (by rw [List.append_nil, List.nil_append]; exact HY.out) rfl _ Tryd.underlying49 rfl (by rw [sgv_len HY2.out]; kernel_rfl) ?_)
            | (refine wpList_bslice _ rfl 24 49 1 _ rfl Tryd.underlying24 i0 33 36 Hi.out (by omega) (by omega) [(0, .agg (sgv Y).toArray)] rfl (sgv Y) (fun Z hZ => fill_one 33 (.agg (sgv Y).toArray) (sgv_len HY2.out) Z hZ) ?_)
            | (at_builtin; refine wpList_appR _ rfl (.tmp 75) (.tmp 77) 24 rfl w.heap.size 49 i0 36 Tryd.underlying24 Hi.out (by omega) _ _ rfl (HO8.out.alloc _) _ _ 1 1 [Y] rfl rfl (ReadRow.lit1 wr 49 _ Y rfl (sgv_len HY2.out) (sgv_one _)) (by rw [sigsK_len]; simp; omega) (by rw [sigsK_len]; simp; omega) (by have := HB8.out.size; simp; omega) ?_; intro v9 w9 ho9 hg9 _ hb9; have HO9 := Lib.hid ho9; have HB9 := Lib.hid ((HB8.out.alloc HB8.out.size _).trans hb9); have HS9 := Lib.hid ((HS8.out.alloc _).grown hg9 (Ne.symm hown)); have HR9 := Lib.hid (HR8.out.below (((Below.refl _ _).alloc HB8.out.size _).trans hb9)); clear ho9 hg9 hb9))
          have hU9 : IsU w9 g w.heap.size ⟨z, 0⟩ := ⟨A5, c5, HS9.out, l1, l2, HR9.out⟩
          rw [Hdr.out, ← Hbe.out] at hU9
          go_roundg (K - (k + 1))
          case rel => exact ⟨k + 1, by omega, rfl, by rw [Hsk.out]; exact HO9.out, hU9, HB9.out⟩
          case measure => have := Hq.out; omega
    · obtain rfl : k = K := by omega
      by_cases hbe : b.e = 0
      · have h36 := HK36.out hbe
        have t1 : decide ((36 : Int) ≤ (x.length : Int)) = false := decide_eq_false (by omega)
        have te : (b.e == 0) = true := by rw [hbe]; rfl
        have Hbe := Lib.hid hbe
        clear hbe h36
        clear hxl
        have HRR := Lib.hid hRR
        obtain ⟨B, q, hp⟩ : ∃ B q, put (s : Int) (n : Int) (sigsK b.l k) = (B, q) := ⟨_, _, rfl⟩
        have hput := rput_calls (s : Int) (n : Int) (sigsK b.l k) A9 c9 (by omega) (by omega) (by rw [sigsK_len]; omega) wr HRR.out
        rw [hp, sigsK_len] at hput
        simp only at hput
        obtain ⟨dd, hdd⟩ : ∃ dd, dd = (Fm.Rd.mk x b.e).done := ⟨_, rfl⟩
        have hge : get raw = if dd ≠ 0 ∨ q ≠ 0 ∨ B ≠ raw then none4 else ((s : Int), (n : Int), sigsK b.l k, 0) := by
          have hd36 : done36 b k = ⟨x, b.e⟩ := by unfold done36; rw [hx]
          rw [Hge.out]; unfold rgetK; rw [hp, hd36, ← hdd]
        have hdone := fun w' (h : ReadB w' w.heap.size Ax x) => Fr.rdone_calls w.heap.size (.agg #[.slice Ax x.length cx, .int .i64 b.e]) ⟨x, b.e⟩ w' ⟨Ax, cx, rfl, k1, k2, h⟩
        rw [← hdd] at hdone
        have Hdo := Lib.hid hdone
        have Hput := Lib.hid hput
        have Hgee := Lib.hid hge
        clear hdone hput hge hdd hp hRR hl9 hx Hge
        go_wp2_with fail
        refine Calls.mono Hput.out ?_
        rintro e w5 ⟨v5, rfl, ho5, hb5⟩
        obtain ⟨A5, c5, rfl, l1, l2, l3, l4⟩ := ho5.opens
        have HB5 := Lib.hid (HB.out.trans (hb5.mono HB.out.size))
        have HR5 := Lib.hid l3
        have HS5 := Lib.hid (HS.out.below hb5 HS.out.lt)
        have HO5 := Lib.hid (HO.out.keptB hb5)
        have hdone := Hdo.out w5 (HRx.out.below (hb5.mono HB.out.size))
        have Hdone := Lib.hid hdone
        clear ho5 hb5 l3 l4 hdone HS HO HRx HB hce hcb HRR Hput Hdo
        by_cases hd : dd = 0
        · have hd1 : (dd != 0) = false := by rw [hd]; rfl
          by_cases hq0 : q = 0
          · have hq1 : (q != 0) = false := by rw [hq0]; rfl
            by_cases hBr : B = raw
            · have hs1 : ((S B).toList != (S raw).toList) = false := by rw [hBr]; simp
              have hs2 : (B == raw) = true := beq_iff_eq.2 hBr
              have hgv : get raw = ((s : Int), (n : Int), sigsK b.l k, 0) := by rw [Hgee.out]; exact if_neg (by rw [hd, hq0, hBr]; simp)
              have Hgv := Lib.hid hgv
              clear hgv hBr hs1
              go_wp2_with (first
                | (refine wpList_load_blk rfl 85 (.tmp 6) rfl g 0 85 [] [Value.slice Ax x.length cx, Value.int .i64 b.e] [] rfl HS5.out rfl _ Tryd.underlying85 rfl (by kernel_rfl) ?_)
                | (go_at_call 45; refine Calls.mono Hdone.out ?_; rintro e w6 ⟨rfl, hb6⟩; have HB6 := Lib.hid (HB5.out.trans (hb6.mono (HB5.out.size))); have HO6 := Lib.hid (HO5.out.keptB hb6); have hst1 := strof_bk w6 _ A5 c5 B (HR5.out.below hb6); have hst2 := strof_bk w6 _ A c raw (Hr.out.below HB6.out); clear hb6))
              refine bodyPost_ret (results_tmp4 rfl _ _ _) rfl ?_
              have hr := Hgr.out
              rw [Hgv.out] at hr
              simp only [Prod.mk.injEq] at hr
              obtain ⟨rfl, rfl, rfl, rfl⟩ := hr
              exact ⟨_, rfl, HO6.out, HB6.out⟩
            · have hs1 : ((S B).toList != (S raw).toList) = true := by rw [S_toList, S_toList, bne_iff_ne]; exact hBr
              have hs2 : (B == raw) = false := beq_eq_false_iff_ne.2 hBr
              have hgv : get raw = none4 := by rw [Hgee.out]; exact if_pos (.inr (.inr hBr))
              have Hgv := Lib.hid hgv
              clear hgv
              go_wp2_with (first
                | (refine wpList_load_blk rfl 85 (.tmp 6) rfl g 0 85 [] [Value.slice Ax x.length cx, Value.int .i64 b.e] [] rfl HS5.out rfl _ Tryd.underlying85 rfl (by kernel_rfl) ?_)
                | (go_at_call 45; refine Calls.mono Hdone.out ?_; rintro e w6 ⟨rfl, hb6⟩; have HB6 := Lib.hid (HB5.out.trans (hb6.mono (HB5.out.size))); have HO6 := Lib.hid (HO5.out.keptB hb6); have hst1 := strof_bk w6 _ A5 c5 B (HR5.out.below hb6); have hst2 := strof_bk w6 _ A c raw (Hr.out.below HB6.out); clear hb6))
              refine bodyPost_ret (results_tmp4 rfl _ _ _) rfl ?_
              have hr := Hgr.out
              rw [Hgv.out] at hr
              simp only [none4, Prod.mk.injEq] at hr
              obtain ⟨rfl, rfl, rfl, rfl⟩ := hr
              exact ⟨_, rfl, OwnRow.nil, HB6.out⟩
          · have hq1 : (q != 0) = true := by rw [bne_iff_ne]; exact hq0
            have hgv : get raw = none4 := by rw [Hgee.out]; exact if_pos (.inr (.inl hq0))
            have Hgv := Lib.hid hgv
            clear hgv
            go_wp2_with (first
              | (refine wpList_load_blk rfl 85 (.tmp 6) rfl g 0 85 [] [Value.slice Ax x.length cx, Value.int .i64 b.e] [] rfl HS5.out rfl _ Tryd.underlying85 rfl (by kernel_rfl) ?_)
              | (go_at_call 45; refine Calls.mono Hdone.out ?_; rintro e w6 ⟨rfl, hb6⟩; have HB6 := Lib.hid (HB5.out.trans (hb6.mono (HB5.out.size))); have HO6 := Lib.hid (HO5.out.keptB hb6); have hst1 := strof_bk w6 _ A5 c5 B (HR5.out.below hb6); have hst2 := strof_bk w6 _ A c raw (Hr.out.below HB6.out); clear hb6))
            refine bodyPost_ret (results_tmp4 rfl _ _ _) rfl ?_
            have hr := Hgr.out
            rw [Hgv.out] at hr
            simp only [none4, Prod.mk.injEq] at hr
            obtain ⟨rfl, rfl, rfl, rfl⟩ := hr
            exact ⟨_, rfl, OwnRow.nil, HB6.out⟩
        · have hd1 : (dd != 0) = true := by rw [bne_iff_ne]; exact hd
          have hgv : get raw = none4 := by rw [Hgee.out]; exact if_pos (.inl hd)
          have Hgv := Lib.hid hgv
          clear hgv
          go_wp2_with (first
            | (refine wpList_load_blk rfl 85 (.tmp 6) rfl g 0 85 [] [Value.slice Ax x.length cx, Value.int .i64 b.e] [] rfl HS5.out rfl _ Tryd.underlying85 rfl (by kernel_rfl) ?_)
            | (go_at_call 45; refine Calls.mono Hdone.out ?_; rintro e w6 ⟨rfl, hb6⟩; have HB6 := Lib.hid (HB5.out.trans (hb6.mono (HB5.out.size))); have HO6 := Lib.hid (HO5.out.keptB hb6); have hst1 := strof_bk w6 _ A5 c5 B (HR5.out.below hb6); have hst2 := strof_bk w6 _ A c raw (Hr.out.below HB6.out); clear hb6))
          refine bodyPost_ret (results_tmp4 rfl _ _ _) rfl ?_
          have hr := Hgr.out
          rw [Hgv.out] at hr
          simp only [none4, Prod.mk.injEq] at hr
          obtain ⟨rfl, rfl, rfl, rfl⟩ := hr
          exact ⟨_, rfl, OwnRow.nil, HB6.out⟩
      · have te : (b.e == 0) = false := by rw [beq_eq_false_iff_ne]; exact hbe
        have Hbe := Lib.hid hbe
        clear hbe hxl
        have HRR := Lib.hid hRR
        obtain ⟨B, q, hp⟩ : ∃ B q, put (s : Int) (n : Int) (sigsK b.l k) = (B, q) := ⟨_, _, rfl⟩
        have hput := rput_calls (s : Int) (n : Int) (sigsK b.l k) A9 c9 (by omega) (by omega) (by rw [sigsK_len]; omega) wr HRR.out
        rw [hp, sigsK_len] at hput
        simp only at hput
        obtain ⟨dd, hdd⟩ : ∃ dd, dd = (Fm.Rd.mk x b.e).done := ⟨_, rfl⟩
        have hge : get raw = if dd ≠ 0 ∨ q ≠ 0 ∨ B ≠ raw then none4 else ((s : Int), (n : Int), sigsK b.l k, 0) := by
          have hd36 : done36 b k = ⟨x, b.e⟩ := by unfold done36; rw [hx]
          rw [Hge.out]; unfold rgetK; rw [hp, hd36, ← hdd]
        have hdone := fun w' (h : ReadB w' w.heap.size Ax x) => Fr.rdone_calls w.heap.size (.agg #[.slice Ax x.length cx, .int .i64 b.e]) ⟨x, b.e⟩ w' ⟨Ax, cx, rfl, k1, k2, h⟩
        rw [← hdd] at hdone
        have Hdo := Lib.hid hdone
        have Hput := Lib.hid hput
        have Hgee := Lib.hid hge
        clear hdone hput hge hdd hp hRR hl9 hx Hge
        go_wp2_with fail
        refine Calls.mono Hput.out ?_
        rintro e w5 ⟨v5, rfl, ho5, hb5⟩
        obtain ⟨A5, c5, rfl, l1, l2, l3, l4⟩ := ho5.opens
        have HB5 := Lib.hid (HB.out.trans (hb5.mono HB.out.size))
        have HR5 := Lib.hid l3
        have HS5 := Lib.hid (HS.out.below hb5 HS.out.lt)
        have HO5 := Lib.hid (HO.out.keptB hb5)
        have hdone := Hdo.out w5 (HRx.out.below (hb5.mono HB.out.size))
        have Hdone := Lib.hid hdone
        clear ho5 hb5 l3 l4 hdone HS HO HRx HB hce hcb HRR Hput Hdo
        by_cases hd : dd = 0
        · have hd1 : (dd != 0) = false := by rw [hd]; rfl
          by_cases hq0 : q = 0
          · have hq1 : (q != 0) = false := by rw [hq0]; rfl
            by_cases hBr : B = raw
            · have hs1 : ((S B).toList != (S raw).toList) = false := by rw [hBr]; simp
              have hs2 : (B == raw) = true := beq_iff_eq.2 hBr
              have hgv : get raw = ((s : Int), (n : Int), sigsK b.l k, 0) := by rw [Hgee.out]; exact if_neg (by rw [hd, hq0, hBr]; simp)
              have Hgv := Lib.hid hgv
              clear hgv hBr hs1
              go_wp2_with (first
                | (refine wpList_load_blk rfl 85 (.tmp 6) rfl g 0 85 [] [Value.slice Ax x.length cx, Value.int .i64 b.e] [] rfl HS5.out rfl _ Tryd.underlying85 rfl (by kernel_rfl) ?_)
                | (go_at_call 45; refine Calls.mono Hdone.out ?_; rintro e w6 ⟨rfl, hb6⟩; have HB6 := Lib.hid (HB5.out.trans (hb6.mono (HB5.out.size))); have HO6 := Lib.hid (HO5.out.keptB hb6); have hst1 := strof_bk w6 _ A5 c5 B (HR5.out.below hb6); have hst2 := strof_bk w6 _ A c raw (Hr.out.below HB6.out); clear hb6))
              refine bodyPost_ret (results_tmp4 rfl _ _ _) rfl ?_
              have hr := Hgr.out
              rw [Hgv.out] at hr
              simp only [Prod.mk.injEq] at hr
              obtain ⟨rfl, rfl, rfl, rfl⟩ := hr
              exact ⟨_, rfl, HO6.out, HB6.out⟩
            · have hs1 : ((S B).toList != (S raw).toList) = true := by rw [S_toList, S_toList, bne_iff_ne]; exact hBr
              have hs2 : (B == raw) = false := beq_eq_false_iff_ne.2 hBr
              have hgv : get raw = none4 := by rw [Hgee.out]; exact if_pos (.inr (.inr hBr))
              have Hgv := Lib.hid hgv
              clear hgv
              go_wp2_with (first
                | (refine wpList_load_blk rfl 85 (.tmp 6) rfl g 0 85 [] [Value.slice Ax x.length cx, Value.int .i64 b.e] [] rfl HS5.out rfl _ Tryd.underlying85 rfl (by kernel_rfl) ?_)
                | (go_at_call 45; refine Calls.mono Hdone.out ?_; rintro e w6 ⟨rfl, hb6⟩; have HB6 := Lib.hid (HB5.out.trans (hb6.mono (HB5.out.size))); have HO6 := Lib.hid (HO5.out.keptB hb6); have hst1 := strof_bk w6 _ A5 c5 B (HR5.out.below hb6); have hst2 := strof_bk w6 _ A c raw (Hr.out.below HB6.out); clear hb6))
              refine bodyPost_ret (results_tmp4 rfl _ _ _) rfl ?_
              have hr := Hgr.out
              rw [Hgv.out] at hr
              simp only [none4, Prod.mk.injEq] at hr
              obtain ⟨rfl, rfl, rfl, rfl⟩ := hr
              exact ⟨_, rfl, OwnRow.nil, HB6.out⟩
          · have hq1 : (q != 0) = true := by rw [bne_iff_ne]; exact hq0
            have hgv : get raw = none4 := by rw [Hgee.out]; exact if_pos (.inr (.inl hq0))
            have Hgv := Lib.hid hgv
            clear hgv
            go_wp2_with (first
              | (refine wpList_load_blk rfl 85 (.tmp 6) rfl g 0 85 [] [Value.slice Ax x.length cx, Value.int .i64 b.e] [] rfl HS5.out rfl _ Tryd.underlying85 rfl (by kernel_rfl) ?_)
              | (go_at_call 45; refine Calls.mono Hdone.out ?_; rintro e w6 ⟨rfl, hb6⟩; have HB6 := Lib.hid (HB5.out.trans (hb6.mono (HB5.out.size))); have HO6 := Lib.hid (HO5.out.keptB hb6); have hst1 := strof_bk w6 _ A5 c5 B (HR5.out.below hb6); have hst2 := strof_bk w6 _ A c raw (Hr.out.below HB6.out); clear hb6))
            refine bodyPost_ret (results_tmp4 rfl _ _ _) rfl ?_
            have hr := Hgr.out
            rw [Hgv.out] at hr
            simp only [none4, Prod.mk.injEq] at hr
            obtain ⟨rfl, rfl, rfl, rfl⟩ := hr
            exact ⟨_, rfl, OwnRow.nil, HB6.out⟩
        · have hd1 : (dd != 0) = true := by rw [bne_iff_ne]; exact hd
          have hgv : get raw = none4 := by rw [Hgee.out]; exact if_pos (.inl hd)
          have Hgv := Lib.hid hgv
          clear hgv
          go_wp2_with (first
            | (refine wpList_load_blk rfl 85 (.tmp 6) rfl g 0 85 [] [Value.slice Ax x.length cx, Value.int .i64 b.e] [] rfl HS5.out rfl _ Tryd.underlying85 rfl (by kernel_rfl) ?_)
            | (go_at_call 45; refine Calls.mono Hdone.out ?_; rintro e w6 ⟨rfl, hb6⟩; have HB6 := Lib.hid (HB5.out.trans (hb6.mono (HB5.out.size))); have HO6 := Lib.hid (HO5.out.keptB hb6); have hst1 := strof_bk w6 _ A5 c5 B (HR5.out.below hb6); have hst2 := strof_bk w6 _ A c raw (Hr.out.below HB6.out); clear hb6))
          refine bodyPost_ret (results_tmp4 rfl _ _ _) rfl ?_
          have hr := Hgr.out
          rw [Hgv.out] at hr
          simp only [none4, Prod.mk.injEq] at hr
          obtain ⟨rfl, rfl, rfl, rfl⟩ := hr
          exact ⟨_, rfl, OwnRow.nil, HB6.out⟩
end Bk
end Go.Proofs.YtcbkhbnemhkheaaDoor
/- Sums as bytes, and bytes as sums: the program's answer is the document's: the walk of the statement. -/
namespace Go.Proofs.YtcbkhbnemhkheaaDoor
namespace Bk
open Go.RowKit Ba Sm Ro
set_option linter.unusedVariables false
set_option maxRecDepth 100000 in
set_option maxHeartbeats 8000000 in
theorem blockPuts_calls (size n : Int) (l : List Sg) (L : Option Addr) (d : Nat) (raw : List UInt8) (A : Option Addr) (c : Nat) (hs : -9223372036854775808 ≤ size ∧ size ≤ 9223372036854775807) (hn : -9223372036854775808 ≤ n ∧ n ≤ 9223372036854775807)
    (hld : l.length ≤ d) (hdm : d ≤ 9223372036854775807) (hrc : raw.length ≤ c) (hcm : c ≤ 9223372036854775807) (w : World) (htab : Tab w) (hL : ReadRow sgv 33 w w.heap.size L l) (hwf : ∀ s ∈ l, WfS s) (hr : ReadB w w.heap.size A raw) :
    Calls Tryd.prog 7 #[.agg #[.int .i64 size, .int .i64 n, .slice L l.length d], .slice A raw.length c] w fun e w' => e = .returned (.bool true) ∧ Below w.heap.size w w' := by
  have Hw := Lib.hid awake_calls
  have hA := (Below.refl w.heap.size w).alloc (Nat.le_refl _) (.cells #[.int .i64 size, .int .i64 n, .slice L l.length d] 36)
  have HA := Lib.hid hA
  have Htab := Lib.hid htab
  have HL := Lib.hid hL
  have Hr := Lib.hid hr
  have Hwf := Lib.hid hwf
  have hbx : Blk (w.alloc (.cells #[.int .i64 size, .int .i64 n, .slice L l.length d] 36)) w.heap.size 36 #[.int .i64 size, .int .i64 n, .slice L l.length d] := heap_alloc_new w _
  have HBx := Lib.hid hbx
  clear hA htab hL hr hwf hbx
  by_cases h1 : 200 < l.length
  · have g1 : decide (200 < (l.length : Int)) = true := decide_eq_true (by omega)
    go_enter Tryd.func7, Tryd.ntmps7
    go_wp2_with (go_at_call 9; refine (Hw.out _ (Htab.out.below HA.out)).mono ?_; rintro e w5 ⟨rfl, hb5⟩)
    go_ret
    exact ⟨rfl, HA.out.trans (hb5.mono HA.out.size)⟩
  have g1 : decide (200 < (l.length : Int)) = false := decide_eq_false (by omega)
  by_cases h2 : 8000 < raw.length
  · have g2 : decide (8000 < (raw.length : Int)) = true := decide_eq_true (by omega)
    go_enter Tryd.func7, Tryd.ntmps7
    go_wp2_with (go_at_call 9; refine (Hw.out _ (Htab.out.below HA.out)).mono ?_; rintro e w5 ⟨rfl, hb5⟩)
    go_ret
    exact ⟨rfl, HA.out.trans (hb5.mono HA.out.size)⟩
  have g2 : decide (8000 < (raw.length : Int)) = false := decide_eq_false (by omega)
  have hput := fun w' h => put_calls size n l L d hs hn (by omega) w' h
  have hrput := fun w' h => rput_calls size n l L d hs hn (by omega) w' h
  obtain ⟨r1, r2, r3, r4, hgr⟩ : ∃ r1 r2 r3 r4, get raw = (r1, r2, r3, r4) := ⟨_, _, _, _, rfl⟩
  obtain ⟨P, q, hp⟩ : ∃ P q, put size n l = (P, q) := ⟨_, _, rfl⟩
  have hgt := fun w' h => get_calls raw A c w' h hrc hcm
  have hrgt := fun w' h => rget_calls raw A c w' h hrc hcm (by omega)
  simp only [hgr] at hgt hrgt
  simp only [hp] at hput hrput
  have Hgt := Lib.hid hgt
  have Hrgt := Lib.hid hrgt
  have Hput := Lib.hid hput
  have Hrput := Lib.hid hrput
  have hcx := HBx.out.cell 0
  have hcy := HBx.out.cell 1
  have hcz := HBx.out.cell 2
  have hs0 : w.heap.size ≤ (w.alloc (.cells #[.int .i64 size, .int .i64 n, .slice L l.length d] 36)).heap.size := by simp
  have Hs0 := Lib.hid hs0
  clear hgt hrgt hput hrput hgr hp hs0
  go_enter Tryd.func7, Tryd.ntmps7
  go_wp2_with fail
  refine Calls.mono (Hput.out _ ((HL.out.below HA.out).more Hs0.out)) ?_
  rintro e w1 ⟨v1, rfl, ho1, hb1⟩
  obtain ⟨A1, c1, rfl, _, _, p3, _⟩ := ho1.opens
  have HB1 := Lib.hid (HA.out.trans (hb1.mono Hs0.out))
  have HP1 := Lib.hid p3
  have HBx1 := Lib.hid (HBx.out.below hb1 HBx.out.lt)
  have hcx := HBx1.out.cell 0
  have hcy := HBx1.out.cell 1
  have hcz := HBx1.out.cell 2
  clear ho1 hb1 p3
  go_wp2_with fail
  refine Calls.mono (Hrput.out _ ((HL.out.below HB1.out).more HB1.out.size)) ?_
  rintro e w2 ⟨v2, rfl, ho2, hb2⟩
  obtain ⟨A2, c2, rfl, _, _, p3, _⟩ := ho2.opens
  have HB2 := Lib.hid (HB1.out.trans (hb2.mono HB1.out.size))
  have HP2 := Lib.hid ((HP1.out.below hb2).more hb2.size)
  have HQ2 := Lib.hid p3
  clear ho2 hb2 p3 hcx hcy hcz HB1 HP1 HBx1 HBx
  go_wp2_with fail
  refine Calls.mono (Hgt.out _ ((Hr.out.below HB2.out).more HB2.out.size)) ?_
  rintro e w3 ⟨v3, rfl, ho3, hb3⟩
  obtain ⟨A3, c3, rfl, p1, p2, p3, _⟩ := ho3.opens
  have HB3 := Lib.hid (HB2.out.trans (hb3.mono HB2.out.size))
  have HP3 := Lib.hid ((HP2.out.below hb3).more hb3.size)
  have HQ3 := Lib.hid ((HQ2.out.below hb3).more hb3.size)
  have HR3 := Lib.hid p3
  have hr3 : r3.length ≤ 9223372036854775807 := by omega
  clear ho3 hb3 p3 HB2 HP2 HQ2
  go_wp2_with fail
  refine Calls.mono (Hrgt.out _ ((Hr.out.below HB3.out).more HB3.out.size)) ?_
  rintro e w4 ⟨v4, rfl, ho4, hb4⟩
  obtain ⟨A4, c4, rfl, p1, p2, p3, _⟩ := ho4.opens
  have HB4 := Lib.hid (HB3.out.trans (hb4.mono HB3.out.size))
  have hst1 := strof_bk w4 _ A1 c1 P (HP3.out.below hb4)
  have hst2 := strof_bk w4 _ A2 c2 P (HQ3.out.below hb4)
  have hsame := same_calls r3 r3 A3 A4 c3 c4 w4 ((HR3.out.below hb4).more hb4.size) p3 hr3 hr3
  rw [beq_self_eq_true] at hsame
  have Hsame := Lib.hid hsame
  clear ho4 hb4 p3 HB3 HP3 HQ3 HR3 hsame
  go_wp2_with (first
    | (go_at_call 14; refine Calls.mono Hsame.out ?_; rintro e w5 ⟨rfl, j, rfl⟩; have HB5 := Lib.hid (below_drewN HB4.out j))
    | (go_at_call 9; refine (Hw.out _ (Htab.out.below HB5.out)).mono ?_; rintro e w9 ⟨rfl, hb9⟩))
  go_ret
  exact ⟨rfl, HB5.out.trans (hb9.mono HB5.out.size)⟩
end Bk
end Go.Proofs.YtcbkhbnemhkheaaDoor
/- How a row's arguments are opened: bytes that came in, read as a list of bytes; how many there may be. -/
namespace Go.Proofs.YtcbkhbnemhkheaaDoor
namespace Rk
open Go.ChangeShapes Go.WideShapes Go.ChangeAt Go.RowKit Ba
set_option linter.unusedVariables false

theorem bd_i64 {n : Int} (h : (Lit.int .i64 n).wf = true) : -9223372036854775808 ≤ n ∧ n ≤ 9223372036854775807 := by
  simpa [Lit.wf, IntKind.min, IntKind.max, IntKind.signed, IntKind.bits] using h
theorem bd_u8 {n : Int} (h : (Lit.int .u8 n).wf = true) : 0 ≤ n ∧ n ≤ 255 := by
  simpa [Lit.wf, IntKind.min, IntKind.max, IntKind.signed, IntKind.bits] using h
theorem bd_u16 {n : Int} (h : (Lit.int .u16 n).wf = true) : 0 ≤ n ∧ n ≤ 65535 := by
  simpa [Lit.wf, IntKind.min, IntKind.max, IntKind.signed, IntKind.bits] using h
theorem bd_u32 {n : Int} (h : (Lit.int .u32 n).wf = true) : 0 ≤ n ∧ n ≤ 4294967295 := by
  simpa [Lit.wf, IntKind.min, IntKind.max, IntKind.signed, IntKind.bits] using h

theorem bytes_open {H : Type} {enc : TypeId × Value → H} {P : Program} {W : World} {base : Nat} {spare : Nat → Bool} {held : Bool} {t e : TypeId} {a : Option Addr} {len cap : Nat} {d : DataW H} {ps : List MemPlace}
    (hu : P.underlying t = some (.slice e)) (he : P.underlying e = some (.int .u8)) (hc : P.cellsOf e = 1) (h : DataW.Trod enc P W base spare held t (.slice a len cap) d ps) :
    ∃ l : List UInt8, len = l.length ∧ l.length ≤ cap ∧ cap ≤ 9223372036854775807 ∧ ReadB W W.heap.size a l := by
  obtain ⟨fuel, hf⟩ := h
  rcases open_ints hu he hc hf with ⟨hcs, _⟩ | ⟨x, l, c, zs, hcs, _, hl, hm, hz, hx, hcell, hwz⟩
  · simp [Value.cells] at hcs
    obtain ⟨rfl, rfl, rfl⟩ := hcs
    exact ⟨[], rfl, by simp, by omega, ReadB.nil⟩
  · simp [Value.cells] at hcs
    obtain ⟨rfl, rfl, rfl⟩ := hcs
    have hl2 : len ≤ zs.length := by
      rw [hz]
      split
      · exact hl
      · exact Nat.le_refl _
    have hb : ∀ k, k < zs.length → ((UInt8.ofNat (zs.getD k 0).toNat).toNat : Int) = zs.getD k 0 := fun k hk => by
      have hmem : zs.getD k 0 ∈ zs := by simp [List.getD, hk]
      have := bd_u8 (hwz _ hmem)
      rw [UInt8.toNat_ofNat']
      omega
    refine ⟨(zs.take len).map fun z => UInt8.ofNat z.toNat, by simp; omega, by simp; omega, by simpa [maxLen] using hm, ?_⟩
    intro hn
    have hn2 : 0 < len := by simp at hn; omega
    have h0 : W.cell? x = some (.int .u8 (zs.getD 0 0)) := by
      have := hcell 0 (by omega)
      rwa [add_zero_] at this
    have hs : x.spot = none := by
      unfold World.cell? at h0
      split at h0
      · split at h0
        · cases h0
        · rename_i hs; simpa using hs
      · cases h0
    have hblk := block_lt_of_cell h0
    obtain ⟨b, o, s⟩ := x
    simp only at hs
    subst hs
    refine ⟨b, o, rfl, hblk, fun k hk => ?_⟩
    have hk2 : k < len := by simp at hk; omega
    have := hcell k (by omega)
    rw [add_lit_] at this
    rw [this]
    have e : (((zs.take len).map fun z => UInt8.ofNat z.toNat).getD k 0) = UInt8.ofNat (zs.getD k 0).toNat := by
      simp [List.getD, hk2, show k < zs.length by omega]
    rw [e, hb k (by omega)]

theorem sized_ints {H : Type} {enc : TypeId × Value → H} {P : Program} {W : World} {base : Nat} {spare : Nat → Bool} {held : Bool} {t e : TypeId} {k : IntKind} {a : Option Addr} {len cap : Nat} {d : DataW H} {ps : List MemPlace} {ts : List TypeId} {ds : List (DataW H)} {j : Nat}
    (hsz : (DataW.weightsEach P ts ds).all (· ≤ reachBytes) = true) (ht : ts[j]? = some t) (hd : ds[j]? = some d) (hu : P.underlying t = some (.slice e)) (he : P.underlying e = some (.int k)) (hc : P.cellsOf e = 1) {B : Nat} (hB : P.bytesOf e = B)
    (h : DataW.Trod enc P W base spare held t (.slice a len cap) d ps) : len * B ≤ 140737488351232 := by
  obtain ⟨fuel, hf⟩ := h
  rcases open_ints hu he hc hf with ⟨hcs, _⟩ | ⟨x, l, c, zs, hcs, _, hl, _, hz, hx, _, _⟩
  · simp [Value.cells] at hcs
    obtain ⟨rfl, rfl, rfl⟩ := hcs
    simp
  · simp [Value.cells] at hcs
    obtain ⟨rfl, rfl, rfl⟩ := hcs
    obtain ⟨hx, _⟩ := Prod.mk.inj hx
    subst hx
    have z := sized_slice hsz ht hd hu
    rw [hB] at z
    have hl2 : len ≤ zs.length := by
      rw [hz]
      split
      · exact hl
      · exact Nat.le_refl _
    have h1 : (lits (H := H) k (zs.take len)).length + (lits (H := H) k (zs.drop len)).length = zs.length := by
      simp [lits]
      omega
    rw [h1] at z
    exact Nat.le_trans (Nat.mul_le_mul_right _ hl2) z
end Rk
end Go.Proofs.YtcbkhbnemhkheaaDoor
/- Arguments: slices of records, structs, arrays of bytes: opened from what they read as, cell by cell. -/
namespace Go.Proofs.YtcbkhbnemhkheaaDoor
namespace Rk
open Go.ChangeShapes Go.WideShapes Go.ChangeAt Go.RowKit Ba
set_option linter.unusedVariables false
section
variable {H : Type} {enc : TypeId × Value → H} {P : Program} {W : World} {base : Nat} {spare : Nat → Bool} {held : Bool}
theorem cells_plain {x : Addr} {v : Value} (h0 : W.cell? x = some v) : ∃ b o, x = ⟨b, o, none⟩ ∧ b < W.heap.size := by
  have hs : x.spot = none := by
    unfold World.cell? at h0
    split at h0
    · split at h0
      · cases h0
      · rename_i hs; simpa using hs
    · cases h0
  have hblk := block_lt_of_cell h0
  obtain ⟨b, o, s⟩ := x
  simp only at hs
  subst hs
  exact ⟨b, o, rfl, hblk⟩
/-- a slice of records -/
theorem open_rows {α : Type} {f : α → List Value} {sz : Nat} (Wf : α → Prop) {t e : TypeId} {fuel : Nat} {cs : List Value} {x : DataW H × List MemPlace} (hu : P.underlying t = some (.slice e)) (ce : P.cellsOf e = sz) (hsz : 0 < sz)
    (hel : ∀ fuel cs x, DataW.trod enc P W base spare held fuel e cs = some x → ∃ y, cs = f y ∧ Wf y) (h1 : ∀ y, Wf y → ∀ u ∈ f y, u.oneCell' = true) (hln : ∀ y, Wf y → (f y).length = sz)
    (h : DataW.trod enc P W base spare held fuel t cs = some x) :
    ∃ (A : Option Addr) (l : List α) (c : Nat), cs = [.slice A l.length c] ∧ l.length ≤ c ∧ c ≤ 9223372036854775807 ∧ ReadRow f sz W W.heap.size A l ∧ ∀ y ∈ l, Wf y := by
  rcases Deep.open_slice hu h with ⟨hcs, _⟩ | ⟨a, len, cap, m, n, D, Pl, hcs, _, hl, hm, hmm, hx0, hcell⟩
  · exact ⟨none, [], 0, hcs, by simp, by omega, ReadRow.nil, by simp⟩
  · have hl2 : len ≤ m := by rw [hmm]; split <;> omega
    have key : ∀ i, i < len → ∃ y, Wf y ∧ ∀ j u, (f y)[j]? = some u → W.cell? (a.add (i * sz + j)) = some u := fun i hi => by
      obtain ⟨cs', q1, q2⟩ := hcell i (by omega)
      obtain ⟨y, rfl, hy⟩ := hel _ _ _ q2
      obtain ⟨_, q3, q4⟩ := World.cells?_some q1
      rw [ce] at q3 q4
      refine ⟨y, hy, fun j u hj => ?_⟩
      have hjs : j < sz := by
        rcases Nat.lt_or_ge j sz with h | h
        · exact h
        · rw [List.getElem?_eq_none (by omega)] at hj; cases hj
      rw [← add_of_add, q4 j hjs]
      exact hj
    have hex : ∃ l : List α, l.length = len ∧ ∀ i y, l[i]? = some y → Wf y ∧ ∀ j u, (f y)[j]? = some u → W.cell? (a.add (i * sz + j)) = some u := by
      clear hcs hl hm hmm hcell hl2 hx0
      induction len with
      | zero => exact ⟨[], rfl, by simp⟩
      | succ k ih =>
        obtain ⟨l, h1, h2⟩ := ih (fun i hi => key i (by omega))
        obtain ⟨y, h3, h4⟩ := key k (by omega)
        refine ⟨l ++ [y], by simp [h1], fun i z hz => ?_⟩
        rcases Nat.lt_or_ge i l.length with h | h
        · rw [List.getElem?_append_left h] at hz
          exact h2 i z hz
        · rw [List.getElem?_append_right h] at hz
          have h0 : i - l.length = 0 := by
            rcases Nat.eq_zero_or_pos (i - l.length) with h | h
            · exact h
            · rw [List.getElem?_eq_none (by simp; omega)] at hz; cases hz
          rw [h0] at hz
          simp at hz
          subst hz
          have : i = k := by omega
          subst this
          exact ⟨h3, h4⟩
    obtain ⟨l, hl3, hl4⟩ := hex
    have hwf : ∀ y ∈ l, Wf y := fun y hy => by
      obtain ⟨i, hi⟩ := List.getElem?_of_mem hy
      exact (hl4 i y hi).1
    have hR : RWf f sz l := fun y hy => ⟨hln y (hwf y hy), h1 y (hwf y hy)⟩
    subst hl3
    refine ⟨some a, l, cap, hcs, hl, by simpa [maxLen] using hm, ⟨hR, fun hn => ?_⟩, hwf⟩
    have hc0 : ∀ j u, (rows f l)[j]? = some u → W.cell? (a.add j) = some u := fun j u hu => by
      have hj : j < l.length * sz := by
        rcases Nat.lt_or_ge j (l.length * sz) with h | h
        · exact h
        · rw [List.getElem?_eq_none (by rw [rows_len hR]; exact h)] at hu; cases hu
      have hd : j / sz < l.length := Nat.div_lt_of_lt_mul (by rw [Nat.mul_comm]; exact hj)
      have e : j = j / sz * sz + j % sz := by rw [Nat.mul_comm]; exact (Nat.div_add_mod j sz).symm
      have hg := rows_get hR (List.getElem?_eq_getElem hd) (j % sz) (Nat.mod_lt _ hsz)
      rw [← e, hu] at hg
      have := (hl4 _ _ (List.getElem?_eq_getElem hd)).2 (j % sz) u hg.symm
      rwa [← e] at this
    obtain ⟨u0, hu0⟩ : ∃ u, (rows f l)[0]? = some u := by
      have : 0 < (rows f l).length := by rw [rows_len hR]; exact Nat.mul_pos hn hsz
      exact ⟨_, List.getElem?_eq_getElem this⟩
    have h00 := hc0 0 u0 hu0
    rw [add_zero_] at h00
    obtain ⟨b, o, rfl, hb⟩ := cells_plain h00
    exact ⟨b, o, rfl, hb, fun j u hu => by rw [← add_lit_]; exact hc0 j u hu⟩
/-- an array of bytes -/
theorem open_arr {t e : TypeId} {n fuel : Nat} {cs : List Value} {x : DataW H × List MemPlace} (hu : P.underlying t = some (.array n e)) (he : P.underlying e = some (.int .u8)) (ce : P.cellsOf e = 1) (ct : P.cellsOf t = n)
    (h : DataW.trod enc P W base spare held fuel t cs = some x) : ∃ l : List UInt8, cs = bvs l ∧ l.length = n := by
  obtain ⟨xs, m, rfl, _, hl, hxs, hi⟩ := DataW.trod_array hu h
  have hcl : cs.length = n := by omega
  have key : ∀ i, i < n → ∃ b : UInt8, cs[i]? = some (bv b) := fun i hin => by
    have h1 := hi i hin
    rw [ce, Nat.mul_one, List.getElem?_eq_getElem (show i < xs.length by omega)] at h1
    obtain ⟨z, e0, _, w0⟩ := DataW.trod_int he h1
    have hb := bd_u8 w0
    have hil : i < cs.length := by omega
    have e1 : (cs.drop i).take 1 = [cs[i]] := by
      rw [List.drop_eq_getElem_cons hil]; rfl
    rw [e1] at e0
    injection e0 with e0
    refine ⟨UInt8.ofNat z.toNat, ?_⟩
    rw [List.getElem?_eq_getElem hil, e0]
    unfold bv
    rw [UInt8.toNat_ofNat']
    congr 2
    omega
  refine ⟨(List.range n).map fun i => if hin : i < n then (key i hin).choose else 0, ?_, by simp⟩
  refine List.ext_getElem? fun i => ?_
  by_cases hin : i < n
  · rw [(key i hin).choose_spec]
    simp [bvs, hin]
  · rw [List.getElem?_eq_none (by omega), List.getElem?_eq_none (by simp [bvs]; omega)]
/-- a struct's field -/
theorem open_field {t : TypeId} {fs : Array Field} {fuel : Nat} {cs : List Value} {x : DataW H × List MemPlace} (ht : P.underlying t = some (.struct fs)) (h : DataW.trod enc P W base spare held fuel t cs = some x) :
    cs.length = P.cellsOf t ∧ ∀ (i : Nat) (f : Field), fs[i]? = some f → ∃ m y, DataW.trod enc P W base spare held m f.type ((cs.drop f.offset).take (P.cellsOf f.type)) = some y := by
  obtain ⟨xs, m, rfl, _, hl, hxs, hi⟩ := DataW.trod_struct ht h
  refine ⟨hl, fun i f hf => ?_⟩
  have hil : i < xs.length := by
    rw [hxs]
    exact (Array.getElem?_eq_some_iff.1 hf).1
  have := hi i f hf
  rw [List.getElem?_eq_getElem hil] at this
  exact ⟨m, _, this⟩
/-- a struct by value has its cells -/
theorem agg_of {b2 : Nat} {t : TypeId} {fs : Array Field} {v : Value} (ht : P.underlying t = some (.struct fs)) (hv : Value.okWide P W .any b2 t v) : ∃ cs, v = .agg cs := by
  unfold Value.okWide at hv
  simp only [ht] at hv
  obtain ⟨cs, h1, _⟩ := hv
  exact ⟨cs, h1⟩
end
end Rk
end Go.Proofs.YtcbkhbnemhkheaaDoor
/- Arguments: sums. -/
namespace Go.Proofs.YtcbkhbnemhkheaaDoor
namespace Rk
open Go.ChangeShapes Go.WideShapes Go.ChangeAt Go.RowKit Ba Bk
set_option linter.unusedVariables false
theorem sigF : (Tryd.prog.fieldsOf 49).toList.map (fun f => (f.type, f.offset)) = [(33, 0), (47, 1)] := by kernel_rfl
theorem sumsF : (Tryd.prog.fieldsOf 36).toList.map (fun f => (f.type, f.offset)) = [(3, 0), (3, 1), (24, 2)] := by kernel_rfl
theorem fields_at {P : Program} {t : TypeId} {l : List (TypeId × Nat)} (h : (P.fieldsOf t).toList.map (fun f => (f.type, f.offset)) = l) (i : Nat) (a : TypeId) (o : Nat) (hi : l[i]? = some (a, o)) : ∃ f, (P.fieldsOf t)[i]? = some f ∧ f.type = a ∧ f.offset = o := by
  subst h
  rw [List.getElem?_map] at hi
  obtain ⟨f, hf, e⟩ := Option.map_eq_some_iff.1 hi
  simp only [Prod.mk.injEq] at e
  exact ⟨f, by rw [← Array.getElem?_toList]; exact hf, e.1, e.2⟩
section
variable {H : Type} {enc : TypeId × Value → H} {W : World} {base : Nat} {spare : Nat → Bool} {held : Bool}
theorem open_sig {fuel : Nat} {cs : List Value} {x : DataW H × List MemPlace} (h : DataW.trod enc Tryd.prog W base spare held fuel 49 cs = some x) : ∃ s : Sg, cs = sgv s ∧ WfS s := by
  obtain ⟨hl, hf⟩ := open_field (t := 49) (fs := Tryd.prog.fieldsOf 49) (by kernel_rfl) h
  obtain ⟨f0, g0, t0, o0⟩ := fields_at sigF 0 33 0 rfl
  obtain ⟨f1, g1, t1, o1⟩ := fields_at sigF 1 47 1 rfl
  obtain ⟨m0, y0, h0⟩ := hf 0 f0 g0
  obtain ⟨m1, y1, h1⟩ := hf 1 f1 g1
  rw [t0, o0, show Tryd.prog.cellsOf 33 = 1 by kernel_rfl] at h0
  rw [t1, o1, show Tryd.prog.cellsOf 47 = 32 by kernel_rfl] at h1
  rw [show Tryd.prog.cellsOf 49 = 33 by kernel_rfl] at hl
  obtain ⟨z, e0, _, w0⟩ := DataW.trod_int Tryd.underlying33 h0
  obtain ⟨b, e1, hb⟩ := open_arr Tryd.underlying47 Tryd.underlying5 (by kernel_rfl) (by kernel_rfl) h1
  have hz := bd_u32 w0
  refine ⟨(z.toNat, b), ?_, by simp only; omega, hb⟩
  unfold sgv
  have e : cs = cs.take 1 ++ (cs.drop 1).take 32 := by
    rw [List.take_of_length_le (l := cs.drop 1) (by rw [List.length_drop]; omega), List.take_append_drop]
  rw [List.drop_zero] at e0
  rw [e, e0, e1]
  have : ((z.toNat : Nat) : Int) = z := by omega
  simp [this]
set_option maxRecDepth 100000 in
theorem sums_open {b2 : Nat} {v : Value} {d : DataW H} {ps : List MemPlace} (hv : Value.okWide Tryd.prog W .any b2 36 v) (h : DataW.Trod enc Tryd.prog W base spare held 36 v d ps) :
    ∃ (size n : Int) (l : List Sg) (A : Option Addr) (c : Nat), v = .agg #[.int .i64 size, .int .i64 n, .slice A l.length c] ∧ (-9223372036854775808 ≤ size ∧ size ≤ 9223372036854775807) ∧ (-9223372036854775808 ≤ n ∧ n ≤ 9223372036854775807) ∧
      l.length ≤ c ∧ c ≤ 9223372036854775807 ∧ ReadRow sgv 33 W W.heap.size A l ∧ ∀ s ∈ l, WfS s := by
  obtain ⟨cs, rfl⟩ := agg_of (t := 36) (fs := Tryd.prog.fieldsOf 36) (by kernel_rfl) hv
  obtain ⟨fuel, h⟩ := h
  have hcs : (Value.agg cs).cells.toList = cs.toList := rfl
  rw [hcs] at h
  obtain ⟨hl, hf⟩ := open_field (t := 36) (fs := Tryd.prog.fieldsOf 36) (by kernel_rfl) h
  obtain ⟨f0, g0, t0, o0⟩ := fields_at sumsF 0 3 0 rfl
  obtain ⟨f1, g1, t1, o1⟩ := fields_at sumsF 1 3 1 rfl
  obtain ⟨f2, g2, t2, o2⟩ := fields_at sumsF 2 24 2 rfl
  obtain ⟨m0, y0, h0⟩ := hf 0 f0 g0
  obtain ⟨m1, y1, h1⟩ := hf 1 f1 g1
  obtain ⟨m2, y2, h2⟩ := hf 2 f2 g2
  rw [t0, o0, show Tryd.prog.cellsOf 3 = 1 by kernel_rfl] at h0
  rw [t1, o1, show Tryd.prog.cellsOf 3 = 1 by kernel_rfl] at h1
  rw [t2, o2, show Tryd.prog.cellsOf 24 = 1 by kernel_rfl] at h2
  rw [show Tryd.prog.cellsOf 36 = 3 by kernel_rfl] at hl
  obtain ⟨z0, e0, _, w0⟩ := DataW.trod_int Tryd.underlying3 h0
  obtain ⟨z1, e1, _, w1⟩ := DataW.trod_int Tryd.underlying3 h1
  obtain ⟨A, l, c, e2, q1, q2, q3, q4⟩ := open_rows (f := sgv) (sz := 33) WfS Tryd.underlying24 (by kernel_rfl) (by omega) (fun fuel cs x hx => open_sig hx) (fun y _ => sgv_one y) (fun y hy => sgv_len hy.2) h2
  refine ⟨z0, z1, l, A, c, ?_, bd_i64 w0, bd_i64 w1, q1, q2, q3, q4⟩
  congr 1
  apply Array.ext'
  generalize cs.toList = L at *
  match L, hl with
  | [x, y, z], _ =>
    simp at e0 e1 e2
    rw [e0, e1, e2]
end
end Rk
end Go.Proofs.YtcbkhbnemhkheaaDoor
