/- How a row's arguments are opened: bytes that came in, read as a list of bytes; how many there may be. -/
import Derived.Test.YtiofkhjpknfkgaaDoorN01
import Derived.Test.YtiofkhjpknfkgaaDoorN02
import Derived.Test.YtiofkhjpknfkgaaDoorN03
import Derived.Test.YtiofkhjpknfkgaaDoorN04
import Derived.Test.YtiofkhjpknfkgaaDoorN05
import Derived.Test.YtiofkhjpknfkgaaDoorN06
import Derived.Test.YtiofkhjpknfkgaaDoorN07
import Derived.Test.YtiofkhjpknfkgaaDoorN08
import Derived.Test.YtiofkhjpknfkgaaDoorN09
import Derived.Test.YtiofkhjpknfkgaaDoorN10
import Derived.Test.YtiofkhjpknfkgaaDoorN11
import Derived.Test.YtiofkhjpknfkgaaDoorN12
import Derived.Test.YtiofkhjpknfkgaaDoorN13
import Derived.Test.YtiofkhjpknfkgaaDoorN14
import Derived.Test.YtiofkhjpknfkgaaDoorN15
import Derived.ProofKit
import Derived.OpenShut
import Derived.ShutString
import Derived.ChangeOld
import Derived.SizedLaws
import Derived.ChangeSlices
import Derived.Test.YtiofkhjpknfkgaaDoorRows
import Derived.LaidMore
import Derived.Stop.Joined
import Derived.Lib.LaidTab
namespace Go.Proofs.YtiofkhjpknfkgaaDoor
namespace Rk
open Go.ChangeShapes Go.WideShapes Go.ChangeAt Go.RowKit Ba
set_option linter.unusedVariables false

theorem bd_i64 {n : Int} (h : (Lit.int .i64 n).wf = true) : -9223372036854775808 ≤ n ∧ n ≤ 9223372036854775807 := by
  simpa [Lit.wf, IntKind.min, IntKind.max, IntKind.signed, IntKind.bits] using h
theorem bd_u8 {n : Int} (h : (Lit.int .u8 n).wf = true) : 0 ≤ n ∧ n ≤ 255 := by
  simpa [Lit.wf, IntKind.min, IntKind.max, IntKind.signed, IntKind.bits] using h
theorem bd_u16 {n : Int} (h : (Lit.int .u16 n).wf = true) : 0 ≤ n ∧ n ≤ 65535 := by
  simpa [Lit.wf, IntKind.min, IntKind.max, IntKind.signed, IntKind.bits] using h
theorem bd_u32 {n : Int} (h : (Lit.int .u32 n).wf = true) : 0 ≤ n ∧ n ≤ 4294967295 := by
  simpa [Lit.wf, IntKind.min, IntKind.max, IntKind.signed, IntKind.bits] using h

theorem bytes_open {H : Type} {enc : TypeId × Value → H} {P : Program} {W : World} {base : Nat} {spare : Nat → Bool} {held : Bool} {t e : TypeId} {a : Option Addr} {len cap : Nat} {d : DataW H} {ps : List MemPlace}
    (hu : P.underlying t = some (.slice e)) (he : P.underlying e = some (.int .u8)) (hc : P.cellsOf e = 1) (h : DataW.Trod enc P W base spare held t (.slice a len cap) d ps) :
    ∃ l : List UInt8, len = l.length ∧ l.length ≤ cap ∧ cap ≤ 9223372036854775807 ∧ ReadB W W.heap.size a l := by
  obtain ⟨fuel, hf⟩ := h
  rcases open_ints hu he hc hf with ⟨hcs, _⟩ | ⟨x, l, c, zs, hcs, _, hl, hm, hz, hx, hcell, hwz⟩
  · simp [Value.cells] at hcs
    obtain ⟨rfl, rfl, rfl⟩ := hcs
    exact ⟨[], rfl, by simp, by omega, ReadB.nil⟩
  · simp [Value.cells] at hcs
    obtain ⟨rfl, rfl, rfl⟩ := hcs
    have hl2 : len ≤ zs.length := by
      rw [hz]
      split
      · exact hl
      · exact Nat.le_refl _
    have hb : ∀ k, k < zs.length → ((UInt8.ofNat (zs.getD k 0).toNat).toNat : Int) = zs.getD k 0 := fun k hk => by
      have hmem : zs.getD k 0 ∈ zs := by simp [List.getD, hk]
      have := bd_u8 (hwz _ hmem)
      rw [UInt8.toNat_ofNat']
      omega
    refine ⟨(zs.take len).map fun z => UInt8.ofNat z.toNat, by simp; omega, by simp; omega, by simpa [maxLen] using hm, ?_⟩
    intro hn
    have hn2 : 0 < len := by simp at hn; omega
    have h0 : W.cell? x = some (.int .u8 (zs.getD 0 0)) := by
      have := hcell 0 (by omega)
      rwa [add_zero_] at this
    have hs : x.spot = none := by
      unfold World.cell? at h0
      split at h0
      · split at h0
        · cases h0
        · rename_i hs; simpa using hs
      · cases h0
    have hblk := block_lt_of_cell h0
    obtain ⟨b, o, s⟩ := x
    simp only at hs
    subst hs
    refine ⟨b, o, rfl, hblk, fun k hk => ?_⟩
    have hk2 : k < len := by simp at hk; omega
    have := hcell k (by omega)
    rw [add_lit_] at this
    rw [this]
    have e : (((zs.take len).map fun z => UInt8.ofNat z.toNat).getD k 0) = UInt8.ofNat (zs.getD k 0).toNat := by
      simp [List.getD, hk2, show k < zs.length by omega]
    rw [e, hb k (by omega)]

theorem sized_ints {H : Type} {enc : TypeId × Value → H} {P : Program} {W : World} {base : Nat} {spare : Nat → Bool} {held : Bool} {t e : TypeId} {k : IntKind} {a : Option Addr} {len cap : Nat} {d : DataW H} {ps : List MemPlace} {ts : List TypeId} {ds : List (DataW H)} {j : Nat}
    (hsz : (DataW.weightsEach P ts ds).all (· ≤ reachBytes) = true) (ht : ts[j]? = some t) (hd : ds[j]? = some d) (hu : P.underlying t = some (.slice e)) (he : P.underlying e = some (.int k)) (hc : P.cellsOf e = 1) {B : Nat} (hB : P.bytesOf e = B)
    (h : DataW.Trod enc P W base spare held t (.slice a len cap) d ps) : len * B ≤ 140737488351232 := by
  obtain ⟨fuel, hf⟩ := h
  rcases open_ints hu he hc hf with ⟨hcs, _⟩ | ⟨x, l, c, zs, hcs, _, hl, _, hz, hx, _, _⟩
  · simp [Value.cells] at hcs
    obtain ⟨rfl, rfl, rfl⟩ := hcs
    simp
  · simp [Value.cells] at hcs
    obtain ⟨rfl, rfl, rfl⟩ := hcs
    obtain ⟨hx, _⟩ := Prod.mk.inj hx
    subst hx
    have z := sized_slice hsz ht hd hu
    rw [hB] at z
    have hl2 : len ≤ zs.length := by
      rw [hz]
      split
      · exact hl
      · exact Nat.le_refl _
    have h1 : (lits (H := H) k (zs.take len)).length + (lits (H := H) k (zs.drop len)).length = zs.length := by
      simp [lits]
      omega
    rw [h1] at z
    exact Nat.le_trans (Nat.mul_le_mul_right _ hl2) z
end Rk
end Go.Proofs.YtiofkhjpknfkgaaDoor
/- What the listed variable gives the walks: the round words lie in it; and the start's own heap meets the condition. -/
namespace Go.Proofs.YtiofkhjpknfkgaaDoor
namespace Ld
open Go.ChangeShapes Go.WideShapes Go.ChangeAt Go.RowKit Sm Ba
set_option linter.unusedVariables false
def laid1 : List (String × DataW Unit) := [("sumpter/sha.rounds", Rows.laid_sumpter_sha_rounds)]
theorem gN : Tryd.prog.globalNamed "sumpter/sha.rounds" = some 0 := by kernel_rfl
theorem gT : (Tryd.prog.globals[0]?).map (·.type) = some 108 := by kernel_rfl
def zs : List Int := rounds.map U
set_option maxRecDepth 100000 in
theorem datum_eq : (Rows.laid_sumpter_sha_rounds : DataW Unit) = Lib.tabData .u32 zs := by rfl
set_option maxRecDepth 100000 in
theorem door_met (os : Os) (args : Array Value) : laidMetH Tryd.prog laid1 ((World.doorLaid Tryd.prog 14 os).forCall (fun _ _ => 0) ⟨#[], args, []⟩).memory :=
  laidMetH_of_parts3 (fuel := 8) (laidMet_of_run' 8 (by kernel_rfl) (by kernel_rfl)) (by kernel_rfl) (by kernel_rfl)
set_option maxRecDepth 100000 in
theorem tab_of_laid {W : World} (h : laidMetH Tryd.prog laid1 W) : Tab W := by
  rw [MakeChecks.laidMetH_plain _ _ _ (by kernel_rfl)] at h
  unfold laid1 at h
  rw [datum_eq] at h
  have hT := Lib.tabIs_of_head gN gT Tryd.underlying108 Tryd.underlying56 (by kernel_rfl) (by kernel_rfl) h
  have hc : ∀ j, j < 64 → W.cell? ⟨0, j, none⟩ = some (.int .u32 (U (Sm.g rounds j))) := fun j hj => by
    have := hT.cell gN j hj
    rw [this]
    congr 2
    unfold zs Sm.g
    have hl : rounds.length = 64 := rfl
    simp only [List.getD_eq_getElem?_getD, List.getElem?_map]
    rw [List.getElem?_eq_getElem (by omega)]
    rfl
  refine ⟨block_lt_of_cell (hc 0 (by omega)), fun j v hv => ?_⟩
  have hj : j < 64 := by
    rcases Nat.lt_or_ge j 64 with h1 | h1
    · exact h1
    · rw [List.getElem?_eq_none (by rw [wvs_len]; exact h1)] at hv; cases hv
  rw [Nat.zero_add, hc j hj, ← hv]
  have hl : rounds.length = 64 := rfl
  unfold wvs Sm.g
  rw [List.getElem?_map, List.getElem?_eq_getElem (by omega), List.getD_eq_getElem?_getD, List.getElem?_eq_getElem (by omega)]
  rfl
end Ld
end Go.Proofs.YtiofkhjpknfkgaaDoor
/- A file of whole blocks is, of itself, copies alone: the walk of the statement. -/
namespace Go.Proofs.YtiofkhjpknfkgaaDoor
namespace Ms
open Go.RowKit Ba Tm Os_ Bk Ro Sm
set_option linter.unusedVariables false
set_option maxRecDepth 100000 in
set_option maxHeartbeats 4000000 in
theorem matchSelf_calls (b0 : List UInt8) (A : Option Addr) (n c : Nat) (s : Int) (hn : n = b0.length) (hc : n ≤ c) (hcm : c ≤ 9223372036854775807) (hs : 0 ≤ s ∧ s < 256) (w : World) (htab : Tab w) (hr0 : ReadB w w.heap.size A b0) :
    Calls Tryd.prog 6 #[.slice A n c, .int .u8 s] w fun e w' => e = .returned (.bool true) ∧ Below w.heap.size w w' := by
  have Htab := Lib.hid htab
  have Hr0 := Lib.hid hr0
  have Hn0 := Lib.hid hn
  obtain ⟨q, hq, hq2⟩ : ∃ q : Nat, s.tmod 64 = (q : Int) ∧ q < 64 := ⟨(s.tmod 64).toNat, by rw [Int.tmod_eq_emod_of_nonneg hs.1]; omega, by rw [Int.tmod_eq_emod_of_nonneg hs.1]; omega⟩
  obtain ⟨z, hz⟩ : ∃ z, z = 1 + q := ⟨_, rfl⟩
  have hqz : (1 : Int) + (q : Int) = (z : Int) := by omega
  have hz1 : 1 ≤ z ∧ z ≤ 64 := by omega
  have hz2 : 1 ≤ z ∧ z ≤ 4096 := by omega
  have hwz : IntKind.i64.wrap (z : Int) = (z : Int) := by rw [IntKind.wrap_i64]; omega
  have Hz := Lib.hid hz
  clear hz htab hr0 hn
  by_cases h1 : 400 < n
  · have g1 : decide (400 < (n : Int)) = true := decide_eq_true (by omega)
    go_enter Tryd.func6, Tryd.ntmps6
    go_wp2_with (go_at_call 9; refine (awake_calls _ Htab.out).mono ?_; rintro e w5 ⟨rfl, hb5⟩)
    go_ret
    exact ⟨rfl, hb5⟩
  have g1 : decide (400 < (n : Int)) = false := decide_eq_false (by omega)
  obtain ⟨i0, hi0⟩ := isByte_of Cl.info5
  have Hi0 := Lib.hid hi0
  obtain ⟨r, hr⟩ : ∃ r, r = n % z := ⟨_, rfl⟩
  have hrn : r ≤ n := by rw [hr]; exact Nat.mod_le _ _
  have hrem : (n : Int).tmod (z : Int) = (r : Int) := by rw [hr]; exact (Int.ofNat_tmod n z).symm
  have hz0 : ¬ (z : Int) = 0 := by omega
  obtain ⟨m, hm⟩ : ∃ m, m = n - r := ⟨_, rfl⟩
  have hsub : (n : Int) - (r : Int) = (m : Int) := by omega
  have hwm : IntKind.i64.wrap (m : Int) = (m : Int) := by rw [IntKind.wrap_i64]; omega
  have hsl := fun w' => sl_h (P := Tryd.prog) 22 5 i0 Tryd.underlying22 Hi0.out A n c (m : Int) m rfl (by omega) w'
  obtain ⟨b, hb⟩ : ∃ b, b = b0.take m := ⟨_, rfl⟩
  have hbl : m = b.length := by rw [hb, List.length_take, ← Hn0.out]; omega
  have hmz : b.length % z = 0 := by
    rw [← hbl, hm, hr]
    have := Nat.div_add_mod n z
    have e : n - n % z = z * (n / z) := by omega
    rw [e, Nat.mul_mod_right]
  have Hr : Hid (ReadB w w.heap.size A b) := Lib.hid (by rw [hb]; exact Hr0.out.take m)
  have hm4 : m ≤ 400 := by omega
  have hmc : m ≤ c := by omega
  have hself := self_sign z b hz1.1 hmz (by omega)
  have hbd := bd_sign z b b hz1.1 (by omega)
  have hix := index_calls b z A m c w hbl hz2 (by omega) hmc hcm Hr.out Htab.out
  have hwf := signK_wf z b (b.length / z)
  have hlL : (signK z b (b.length / z)).length ≤ 4096 := by rw [signK_len]; have := Nat.div_le_self b.length z; omega
  have hn1 := search_none (findB z []) z b (findB_nil z)
  obtain ⟨L, hL⟩ : ∃ L, L = signK z b (b.length / z) := ⟨_, rfl⟩
  rw [← hL] at hself hbd hix hwf hlL
  have Hself := Lib.hid hself
  have Hbd := Lib.hid hbd
  have Hix := Lib.hid hix
  have Hwf := Lib.hid hwf
  have HlL := Lib.hid hlL
  have Hn := Lib.hid hbl
  have Hn1 := Lib.hid hn1
  clear hself hbd hix hwf hlL hL hbl hmz hb hm hr hn1 hi0
  go_enter Tryd.func6, Tryd.ntmps6
  go_wp2_with fail
  refine Calls.mono Hix.out ?_
  rintro e1 w1 ⟨g, rfl, -, hX1, hb1⟩
  have HX1 := Lib.hid hX1
  have Hb1 := Lib.hid hb1
  have hiy := index_calls [] z none 0 0 w1 rfl hz2 (by omega) (by omega) (by omega) ReadB.nil (Htab.out.below hb1)
  have hiy2 : signK z [] (([] : List UInt8).length / z) = [] := by simp [signK]
  rw [hiy2] at hiy
  have Hiy := Lib.hid hiy
  clear hX1 hb1 Hix hsl hiy hiy2
  go_wp2_with fail
  refine Calls.mono Hiy.out ?_
  rintro e2 w2 ⟨gy, rfl, -, hY2, hb2⟩
  have HX2 := Lib.hid (HX1.out.below hb2)
  have HY2 := Lib.hid hY2
  have HB2 := Lib.hid (Hb1.out.trans (hb2.mono Hb1.out.size))
  clear hY2 hb2 Hiy HX1
  have hsc := search_calls z L g b A m c w2 HX2.out hz2 HlL.out Hwf.out ((Hr.out.below HB2.out).more HB2.out.size) Hn.out hmc hcm (by omega) (Htab.out.below HB2.out)
  have Hsc := Lib.hid hsc
  clear hsc
  go_wp2_with fail
  refine Calls.mono Hsc.out ?_
  rintro e3 w3 ⟨v3, M3, rfl, ho3, hM3, hb3⟩
  obtain ⟨A3, c3, hv3, -, -, q3, -⟩ := ho3.opens
  obtain ⟨m3, hm3⟩ : ∃ m3, m3 = M3.length := ⟨_, rfl⟩
  rw [← hm3] at hv3
  subst hv3
  have hk3 : m3 ≤ 9223372036854775807 := by obtain ⟨A', c', e', h1', h2', -⟩ := ho3.opens; omega
  have HB3 := Lib.hid (HB2.out.trans (hb3.mono HB2.out.size))
  have HY3 := Lib.hid (HY2.out.below hb3)
  have hcp := Dl.copied_calls M3 A3 m3 c3 hm3 hk3 (by rw [hM3]; exact fun k => (Hbd.out k).1) w3 q3
  rw [hM3, Hself.out.1, ← Hn.out] at hcp
  have Hcp := Lib.hid hcp
  have HQ3 := Lib.hid q3
  have HM3 := Lib.hid hM3
  have Hm3 := Lib.hid hm3
  have Hk3 := Lib.hid hk3
  clear ho3 hM3 hb3 q3 hcp hm3 Hsc hk3
  go_wp2_with fail
  refine Calls.mono Hcp.out ?_
  rintro e4 w4 ⟨rfl, hb4⟩
  have HB4 := Lib.hid (HB3.out.trans (hb4.mono HB3.out.size))
  have HQ4 := Lib.hid (ReadO.more (HQ3.out.below hb4) hb4.size)
  have HY4 := Lib.hid (HY3.out.below hb4)
  have hlt := Dl.literal_calls M3 A3 m3 c3 Hm3.out Hk3.out (by rw [HM3.out]; exact fun k => (Hbd.out k).2) w4 HQ4.out
  rw [HM3.out, Hself.out.2] at hlt
  have Hlt := Lib.hid hlt
  clear hb4 hlt Hcp HQ3 HY3
  go_wp2_with fail
  refine Calls.mono Hlt.out ?_
  rintro e5 w5 ⟨rfl, hb5⟩
  have HB5 := Lib.hid (HB4.out.trans (hb5.mono HB4.out.size))
  have HY5 := Lib.hid (HY4.out.below hb5)
  have hs6 := search_calls z [] gy b A m c w5 HY5.out hz2 (by simp) (by simp) ((Hr.out.below HB5.out).more HB5.out.size) Hn.out hmc hcm (by omega) (Htab.out.below HB5.out)
  rw [Hn1.out] at hs6
  have Hs6 := Lib.hid hs6
  clear hb5 hs6 Hlt HQ4 HY4
  go_wp2_with fail
  refine Calls.mono Hs6.out ?_
  rintro e6 w6 ⟨v6, M6, rfl, ho6, hM6, hb6⟩
  obtain ⟨A6, c6, hv6, -, -, q6, -⟩ := ho6.opens
  obtain ⟨m6, hm6⟩ : ∃ m6, m6 = M6.length := ⟨_, rfl⟩
  rw [← hm6] at hv6
  subst hv6
  have hk6 : m6 ≤ 9223372036854775807 := by obtain ⟨A', c', e', h1', h2', -⟩ := ho6.opens; omega
  have HB6 := Lib.hid (HB5.out.trans (hb6.mono HB5.out.size))
  have hwh := whole_calls b A m c Hn.out (by have := Hn.out; omega) (by have := Hn.out; omega) w6 ((Hr.out.below HB6.out).more HB6.out.size)
  have Hwh := Lib.hid hwh
  have HQ6 := Lib.hid q6
  have HM6 := Lib.hid hM6
  have Hm6 := Lib.hid hm6
  have Hk6 := Lib.hid hk6
  clear ho6 hM6 hb6 q6 hm6 Hs6 hk6 hwh
  go_wp2_with fail
  refine Calls.mono Hwh.out ?_
  rintro e7 w7 ⟨v7, M7, rfl, ho7, hM7, hb7⟩
  obtain ⟨A7, c7, hv7, -, -, q7, -⟩ := ho7.opens
  obtain ⟨m7, hm7⟩ : ∃ m7, m7 = M7.length := ⟨_, rfl⟩
  rw [← hm7] at hv7
  subst hv7
  have hk7 : m7 ≤ 9223372036854775807 := by obtain ⟨A', c', e', h1', h2', -⟩ := ho7.opens; omega
  have HB7 := Lib.hid (HB6.out.trans (hb7.mono HB6.out.size))
  have hsm := Dl.msame_calls M6 M7 A6 m6 c6 A7 m7 c7 Hm6.out hm7 Hk6.out hk7 w7 (ReadO.more (HQ6.out.below hb7) hb7.size) q7
  rw [HM6.out, hM7, same_refl] at hsm
  have Hsm := Lib.hid hsm
  clear ho7 hM7 hb7 q7 hm7 hk7 hsm Hwh
  go_wp2_with fail
  refine Calls.mono Hsm.out ?_
  rintro e8 w8 ⟨rfl, hb8⟩
  have HB8 := Lib.hid (HB7.out.trans (hb8.mono HB7.out.size))
  clear hb8 Hsm
  go_wp2_with fail
  refine (awake_calls _ (Htab.out.below HB8.out)).mono ?_
  rintro e9 w9 ⟨rfl, hb9⟩
  have HB9 := Lib.hid (HB8.out.trans (hb9.mono HB8.out.size))
  clear hb9
  go_wp2_with fail
  go_ret
  exact ⟨rfl, HB9.out⟩
end Ms
end Go.Proofs.YtiofkhjpknfkgaaDoor
/- Bytes that are put ahead of a file cost no more than themselves and less than two blocks: the walk of the statement. -/
namespace Go.Proofs.YtiofkhjpknfkgaaDoor
namespace Ms
open Go.RowKit Ba Tm Os_ Bk Ro Sm
set_option linter.unusedVariables false
theorem byte_of {x : Int} (h : 0 ≤ x ∧ x ≤ 255) : x = ((UInt8.ofNat x.toNat).toNat : Int) := by
  rw [UInt8.toNat_ofNat']
  omega
set_option maxRecDepth 100000 in
set_option maxHeartbeats 8000000 in
theorem matchMoved_calls (old : List UInt8) (A : Option Addr) (no c : Nat) (ah : List UInt8) (A1 : Option Addr) (na c1 : Nat) (s : Int) (hno : no = old.length) (hna : na = ah.length) (hc : no ≤ c) (hcm : c ≤ 9223372036854775807) (hc1 : na ≤ c1) (hcm1 : c1 ≤ 9223372036854775807) (hs : 0 ≤ s ∧ s < 256) (w : World) (htab : Tab w) (ho : ReadB w w.heap.size A old) (hr : ReadB w w.heap.size A1 ah) :
    Calls Tryd.prog 7 #[.slice A no c, .slice A1 na c1, .int .u8 s] w fun e w' => e = .returned (.bool true) ∧ Below w.heap.size w w' := by
  have Htab := Lib.hid htab
  have Ho := Lib.hid ho
  have Hr := Lib.hid hr
  have Hna := Lib.hid hna
  have Hno := Lib.hid hno
  obtain ⟨q, hq, hq2⟩ : ∃ q : Nat, s.tmod 64 = (q : Int) ∧ q < 64 := ⟨(s.tmod 64).toNat, by rw [Int.tmod_eq_emod_of_nonneg hs.1]; omega, by rw [Int.tmod_eq_emod_of_nonneg hs.1]; omega⟩
  obtain ⟨z, hz⟩ : ∃ z, z = 1 + q := ⟨_, rfl⟩
  have hqz : (1 : Int) + (q : Int) = (z : Int) := by omega
  have hz1 : 1 ≤ z ∧ z ≤ 64 := by omega
  have hz2 : 1 ≤ z ∧ z ≤ 4096 := by omega
  have hwz : IntKind.i64.wrap (z : Int) = (z : Int) := by rw [IntKind.wrap_i64]; omega
  have Hz := Lib.hid hz
  clear hz htab ho hr hna hno
  by_cases h1 : 300 < no
  · have g1 : decide (300 < (no : Int)) = true := decide_eq_true (by omega)
    go_enter Tryd.func7, Tryd.ntmps7
    go_wp2_with (go_at_call 9; refine (awake_calls _ Htab.out).mono ?_; rintro e w5 ⟨rfl, hb5⟩)
    go_ret
    exact ⟨rfl, hb5⟩
  have g1 : decide (300 < (no : Int)) = false := decide_eq_false (by omega)
  by_cases h2 : 300 < na
  · have g2 : decide (300 < (na : Int)) = true := decide_eq_true (by omega)
    go_enter Tryd.func7, Tryd.ntmps7
    go_wp2_with (go_at_call 9; refine (awake_calls _ Htab.out).mono ?_; rintro e w5 ⟨rfl, hb5⟩)
    go_ret
    exact ⟨rfl, hb5⟩
  have g2 : decide (300 < (na : Int)) = false := decide_eq_false (by omega)
  obtain ⟨i0, hi0⟩ := isByte_of Cl.info5
  have Hi0 := Lib.hid hi0
  clear hi0
  go_enter Tryd.func7, Tryd.ntmps7
  go_wp2_with fail
  go_loopg [8, 10] no (fun q v8 v10 wr => ∃ (k : Nat) (o : List UInt8), k ≤ no ∧ q = no - k ∧ v10 = .int .i64 (k : Int) ∧ o.length = k ∧ OwnB wr w.heap.size 5 v8 o ∧ Below w.heap.size w wr)
  case atStart => exact ⟨0, [], by omega, rfl, rfl, rfl, OwnB.nil, Below.refl _ _⟩
  case round =>
    obtain ⟨k, o, hk, hq, rfl, hok, hOw, hB⟩ := hrel
    have Hq := Lib.hid hq
    have Hok := Lib.hid hok
    have HO := Lib.hid hOw
    have HB := Lib.hid hB
    clear hq hok hOw hB
    by_cases hkn : k < no
    · have t1 : decide ((k : Int) < (no : Int)) = true := decide_eq_true (by omega)
      obtain ⟨bb, oo, rfl, hbb, hcell⟩ := Ho.out (by rw [← Hno.out]; omega)
      have hcy := (HB.out.cell (p := ⟨bb, oo + k, none⟩) hbb).trans (hcell k (by rw [← Hno.out]; exact hkn))
      obtain ⟨y, hy⟩ : ∃ y, y = old.getD k 0 := ⟨_, rfl⟩
      rw [← hy] at hcy
      have hyl := y.toNat_lt
      clear hcell hbb hy
      obtain ⟨y2, hy2⟩ : ∃ y2 : UInt8, y2 = y ||| 128 := ⟨_, rfl⟩
      have hbit : bits .or .u8 (y.toNat : Int) 128 = (y2.toNat : Int) := by
        rw [hy2]
        have := u8_or_nat y.toNat 128 (by have := y.toNat_lt; omega) (by omega)
        simpa using this
      have Hbit := Lib.hid hbit
      clear hy2
      go_wp2_with (at_builtin; go_loud (refine wpList_appB _ rfl (.tmp 34) (.tmp 40) 22 rfl w.heap.size 5 i0 Tryd.underlying22 Hi0.out _ o rfl (HO.out.alloc _) (wr.heap.size + 1) (some ⟨wr.heap.size, 0, none⟩) 1 1 [y2] rfl rfl (ReadB.lit1 _ _ _ _ (by first | rfl | exact Hbit.out)) (by rw [Hok.out]; simp; omega) (by have := HB.out.size; simp; omega) ?_); intro v5 w5 ho5 _ _ hb5)
      have HO5 := Lib.hid ho5
      have HB5 := Lib.hid ((HB.out.alloc HB.out.size _).trans hb5)
      clear ho5 hb5 hcy hbit
      (try go_wp2_with fail)
      go_roundg (no - (k + 1))
      case rel => exact ⟨k + 1, o ++ [y2], by omega, rfl, by first | rfl | simp, by rw [List.length_append, Hok.out]; rfl, HO5.out, HB5.out⟩
      case measure => have := Hq.out; omega
    · have hke : k = no := by omega
      have t1 : decide ((k : Int) < (no : Int)) = false := decide_eq_false (by omega)
      obtain ⟨ws, rfl⟩ : ∃ ws : World, ws = wr := ⟨_, rfl⟩
      have hol : no = o.length := by rw [Hok.out]; exact hke.symm
      obtain ⟨Ao, co, hv8, p1, p2, p3, -⟩ := HO.out.opens
      rw [← hol] at hv8 p1
      subst hv8
      have Hol := Lib.hid hol
      have HRo := Lib.hid p3
      clear hol p3 hke Hok
      go_wp2_with fail
      go_loopg [9, 11] na (fun q v9 v11 wr => ∃ (k2 : Nat) (a : List UInt8), k2 ≤ na ∧ q = na - k2 ∧ v11 = .int .i64 (k2 : Int) ∧ a.length = k2 ∧ OwnB wr ws.heap.size 5 v9 a ∧ Below ws.heap.size ws wr)
      case atStart => exact ⟨0, [], by omega, rfl, rfl, rfl, OwnB.nil, Below.refl _ _⟩
      case round =>
        obtain ⟨k2, a, hk2, hq2, rfl, hak, hOw, hB2⟩ := hrel
        have Hq2 := Lib.hid hq2
        have Hak := Lib.hid hak
        have HO2 := Lib.hid hOw
        have HB2 := Lib.hid hB2
        clear hq2 hak hOw hB2
        by_cases hkn2 : k2 < na
        · have t1 : decide ((k2 : Int) < (na : Int)) = true := decide_eq_true (by omega)
          obtain ⟨bb, oo, rfl, hbb, hcell⟩ := Hr.out (by rw [← Hna.out]; omega)
          have hBw := HB.out.trans (HB2.out.mono HB.out.size)
          have hcy := (hBw.cell (p := ⟨bb, oo + k2, none⟩) hbb).trans (hcell k2 (by rw [← Hna.out]; exact hkn2))
          obtain ⟨y, hy⟩ : ∃ y, y = ah.getD k2 0 := ⟨_, rfl⟩
          rw [← hy] at hcy
          have hyl := y.toNat_lt
          clear hcell hbb hy hBw
          obtain ⟨y2, hy2⟩ : ∃ y2 : UInt8, y2 = y &&& 127 := ⟨_, rfl⟩
          have hbit : bits .and .u8 (y.toNat : Int) 127 = (y2.toNat : Int) := by
            rw [hy2]
            have := u8_and_nat y.toNat 127 (by have := y.toNat_lt; omega) (by omega)
            simpa using this
          have Hbit := Lib.hid hbit
          clear hy2
          go_wp2_with (at_builtin; go_loud (refine wpList_appB _ rfl (.tmp 48) (.tmp 54) 22 rfl ws.heap.size 5 i0 Tryd.underlying22 Hi0.out _ a rfl (HO2.out.alloc _) (wr.heap.size + 1) (some ⟨wr.heap.size, 0, none⟩) 1 1 [y2] rfl rfl (ReadB.lit1 _ _ _ _ (by first | rfl | exact Hbit.out)) (by rw [Hak.out]; simp; omega) (by have := HB2.out.size; simp; omega) ?_); intro v5 w5 ho5 _ _ hb5)
          have HO5 := Lib.hid ho5
          have HB5 := Lib.hid ((HB2.out.alloc HB2.out.size _).trans hb5)
          clear ho5 hb5 hcy hbit
          (try go_wp2_with fail)
          go_roundg (na - (k2 + 1))
          case rel => exact ⟨k2 + 1, a ++ [y2], by omega, rfl, by first | rfl | simp, by rw [List.length_append, Hak.out]; rfl, HO5.out, HB5.out⟩
          case measure => have := Hq2.out; omega
        · have hke2 : k2 = na := by omega
          have t1 : decide ((k2 : Int) < (na : Int)) = false := decide_eq_false (by omega)
          have hal : na = a.length := by rw [Hak.out]; exact hke2.symm
          obtain ⟨Aa, ca, hv9, r1, r2, r3, -⟩ := HO2.out.opens
          rw [← hal] at hv9 r1
          subst hv9
          have Hal := Lib.hid hal
          have HRa := Lib.hid r3
          have HBr := Lib.hid (HB.out.trans (HB2.out.mono HB.out.size))
          have HRo2 := Lib.hid ((HRo.out.below HB2.out).more HB2.out.size)
          have hix := index_calls o z Ao no co wr Hol.out hz2 (by omega) p1 p2 HRo2.out (Htab.out.below HBr.out)
          have hwf := signK_wf z o (o.length / z)
          have hlL : (signK z o (o.length / z)).length ≤ 4096 := by rw [signK_len]; have := Nat.div_le_self o.length z; have := Hol.out; omega
          have hmv := moved_sign z a o hz1.1 (by rw [List.length_append, ← Hal.out, ← Hol.out]; omega)
          have hbd := bd_sign z o (a ++ o) hz1.1 (by rw [List.length_append, ← Hal.out, ← Hol.out]; omega)
          rw [← Hal.out] at hmv
          obtain ⟨L, hL⟩ : ∃ L, L = signK z o (o.length / z) := ⟨_, rfl⟩
          rw [← hL] at hix hwf hlL hmv hbd
          have hb0 := (hbd (search (findB z L) z (a ++ o)).length).2
          rw [List.take_length] at hb0
          obtain ⟨lv, hlv⟩ : ∃ lv, lv = literal (search (findB z L) z (a ++ o)) := ⟨_, rfl⟩
          rw [← hlv] at hmv hb0
          have Hix := Lib.hid hix
          have Hwf := Lib.hid hwf
          have HlL := Lib.hid hlL
          have Hbd := Lib.hid hbd
          have Hlv := Lib.hid hlv
          clear hal r3 hke2 Hak hix hwf hlL hbd hL hlv HRo HO HO2
          go_wp2_with fail
          refine Calls.mono Hix.out ?_
          rintro e1 w1 ⟨g, rfl, -, hX1, hb1⟩
          have HX1 := Lib.hid hX1
          have HB1 := Lib.hid (HBr.out.trans (hb1.mono HBr.out.size))
          have HRo3 := Lib.hid ((HRo2.out.below hb1).more hb1.size)
          have HRa3 := Lib.hid ((HRa.out.below hb1).more hb1.size)
          have Ho0 : Hid (OwnB (w1.alloc (.cells #[] 5)) w1.heap.size 5 (.slice (some ⟨w1.heap.size, 0, none⟩) 0 0) []) := Lib.hid (OwnB.lit0 w1 5 w1.heap.size w1.heap.size rfl (Nat.le_refl _))
          have HRa4 := Lib.hid (HRa3.out.alloc (Nat.le_refl _) (.cells #[] 5))
          have hal1 := (Below.refl w1.heap.size w1).alloc (Nat.le_refl _) (.cells #[] 5)
          have Hal1 := Lib.hid hal1
          clear hX1 hb1 Hix HRo2 HRa hal1
          go_wp2_with (first
            | (at_builtin; go_loud (refine wpList_appB _ rfl (.tmp 65) (.tmp 66) 22 rfl w1.heap.size 5 i0 Tryd.underlying22 Hi0.out _ [] rfl Ho0.out w1.heap.size Aa na ca a rfl Hal.out HRa4.out (by simp; have := Hal.out; omega) (by simp) ?_); intro v5 w5 ho5 _ _ hb5; rw [List.nil_append] at ho5; have HO5 := Lib.hid ho5; have HB5 := Lib.hid (Hal1.out.trans hb5); have HRo5 := Lib.hid (HRo3.out.below HB5.out); clear ho5 hb5)
            | (at_builtin; go_loud (refine wpList_appB _ rfl (.tmp 67) (.tmp 68) 22 rfl w1.heap.size 5 i0 Tryd.underlying22 Hi0.out v5 a rfl HO5.out w1.heap.size Ao no co o rfl Hol.out HRo5.out (by have := Hal.out; have := Hol.out; omega) HB5.out.size ?_); intro v6 w6 ho6 _ _ hb6; obtain ⟨A6, c6, hv6, s1, s2, s3, -⟩ := ho6.opens; have hl6 : (a ++ o).length = na + no := (by rw [List.length_append, ← Hal.out, ← Hol.out]); rw [hl6] at hv6 s1; subst hv6; have HR6 := Lib.hid s3; have HB6 := Lib.hid (HB5.out.trans hb6); have Hl6 := Lib.hid hl6.symm; clear ho6 hb6 s3 hl6))
          have HBw6 := Lib.hid (HB1.out.trans (HB6.out.mono HB1.out.size))
          obtain ⟨nb, hnb⟩ : ∃ nb, nb = na + no := ⟨_, rfl⟩
          rw [← hnb] at Hl6 s1 ⊢
          have hnb6 : nb ≤ 600 := by omega
          clear hnb
          have hsc := search_calls z L g (a ++ o) A6 nb c6 w6 (HX1.out.below HB6.out) hz2 HlL.out Hwf.out HR6.out Hl6.out s1 s2 (by omega) (Htab.out.below HBw6.out)
          have Hsc := Lib.hid hsc
          clear hsc
          (try go_wp2_with fail)
          refine Calls.mono Hsc.out ?_
          rintro e7 w7 ⟨v7, M7, rfl, ho7, hM7, hb7⟩
          obtain ⟨A7, c7, hv7, -, -, q7, -⟩ := ho7.opens
          obtain ⟨m7, hm7⟩ : ∃ m7, m7 = M7.length := ⟨_, rfl⟩
          rw [← hm7] at hv7
          subst hv7
          have hk7 : m7 ≤ 9223372036854775807 := by obtain ⟨A', c', e', h1', h2', -⟩ := ho7.opens; omega
          have HB7 := Lib.hid (HBw6.out.trans (hb7.mono HBw6.out.size))
          have hlt := Dl.literal_calls M7 A7 m7 c7 hm7 hk7 (by rw [hM7]; exact fun k => (Hbd.out k).2) w7 q7
          rw [hM7, ← Hlv.out] at hlt
          have Hlt := Lib.hid hlt
          clear ho7 hM7 hb7 q7 hm7 hk7 hlt Hsc
          have t5 : decide (lv ≤ (na : Int) + (z : Int) + (z : Int)) = true := decide_eq_true hmv
          go_wp2_with fail
          refine Calls.mono Hlt.out ?_
          rintro e8 w8 ⟨rfl, hb8⟩
          have HB8 := Lib.hid (HB7.out.trans (hb8.mono HB7.out.size))
          clear hb8 Hlt
          go_wp2_with fail
          refine (awake_calls _ (Htab.out.below HB8.out)).mono ?_
          rintro e9 w9 ⟨rfl, hb9⟩
          have HB9 := Lib.hid (HB8.out.trans (hb9.mono HB8.out.size))
          clear hb9
          go_wp2_with fail
          go_ret
          exact ⟨rfl, HB9.out⟩
end Ms
end Go.Proofs.YtiofkhjpknfkgaaDoor
