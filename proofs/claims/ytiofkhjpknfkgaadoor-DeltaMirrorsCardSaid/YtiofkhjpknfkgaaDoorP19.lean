/- How a row's arguments are opened: bytes that came in, read as a list of bytes; how many there may be. -/
import Derived.Test.YtiofkhjpknfkgaaDoorP01
import Derived.Test.YtiofkhjpknfkgaaDoorP02
import Derived.Test.YtiofkhjpknfkgaaDoorP03
import Derived.Test.YtiofkhjpknfkgaaDoorP04
import Derived.Test.YtiofkhjpknfkgaaDoorP05
import Derived.Test.YtiofkhjpknfkgaaDoorP06
import Derived.Test.YtiofkhjpknfkgaaDoorP07
import Derived.Test.YtiofkhjpknfkgaaDoorP08
import Derived.Test.YtiofkhjpknfkgaaDoorP09
import Derived.Test.YtiofkhjpknfkgaaDoorP10
import Derived.Test.YtiofkhjpknfkgaaDoorP11
import Derived.Test.YtiofkhjpknfkgaaDoorP12
import Derived.Test.YtiofkhjpknfkgaaDoorP13
import Derived.Test.YtiofkhjpknfkgaaDoorP14
import Derived.Test.YtiofkhjpknfkgaaDoorP15
import Derived.Test.YtiofkhjpknfkgaaDoorP16
import Derived.Test.YtiofkhjpknfkgaaDoorP17
import Derived.Test.YtiofkhjpknfkgaaDoorP18
import Derived.ProofKit
import Derived.OpenShut
import Derived.ShutString
import Derived.ChangeOld
import Derived.SizedLaws
import Derived.ChangeSlices
import Derived.Test.YtiofkhjpknfkgaaDoorRows
import Derived.LaidMore
import Derived.Stop.Joined
import Derived.Lib.LaidTab
namespace Go.Proofs.YtiofkhjpknfkgaaDoor
namespace Rk
open Go.ChangeShapes Go.WideShapes Go.ChangeAt Go.RowKit Ba
set_option linter.unusedVariables false

theorem bd_i64 {n : Int} (h : (Lit.int .i64 n).wf = true) : -9223372036854775808 ≤ n ∧ n ≤ 9223372036854775807 := by
  simpa [Lit.wf, IntKind.min, IntKind.max, IntKind.signed, IntKind.bits] using h
theorem bd_u8 {n : Int} (h : (Lit.int .u8 n).wf = true) : 0 ≤ n ∧ n ≤ 255 := by
  simpa [Lit.wf, IntKind.min, IntKind.max, IntKind.signed, IntKind.bits] using h
theorem bd_u16 {n : Int} (h : (Lit.int .u16 n).wf = true) : 0 ≤ n ∧ n ≤ 65535 := by
  simpa [Lit.wf, IntKind.min, IntKind.max, IntKind.signed, IntKind.bits] using h
theorem bd_u32 {n : Int} (h : (Lit.int .u32 n).wf = true) : 0 ≤ n ∧ n ≤ 4294967295 := by
  simpa [Lit.wf, IntKind.min, IntKind.max, IntKind.signed, IntKind.bits] using h

theorem bytes_open {H : Type} {enc : TypeId × Value → H} {P : Program} {W : World} {base : Nat} {spare : Nat → Bool} {held : Bool} {t e : TypeId} {a : Option Addr} {len cap : Nat} {d : DataW H} {ps : List MemPlace}
    (hu : P.underlying t = some (.slice e)) (he : P.underlying e = some (.int .u8)) (hc : P.cellsOf e = 1) (h : DataW.Trod enc P W base spare held t (.slice a len cap) d ps) :
    ∃ l : List UInt8, len = l.length ∧ l.length ≤ cap ∧ cap ≤ 9223372036854775807 ∧ ReadB W W.heap.size a l := by
  obtain ⟨fuel, hf⟩ := h
  rcases open_ints hu he hc hf with ⟨hcs, _⟩ | ⟨x, l, c, zs, hcs, _, hl, hm, hz, hx, hcell, hwz⟩
  · simp [Value.cells] at hcs
    obtain ⟨rfl, rfl, rfl⟩ := hcs
    exact ⟨[], rfl, by simp, by omega, ReadB.nil⟩
  · simp [Value.cells] at hcs
    obtain ⟨rfl, rfl, rfl⟩ := hcs
    have hl2 : len ≤ zs.length := by
      rw [hz]
      split
      · exact hl
      · exact Nat.le_refl _
    have hb : ∀ k, k < zs.length → ((UInt8.ofNat (zs.getD k 0).toNat).toNat : Int) = zs.getD k 0 := fun k hk => by
      have hmem : zs.getD k 0 ∈ zs := by simp [List.getD, hk]
      have := bd_u8 (hwz _ hmem)
      rw [UInt8.toNat_ofNat']
      omega
    refine ⟨(zs.take len).map fun z => UInt8.ofNat z.toNat, by simp; omega, by simp; omega, by simpa [maxLen] using hm, ?_⟩
    intro hn
    have hn2 : 0 < len := by simp at hn; omega
    have h0 : W.cell? x = some (.int .u8 (zs.getD 0 0)) := by
      have := hcell 0 (by omega)
      rwa [add_zero_] at this
    have hs : x.spot = none := by
      unfold World.cell? at h0
      split at h0
      · split at h0
        · cases h0
        · rename_i hs; simpa using hs
      · cases h0
    have hblk := block_lt_of_cell h0
    obtain ⟨b, o, s⟩ := x
    simp only at hs
    subst hs
    refine ⟨b, o, rfl, hblk, fun k hk => ?_⟩
    have hk2 : k < len := by simp at hk; omega
    have := hcell k (by omega)
    rw [add_lit_] at this
    rw [this]
    have e : (((zs.take len).map fun z => UInt8.ofNat z.toNat).getD k 0) = UInt8.ofNat (zs.getD k 0).toNat := by
      simp [List.getD, hk2, show k < zs.length by omega]
    rw [e, hb k (by omega)]

theorem sized_ints {H : Type} {enc : TypeId × Value → H} {P : Program} {W : World} {base : Nat} {spare : Nat → Bool} {held : Bool} {t e : TypeId} {k : IntKind} {a : Option Addr} {len cap : Nat} {d : DataW H} {ps : List MemPlace} {ts : List TypeId} {ds : List (DataW H)} {j : Nat}
    (hsz : (DataW.weightsEach P ts ds).all (· ≤ reachBytes) = true) (ht : ts[j]? = some t) (hd : ds[j]? = some d) (hu : P.underlying t = some (.slice e)) (he : P.underlying e = some (.int k)) (hc : P.cellsOf e = 1) {B : Nat} (hB : P.bytesOf e = B)
    (h : DataW.Trod enc P W base spare held t (.slice a len cap) d ps) : len * B ≤ 140737488351232 := by
  obtain ⟨fuel, hf⟩ := h
  rcases open_ints hu he hc hf with ⟨hcs, _⟩ | ⟨x, l, c, zs, hcs, _, hl, _, hz, hx, _, _⟩
  · simp [Value.cells] at hcs
    obtain ⟨rfl, rfl, rfl⟩ := hcs
    simp
  · simp [Value.cells] at hcs
    obtain ⟨rfl, rfl, rfl⟩ := hcs
    obtain ⟨hx, _⟩ := Prod.mk.inj hx
    subst hx
    have z := sized_slice hsz ht hd hu
    rw [hB] at z
    have hl2 : len ≤ zs.length := by
      rw [hz]
      split
      · exact hl
      · exact Nat.le_refl _
    have h1 : (lits (H := H) k (zs.take len)).length + (lits (H := H) k (zs.drop len)).length = zs.length := by
      simp [lits]
      omega
    rw [h1] at z
    exact Nat.le_trans (Nat.mul_le_mul_right _ hl2) z
end Rk
end Go.Proofs.YtiofkhjpknfkgaaDoor
/- What the listed variable gives the walks: the round words lie in it; and the start's own heap meets the condition. -/
namespace Go.Proofs.YtiofkhjpknfkgaaDoor
namespace Ld
open Go.ChangeShapes Go.WideShapes Go.ChangeAt Go.RowKit Sm Ba
set_option linter.unusedVariables false
def laid1 : List (String × DataW Unit) := [("sumpter/sha.rounds", Rows.laid_sumpter_sha_rounds)]
theorem gN : Tryd.prog.globalNamed "sumpter/sha.rounds" = some 0 := by kernel_rfl
theorem gT : (Tryd.prog.globals[0]?).map (·.type) = some 108 := by kernel_rfl
def zs : List Int := rounds.map U
set_option maxRecDepth 100000 in
theorem datum_eq : (Rows.laid_sumpter_sha_rounds : DataW Unit) = Lib.tabData .u32 zs := by rfl
set_option maxRecDepth 100000 in
theorem door_met (os : Os) (args : Array Value) : laidMetH Tryd.prog laid1 ((World.doorLaid Tryd.prog 14 os).forCall (fun _ _ => 0) ⟨#[], args, []⟩).memory :=
  laidMetH_of_parts3 (fuel := 8) (laidMet_of_run' 8 (by kernel_rfl) (by kernel_rfl)) (by kernel_rfl) (by kernel_rfl)
set_option maxRecDepth 100000 in
theorem tab_of_laid {W : World} (h : laidMetH Tryd.prog laid1 W) : Tab W := by
  rw [MakeChecks.laidMetH_plain _ _ _ (by kernel_rfl)] at h
  unfold laid1 at h
  rw [datum_eq] at h
  have hT := Lib.tabIs_of_head gN gT Tryd.underlying108 Tryd.underlying56 (by kernel_rfl) (by kernel_rfl) h
  have hc : ∀ j, j < 64 → W.cell? ⟨0, j, none⟩ = some (.int .u32 (U (Sm.g rounds j))) := fun j hj => by
    have := hT.cell gN j hj
    rw [this]
    congr 2
    unfold zs Sm.g
    have hl : rounds.length = 64 := rfl
    simp only [List.getD_eq_getElem?_getD, List.getElem?_map]
    rw [List.getElem?_eq_getElem (by omega)]
    rfl
  refine ⟨block_lt_of_cell (hc 0 (by omega)), fun j v hv => ?_⟩
  have hj : j < 64 := by
    rcases Nat.lt_or_ge j 64 with h1 | h1
    · exact h1
    · rw [List.getElem?_eq_none (by rw [wvs_len]; exact h1)] at hv; cases hv
  rw [Nat.zero_add, hc j hj, ← hv]
  have hl : rounds.length = 64 := rfl
  unfold wvs Sm.g
  rw [List.getElem?_map, List.getElem?_eq_getElem (by omega), List.getD_eq_getElem?_getD, List.getElem?_eq_getElem (by omega)]
  rfl
end Ld
end Go.Proofs.YtiofkhjpknfkgaaDoor
