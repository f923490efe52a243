/- How a row's arguments are opened: bytes that came in, read as a list of bytes; how many there may be. -/
import Derived.Test.YtcbkhbnemhkheaaDoorG01
import Derived.Test.YtcbkhbnemhkheaaDoorG02
import Derived.Test.YtcbkhbnemhkheaaDoorG03
import Derived.Test.YtcbkhbnemhkheaaDoorG04
import Derived.Test.YtcbkhbnemhkheaaDoorG05
import Derived.Test.YtcbkhbnemhkheaaDoorG06
import Derived.Test.YtcbkhbnemhkheaaDoorG07
import Derived.Test.YtcbkhbnemhkheaaDoorG08
import Derived.ProofKit
import Derived.OpenShut
import Derived.ShutString
import Derived.ChangeOld
import Derived.SizedLaws
import Derived.ChangeSlices
import Derived.Test.YtcbkhbnemhkheaaDoorRows
import Derived.LaidMore
import Derived.Stop.Joined
import Derived.Lib.LaidTab
namespace Go.Proofs.YtcbkhbnemhkheaaDoor
namespace Rk
open Go.ChangeShapes Go.WideShapes Go.ChangeAt Go.RowKit Ba
set_option linter.unusedVariables false

theorem bd_i64 {n : Int} (h : (Lit.int .i64 n).wf = true) : -9223372036854775808 ≤ n ∧ n ≤ 9223372036854775807 := by
  simpa [Lit.wf, IntKind.min, IntKind.max, IntKind.signed, IntKind.bits] using h
theorem bd_u8 {n : Int} (h : (Lit.int .u8 n).wf = true) : 0 ≤ n ∧ n ≤ 255 := by
  simpa [Lit.wf, IntKind.min, IntKind.max, IntKind.signed, IntKind.bits] using h
theorem bd_u16 {n : Int} (h : (Lit.int .u16 n).wf = true) : 0 ≤ n ∧ n ≤ 65535 := by
  simpa [Lit.wf, IntKind.min, IntKind.max, IntKind.signed, IntKind.bits] using h
theorem bd_u32 {n : Int} (h : (Lit.int .u32 n).wf = true) : 0 ≤ n ∧ n ≤ 4294967295 := by
  simpa [Lit.wf, IntKind.min, IntKind.max, IntKind.signed, IntKind.bits] using h

theorem bytes_open {H : Type} {enc : TypeId × Value → H} {P : Program} {W : World} {base : Nat} {spare : Nat → Bool} {held : Bool} {t e : TypeId} {a : Option Addr} {len cap : Nat} {d : DataW H} {ps : List MemPlace}
    (hu : P.underlying t = some (.slice e)) (he : P.underlying e = some (.int .u8)) (hc : P.cellsOf e = 1) (h : DataW.Trod enc P W base spare held t (.slice a len cap) d ps) :
    ∃ l : List UInt8, len = l.length ∧ l.length ≤ cap ∧ cap ≤ 9223372036854775807 ∧ ReadB W W.heap.size a l := by
  obtain ⟨fuel, hf⟩ := h
  rcases open_ints hu he hc hf with ⟨hcs, _⟩ | ⟨x, l, c, zs, hcs, _, hl, hm, hz, hx, hcell, hwz⟩
  · simp [Value.cells] at hcs
    obtain ⟨rfl, rfl, rfl⟩ := hcs
    exact ⟨[], rfl, by simp, by omega, ReadB.nil⟩
  · simp [Value.cells] at hcs
    obtain ⟨rfl, rfl, rfl⟩ := hcs
    have hl2 : len ≤ zs.length := by
      rw [hz]
      split
      · exact hl
      · exact Nat.le_refl _
    have hb : ∀ k, k < zs.length → ((UInt8.ofNat (zs.getD k 0).toNat).toNat : Int) = zs.getD k 0 := fun k hk => by
      have hmem : zs.getD k 0 ∈ zs := by simp [List.getD, hk]
      have := bd_u8 (hwz _ hmem)
      rw [UInt8.toNat_ofNat']
      omega
    refine ⟨(zs.take len).map fun z => UInt8.ofNat z.toNat, by simp; omega, by simp; omega, by simpa [maxLen] using hm, ?_⟩
    intro hn
    have hn2 : 0 < len := by simp at hn; omega
    have h0 : W.cell? x = some (.int .u8 (zs.getD 0 0)) := by
      have := hcell 0 (by omega)
      rwa [add_zero_] at this
    have hs : x.spot = none := by
      unfold World.cell? at h0
      split at h0
      · split at h0
        · cases h0
        · rename_i hs; simpa using hs
      · cases h0
    have hblk := block_lt_of_cell h0
    obtain ⟨b, o, s⟩ := x
    simp only at hs
    subst hs
    refine ⟨b, o, rfl, hblk, fun k hk => ?_⟩
    have hk2 : k < len := by simp at hk; omega
    have := hcell k (by omega)
    rw [add_lit_] at this
    rw [this]
    have e : (((zs.take len).map fun z => UInt8.ofNat z.toNat).getD k 0) = UInt8.ofNat (zs.getD k 0).toNat := by
      simp [List.getD, hk2, show k < zs.length by omega]
    rw [e, hb k (by omega)]

theorem sized_ints {H : Type} {enc : TypeId × Value → H} {P : Program} {W : World} {base : Nat} {spare : Nat → Bool} {held : Bool} {t e : TypeId} {k : IntKind} {a : Option Addr} {len cap : Nat} {d : DataW H} {ps : List MemPlace} {ts : List TypeId} {ds : List (DataW H)} {j : Nat}
    (hsz : (DataW.weightsEach P ts ds).all (· ≤ reachBytes) = true) (ht : ts[j]? = some t) (hd : ds[j]? = some d) (hu : P.underlying t = some (.slice e)) (he : P.underlying e = some (.int k)) (hc : P.cellsOf e = 1) {B : Nat} (hB : P.bytesOf e = B)
    (h : DataW.Trod enc P W base spare held t (.slice a len cap) d ps) : len * B ≤ 140737488351232 := by
  obtain ⟨fuel, hf⟩ := h
  rcases open_ints hu he hc hf with ⟨hcs, _⟩ | ⟨x, l, c, zs, hcs, _, hl, _, hz, hx, _, _⟩
  · simp [Value.cells] at hcs
    obtain ⟨rfl, rfl, rfl⟩ := hcs
    simp
  · simp [Value.cells] at hcs
    obtain ⟨rfl, rfl, rfl⟩ := hcs
    obtain ⟨hx, _⟩ := Prod.mk.inj hx
    subst hx
    have z := sized_slice hsz ht hd hu
    rw [hB] at z
    have hl2 : len ≤ zs.length := by
      rw [hz]
      split
      · exact hl
      · exact Nat.le_refl _
    have h1 : (lits (H := H) k (zs.take len)).length + (lits (H := H) k (zs.drop len)).length = zs.length := by
      simp [lits]
      omega
    rw [h1] at z
    exact Nat.le_trans (Nat.mul_le_mul_right _ hl2) z
end Rk
end Go.Proofs.YtcbkhbnemhkheaaDoor
/- What the listed variable gives the walks: the round words lie in it; and the start's own heap meets the condition. -/
namespace Go.Proofs.YtcbkhbnemhkheaaDoor
namespace Ld
open Go.ChangeShapes Go.WideShapes Go.ChangeAt Go.RowKit Sm Ba
set_option linter.unusedVariables false
def laid1 : List (String × DataW Unit) := [("sumpter/sha.rounds", Rows.laid_sumpter_sha_rounds)]
theorem gN : Tryd.prog.globalNamed "sumpter/sha.rounds" = some 0 := by kernel_rfl
theorem gT : (Tryd.prog.globals[0]?).map (·.type) = some 100 := by kernel_rfl
def zs : List Int := rounds.map U
set_option maxRecDepth 100000 in
theorem datum_eq : (Rows.laid_sumpter_sha_rounds : DataW Unit) = Lib.tabData .u32 zs := by rfl
set_option maxRecDepth 100000 in
theorem door_met (os : Os) (args : Array Value) : laidMetH Tryd.prog laid1 ((World.doorLaid Tryd.prog 14 os).forCall (fun _ _ => 0) ⟨#[], args, []⟩).memory :=
  laidMetH_of_parts3 (fuel := 8) (laidMet_of_run' 8 (by kernel_rfl) (by kernel_rfl)) (by kernel_rfl) (by kernel_rfl)
set_option maxRecDepth 100000 in
theorem tab_of_laid {W : World} (h : laidMetH Tryd.prog laid1 W) : Tab W := by
  rw [MakeChecks.laidMetH_plain _ _ _ (by kernel_rfl)] at h
  unfold laid1 at h
  rw [datum_eq] at h
  have hT := Lib.tabIs_of_head gN gT Tryd.underlying100 Tryd.underlying33 (by kernel_rfl) (by kernel_rfl) h
  have hc : ∀ j, j < 64 → W.cell? ⟨0, j, none⟩ = some (.int .u32 (U (Sm.g rounds j))) := fun j hj => by
    have := hT.cell gN j hj
    rw [this]
    congr 2
    unfold zs Sm.g
    have hl : rounds.length = 64 := rfl
    simp only [List.getD_eq_getElem?_getD, List.getElem?_map]
    rw [List.getElem?_eq_getElem (by omega)]
    rfl
  refine ⟨block_lt_of_cell (hc 0 (by omega)), fun j v hv => ?_⟩
  have hj : j < 64 := by
    rcases Nat.lt_or_ge j 64 with h1 | h1
    · exact h1
    · rw [List.getElem?_eq_none (by rw [wvs_len]; exact h1)] at hv; cases hv
  rw [Nat.zero_add, hc j hj, ← hv]
  have hl : rounds.length = 64 := rfl
  unfold wvs Sm.g
  rw [List.getElem?_map, List.getElem?_eq_getElem (by omega), List.getD_eq_getElem?_getD, List.getElem?_eq_getElem (by omega)]
  rfl
end Ld
end Go.Proofs.YtcbkhbnemhkheaaDoor
/- A size is a power of two from 16 to 4096 that never falls as files grow: the walk of the statement. -/
namespace Go.Proofs.YtcbkhbnemhkheaaDoor
namespace Bk
open Go.RowKit Ba Sm Ro
set_option linter.unusedVariables false
theorem bsize_cases (n : Int) : bsize n = 16 ∨ bsize n = 32 ∨ bsize n = 64 ∨ bsize n = 128 ∨ bsize n = 256 ∨ bsize n = 512 ∨ bsize n = 1024 ∨ bsize n = 2048 ∨ bsize n = 4096 := by
  unfold bsize
  (repeat' split) <;> omega
theorem bsize_bits (n : Int) : bits .and .i64 (bsize n : Nat) ((bsize n : Nat) - 1) = 0 := by
  rcases bsize_cases n with h | h | h | h | h | h | h | h | h <;> rw [h] <;> decide
set_option maxHeartbeats 4000000 in
theorem bsize_mono (a b : Int) (h : a ≤ b) : bsize a ≤ bsize b := by
  unfold bsize
  (repeat' split) <;> omega
theorem bsize_room (a : Int) (h0 : 0 ≤ a) (h : bsize a ≠ 4096) : a.tdiv (bsize a : Nat) ≤ (bsize a : Nat) := by
  rw [Int.tdiv_eq_ediv_of_nonneg h0]
  unfold bsize at h ⊢
  (repeat' split) <;> simp_all <;> omega
set_option maxRecDepth 100000 in
set_option maxHeartbeats 4000000 in
theorem blockSizes_calls (a b : Int) (ha : 0 ≤ a ∧ a < 4294967296) (hb : 0 ≤ b ∧ b < 4294967296) (w : World) (htab : Tab w) : Calls Tryd.prog 4 #[.int .u32 a, .int .u32 b] w fun e w' => e = .returned (.bool true) ∧ Below w.heap.size w w' := by
  have hw := awake_calls w htab
  have Hw := Lib.hid hw
  have h1 := bsize_cases a
  have h2 := bsize_bits a
  have h3 := bsize_mono a b
  have h4 := bsize_room a ha.1
  have h5 := size_calls a
  have h6 := size_calls b
  obtain ⟨x, hx⟩ : ∃ x, bsize a = x := ⟨_, rfl⟩
  obtain ⟨y, hy⟩ : ∃ y, bsize b = y := ⟨_, rfl⟩
  rw [hx] at h1 h2 h3 h4 h5
  rw [hy] at h3 h6
  have H5 := Lib.hid h5
  have H6 := Lib.hid h6
  have h7 : 16 ≤ x ∧ x ≤ 4096 := by omega
  have hz : ¬ (x : Int) = 0 := by omega
  obtain ⟨q, hq⟩ : ∃ q, a.tdiv (x : Int) = q := ⟨_, rfl⟩
  have hq2 : 0 ≤ q ∧ q < 4294967296 := by
    rw [← hq, Int.tdiv_eq_ediv_of_nonneg ha.1]
    exact ⟨Int.ediv_nonneg ha.1 (by omega), Int.lt_of_le_of_lt (Int.ediv_le_self _ ha.1) ha.2⟩
  rw [hq] at h4
  have H3 := Lib.hid h3
  have H4 := Lib.hid h4
  clear hw htab h5 h6 h1 hx hy h3 h4
  by_cases c1 : b < a
  · have f1 : decide (b < a) = true := decide_eq_true c1
    by_cases c2 : x = 4096
    · subst c2
      go_enter Tryd.func4, Tryd.ntmps4
      go_wp2_with (first
        | (go_at_call 12; first | (with_reducible refine Calls.mono (H5.out _) ?_; rintro e w8 ⟨rfl, rfl⟩) | (with_reducible refine Calls.mono (H6.out _) ?_; rintro e w8 ⟨rfl, rfl⟩))
        | (go_at_call 9; refine Hw.out.mono ?_; rintro e w8 ⟨rfl, hb8⟩))
      go_ret
      exact ⟨rfl, hb8⟩
    · have c4 : ¬ (x : Int) = 4096 := by omega
      have c5 := H4.out c2
      go_enter Tryd.func4, Tryd.ntmps4
      go_wp2_with (first
        | (go_at_call 12; first | (with_reducible refine Calls.mono (H5.out _) ?_; rintro e w8 ⟨rfl, rfl⟩) | (with_reducible refine Calls.mono (H6.out _) ?_; rintro e w8 ⟨rfl, rfl⟩))
        | (go_at_call 9; refine Hw.out.mono ?_; rintro e w8 ⟨rfl, hb8⟩))
      go_ret
      exact ⟨rfl, hb8⟩
  · have c3 := H3.out (by omega)
    have f1 : decide (b < a) = false := decide_eq_false c1
    by_cases c2 : x = 4096
    · subst c2
      have f2 : decide ((4096 : Int) ≤ (y : Int)) = true := decide_eq_true (by omega)
      go_enter Tryd.func4, Tryd.ntmps4
      go_wp2_with (first
        | (go_at_call 12; first | (with_reducible refine Calls.mono (H5.out _) ?_; rintro e w8 ⟨rfl, rfl⟩) | (with_reducible refine Calls.mono (H6.out _) ?_; rintro e w8 ⟨rfl, rfl⟩))
        | (go_at_call 9; refine Hw.out.mono ?_; rintro e w8 ⟨rfl, hb8⟩))
      go_ret
      exact ⟨rfl, hb8⟩
    · have c4 : ¬ (x : Int) = 4096 := by omega
      have f2 : decide ((x : Int) ≤ (y : Int)) = true := decide_eq_true (by omega)
      have f3 : decide (x ≤ y) = true := decide_eq_true (by omega)
      have c5 := H4.out c2
      go_enter Tryd.func4, Tryd.ntmps4
      go_wp2_with (first
        | (go_at_call 12; first | (with_reducible refine Calls.mono (H5.out _) ?_; rintro e w8 ⟨rfl, rfl⟩) | (with_reducible refine Calls.mono (H6.out _) ?_; rintro e w8 ⟨rfl, rfl⟩))
        | (go_at_call 9; refine Hw.out.mono ?_; rintro e w8 ⟨rfl, hb8⟩))
      go_ret
      exact ⟨rfl, hb8⟩
end Bk
end Go.Proofs.YtcbkhbnemhkheaaDoor
