/- The row and its card: a size is a power of two from 16 to 4096 that never falls as files grow, and leaves no more blocks than the size has bytes. -/
import Derived.Test.YtcbkhbnemhkheaaDoorRows
import Derived.Test.YtcbkhbnemhkheaaDoorG01
import Derived.Test.YtcbkhbnemhkheaaDoorG02
import Derived.Test.YtcbkhbnemhkheaaDoorG03
import Derived.Test.YtcbkhbnemhkheaaDoorG04
import Derived.Test.YtcbkhbnemhkheaaDoorG05
import Derived.Test.YtcbkhbnemhkheaaDoorG06
import Derived.Test.YtcbkhbnemhkheaaDoorG07
import Derived.Test.YtcbkhbnemhkheaaDoorG08
import Derived.Test.YtcbkhbnemhkheaaDoorG09
import Derived.WalkKit
import Derived.ProofKit
import Derived.OpenShut
import Derived.ShutString
import Derived.ChangeOld
import Derived.Below
import Derived.SizedLaws
import Derived.Test.YtcbkhbnemhkheaaDoorTie
import Derived.Test.YtcbkhbnemhkheaaDoorCards
import Derived.LaidMore
import Derived.Stop.Joined
import Derived.SevenTiedAt
namespace Go.Proofs.YtcbkhbnemhkheaaDoor.blockSizes
open Go.ChangeShapes Go.WideShapes Go.ChangeAt Go.RowKit
open Go.ChangeMaps (open_string shut_string)
set_option linter.unusedVariables false
theorem own : ownKnob Tryd.prog.godebug = none := by kernel_rfl
set_option maxRecDepth 100000 in
theorem lifted (os : Os) (started : os.Started) (H : Type) (enc : TypeId × Value → H) :
    ReturnsInHanded {} Tryd.checked os 4 .any (fun w args => (Rows.blockSizesSpec.pre enc Tryd.prog Tryd.f4 [] false w args ∧ laidMetH Tryd.prog Ld.laid1 w) ∧ sizedMet enc Tryd.prog Tryd.f4 (OpenSpec.ofChange Rows.blockSizesSpec) false w args) (Rows.blockSizesSpec.post enc Tryd.prog Tryd.f4 false true false false) := by
  refine returnsInHanded_of_change_and (C := Tryd.checked) (X := fun w _ => laidMetH Tryd.prog Ld.laid1 w) (fun _ _ _ hh h => h.of_heap hh) own started (by kernel_rfl) Tryd.func4
    (ChangeSpec.witness_shaped (enc := enc) (C := Tryd.checked) (os := os) (X := fun w _ => laidMetH Tryd.prog Ld.laid1 w) false (World.doorLaid Tryd.prog 14 os) #[.int .u32 0, .int .u32 0] 8 rfl (World.shaped_of_RefB (by kernel_rfl) (by kernel_rfl)) (by kernel_rfl) (by kernel_rfl) (by kernel_rfl) (Ld.door_met os _)) ?_
  intro W base args ds gs before hval0 hW hcnd hsz0 hL _
  have htab := Ld.tab_of_laid hL
  have hsz : (DataW.weightsEach Tryd.prog (Tryd.f4.params.toList ++ Rows.blockSizesSpec.plain.varTypes Tryd.prog) (ds ++ gs)).all (· ≤ reachBytes) = true := hsz0
  have hval : ∀ (j : Nat) t v, Tryd.f4.params[j]? = some t → args[j]? = some v → Value.okWide Tryd.prog W .any base t v := hval0
  have hW' := hW
  obtain ⟨p, q, hA0, hV, rfl, hfz, hnd⟩ := hW
  have hA : DataW.TrodAll enc Tryd.prog W 0 (fun _ => true) true Tryd.f4.params.toList args.toList ds p := hA0
  rw [Tryd.params4] at hA hval hsz
  obtain ⟨v0, vs0, d0, ds0, p0, q0, hargs, rfl, rfl, h0, r0⟩ := trodAll_cons hA
  obtain ⟨v1, vs1, d1, ds1, p1, q1, rfl, rfl, rfl, h1, r1⟩ := trodAll_cons r0
  obtain ⟨rfl, rfl, rfl⟩ := trodAll_nil r1
  obtain rfl : args = #[v0, v1] := by cases args; simp_all
  obtain ⟨rfl, rfl⟩ := trodVars_none hV
  obtain ⟨a0, rfl, rfl, rfl, w0⟩ := open_int Tryd.underlying33 (hval 0 33 v0 rfl rfl) h0
  have b0 := Rk.bd_u32 w0
  obtain ⟨a1, rfl, rfl, rfl, w1⟩ := open_int Tryd.underlying33 (hval 1 33 v1 rfl rfl) h1
  have b1 := Rk.bd_u32 w1
  clear hA0 hval0 hsz0 hsz
  refine (Bk.blockSizes_calls a0 a1 ⟨b0.1, by have := b0.2; omega⟩ ⟨b1.1, by have := b1.2; omega⟩ W htab).mono fun e W' ⟨he, bel⟩ => ?_
  subst he
  exact ⟨_, rfl, _, _, _, [], _, [], hW', trodAll_mk1 (shut_bool Tryd.underlying4 _), (trodAll_cons_mk (shut_int Tryd.underlying33 w0) (trodAll_cons_mk (shut_int Tryd.underlying33 w1) trodAll_mk0)), rfl, bel.frame _, fun h => by cases h⟩
theorem over : Rows.blockSizesRow.holds Tryd.pinned (OpenSpec.ofChange Rows.blockSizesSpec) :=
  OpenClaim.holds_of_wide 4 Tryd.f4 rfl rfl rfl rfl rfl rfl rfl ⟨rfl, rfl, rfl, rfl, rfl⟩ rfl rfl rfl rfl rfl (by kernel_rfl) Tryd.func4 (by kernel_rfl)
    (of_decide_eq_true (by kernel_rfl)) (by unfold Func.isWrapper; first | (rw [if_pos (by decide +kernel)]; kernel_rfl) | (rw [if_neg (by decide +kernel)]; exact ⟨rfl, rfl⟩))
    (fun os started H enc _ => lifted os started H enc)
theorem proved : Rows.BlockSizesSaid := over
end Go.Proofs.YtcbkhbnemhkheaaDoor.blockSizes
namespace Go.Proofs.YtcbkhbnemhkheaaDoor
/-- The card, under a short name, for the claim. -/
theorem blockSizes_holds : Rows.BlockSizesCardSaid :=
  Claim7.holds_tied_plain_at .later [] [.data] true (true, "ba14eb7ef864fec66682a39e8a7fb0004e1e28747e156da71941bc7973f4f795") false
    blockSizes.proved (fun _ h => by cases h) (by kernel_rfl) (fun _ h => by cases h) blockSizes_row_tie rfl ⟨rfl, rfl⟩ (by kernel_rfl) rfl
    (fun f fn hf hfn => by
      obtain rfl : f = 4 := Option.some.inj ((show Tryd.prog.funcNamed "sumpter/sumpterlaw11.BlockSizes" = some 4 by kernel_rfl).symm.trans hf) |>.symm
      obtain rfl : fn = Tryd.f4 := (Option.some.inj (Tryd.func4.symm.trans hfn)).symm
      refine ⟨by kernel_rfl, fun j t ht => ?_⟩
      rw [Tryd.params4] at ht
      rcases j with _ | j
      · obtain rfl : t = 33 := by simpa using ht.symm
        exact (show Tryd.prog.wantsStandIn 33 = false by kernel_rfl)
      rcases j with _ | j
      · obtain rfl : t = 33 := by simpa using ht.symm
        exact (show Tryd.prog.wantsStandIn 33 = false by kernel_rfl)
      · simp at ht)
    (by kernel_rfl)
#print axioms blockSizes_holds
end Go.Proofs.YtcbkhbnemhkheaaDoor
