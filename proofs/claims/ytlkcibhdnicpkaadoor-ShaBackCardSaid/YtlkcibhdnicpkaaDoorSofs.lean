/- Any bytes, in any two parts, have the sum that the document says: the walk of the statement. -/
import Derived.Test.YtlkcibhdnicpkaaDoorSk
namespace Go.Proofs.YtlkcibhdnicpkaaDoor
namespace Sk
open Go.RowKit Ba Sm Hx
set_option linter.unusedVariables false
set_option maxRecDepth 100000 in
set_option maxHeartbeats 2000000 in
theorem shaOfs_calls (l : List UInt8) (A : Option Addr) (c : Nat) (cut : Int) (hc0 : 0 ≤ cut) (hc1 : cut ≤ 65535) (hlc : l.length ≤ c) (hcm : c ≤ 9223372036854775807) (w : World) (htab : Tab w) (hr : ReadB w w.heap.size A l) :
    Calls Tryd.prog 3 #[.slice A l.length c, .int .u16 cut] w fun e w' => e = .returned (.bool true) ∧ Below w.heap.size w w' := by
  have hw := awake_calls
  have Hw := Lib.hid hw
  obtain ⟨i0, hi0⟩ := isByte_of info5
  have Hi := Lib.hid hi0
  have Hr := Lib.hid hr
  have Htab := Lib.hid htab
  clear hw hi0 hr htab
  by_cases h300 : 300 < l.length
  · go_enter Tryd.func3, Tryd.ntmps3
    go_wp2_with (go_at_call 13; refine (Hw.out _ Htab.out).mono ?_; rintro e w5 ⟨rfl, hb5⟩)
    go_ret
    exact ⟨rfl, hb5⟩
  · go_enter Tryd.func3, Tryd.ntmps3
    go_wp2_with (at_builtin; go_loud (refine wpList_appB _ rfl (.tmp 11) (.tmp 12) 22 rfl w.heap.size 5 i0 Tryd.underlying22 Hi.out _ [] rfl (OwnB.lit0 w 5 w.heap.size w.heap.size rfl (Nat.le_refl _)) w.heap.size A _ c l rfl rfl (Hr.out.alloc (Nat.le_refl _) _) (by simp; omega) (by simp) ?_); intro v1 w1 ho1 _ _ hb1; rw [List.nil_append] at ho1; obtain ⟨A1, c1, rfl, q1, q2, q3, q4⟩ := ho1.opens; have Hb1 := Lib.hid (((Below.refl w.heap.size w).alloc (Nat.le_refl _) (.cells #[] 5)).trans hb1); have Hq3 := Lib.hid q3; have Hq4 := Lib.hid q4; clear hb1 ho1 q3 q4)
    obtain ⟨k, hk⟩ : ∃ k : Nat, cut % ((l.length : Int) + 1) = (k : Int) := ⟨(cut % ((l.length : Int) + 1)).toNat, by rw [Int.toNat_of_nonneg (Int.emod_nonneg _ (by omega))]⟩
    rw [hk]
    have hkl : k ≤ l.length := by have := Int.emod_lt_of_pos cut (show (0 : Int) < (l.length : Int) + 1 by omega); omega
    have hkc : k ≤ c1 := by omega
    have z1 : (0 : Int) ≤ (k : Int) := by omega
    have z2 : (k : Int) ≤ (l.length : Int) := by omega
    have z3 : (k : Int) ≤ (c1 : Int) := by omega
    have HB := Lib.hid Hb1.out.drew
    have Hr1 := Lib.hid (Hr.out.below Hb1.out.drew)
    have Hx1 : Hid (ReadB w1.drew w1.drew.heap.size A1 l) := Hq3
    have Htab1 := Lib.hid (Htab.out.below Hb1.out.drew)
    have Hk := Lib.hid hk
    clear hk Hq3 Hb1
    go_wp2_with fail
    refine CanT.region (fun w' => (convert 22 9 (.slice A1 l.length c1)).run Tryd.prog w' = .ok (.string (S l)) w' ∧ (convert 22 9 (.slice A l.length c)).run Tryd.prog w' = .ok (.string (S l)) w') 1000 (.op 0 2 (.op 1 2 (.op 2 2 (.op 3 2 (.op 4 2 (.op 5 2 (.op 8 2 (.op 6 0 (.op 7 0 (.op 9 0 (.op 10 2 (.op 11 2 (.op 12 2 (.op 13 1 (.op 14 2 (.op 15 1 (.op 16 2 (.op 17 2 (.op 18 2 (.op 19 0 (.op 20 2 (.op 21 2 (.nil))))))))))))))))))))))) (by kernel_rfl) (by kernel_rfl) ⟨run_strof (P := Tryd.prog) w1.drew 22 5 Tryd.underlying22 Tryd.underlying5 A1 c1 _ l Hx1.out 9 Tryd.underlying9, run_strof (P := Tryd.prog) w1.drew 22 5 Tryd.underlying22 Tryd.underlying5 A c _ l Hr1.out 9 Tryd.underlying9⟩ ?_
    generalize w1.drew = W at *
    repeat (first | (refine CanT.skip rfl ?_ (fun K hK => ?_); (focus (go_simp; done)); go_simp; refine hK _ ?_; clear hK K) | (refine CanT.pur rfl ?_ ?_; (focus (go_simp; done)); refine ⟨?_, ?_, ?_⟩; rotate_left; (focus (intro w'; go_simp; rfl)); (focus (intro K hK; go_simp; refine hK _ ?_; clear hK K))) | (refine CanT.held rfl ?_ ?_; (focus (go_simp; done)); refine ⟨?_, ?_, ?_⟩; rotate_left; (focus (intro w' hS'; (try dsimp only at hS'); go_simp; rfl)); (focus (intro K hK; go_simp; refine hK _ ?_; clear hK K))) | (refine CanT.last rfl (fun K hK => ?_); go_simp; refine hK.out _ _ ?_; clear hK K))
    have hlo := hash_len l
    obtain ⟨H, hH⟩ : ∃ H, H = sha l := ⟨_, rfl⟩
    rw [← hH] at hlo
    have heq : ∀ w', (binOp .eql 26 (.agg (bvs H).toArray) (.agg (bvs H).toArray)).run Tryd.prog w' = .ok (.bool true) w' := fun w' => by rw [run_eqB H H hlo hlo w', beq_self_eq_true]
    have HH := Lib.hid hH
    have hflat : [l.take k, l.drop k].flatten = l := by simp
    have Hflat := Lib.hid hflat
    clear hH hlo hflat
    refine CanT.imp rfl (fun K hK => ?_)
    go_simp
    refine hK.out _ _ ⟨run_strof (P := Tryd.prog) _ 22 5 Tryd.underlying22 Tryd.underlying5 A1 c1 _ l ((Hx1.out.alloc (Nat.le_refl _) _)) 9 Tryd.underlying9, run_strof (P := Tryd.prog) _ 22 5 Tryd.underlying22 Tryd.underlying5 A c _ l ((Hr1.out.alloc HB.out.size _)) 9 Tryd.underlying9⟩ ?_
    clear hK K
    have hbb : ReadBB (W.alloc (.cells #[.slice A1 k c1, .slice (if c1 = k then A1 else A1.map (·.add k)) (l.length - k) (c1 - k)] 22)) (W.heap.size + 1) (some ⟨W.heap.size, 0, none⟩) [l.take k, l.drop k] :=
      ReadBB.lit2 W 22 A1 _ k c1 (l.length - k) (c1 - k) (l.take k) (l.drop k) W.heap.size W.heap.size rfl (Nat.le_refl _) (by rw [List.length_take]; omega) (by rw [List.length_drop]) (Hx1.out.take k) (Hx1.out.cut q1) (by rw [List.length_take]; omega) (by rw [List.length_drop]; omega) q2 (by omega)
    have Hbb := Lib.hid hbb
    clear hbb
    refine CanT.imp rfl (fun K hK => ?_)
    go_simp
    refine (of_calls [l.take k, l.drop k] (some ⟨W.heap.size, 0, none⟩) 2 _ (by simpa using Hbb.out) (Htab1.out.below ((Below.refl _ _).alloc (Nat.le_refl _) _)) (by simp) (by omega) (by intro p hp; simp at hp; rcases hp with rfl | rfl <;> simp <;> omega) (by rw [Hflat.out]; omega)).mono ?_
    rw [Hflat.out, ← HH.out]
    rintro e w3 ⟨rfl, hb3⟩
    have hb3' : Below W.heap.size W w3 := ((Below.refl _ _).alloc (Nat.le_refl _) _).trans (hb3.mono (by simp))
    have Hb3 := Lib.hid hb3'
    have Hx3 := Lib.hid ((Hx1.out.below hb3').more hb3'.size)
    have Hr3 := Lib.hid (Hr1.out.below (hb3'.mono HB.out.size))
    clear hb3 hb3'
    go_simp
    refine hK.out _ _ ⟨run_strof (P := Tryd.prog) _ 22 5 Tryd.underlying22 Tryd.underlying5 A1 c1 _ l (Hx3.out) 9 Tryd.underlying9, run_strof (P := Tryd.prog) _ 22 5 Tryd.underlying22 Tryd.underlying5 A c _ l (Hr3.out) 9 Tryd.underlying9⟩ ?_
    clear hK K
    repeat (first | (refine CanT.skip rfl ?_ (fun K hK => ?_); (focus (go_simp; done)); go_simp; refine hK _ ?_; clear hK K) | (refine CanT.pur rfl ?_ ?_; (focus (go_simp; done)); refine ⟨?_, ?_, ?_⟩; rotate_left; (focus (intro w'; go_simp; rfl)); (focus (intro K hK; go_simp; refine hK _ ?_; clear hK K))) | (refine CanT.held rfl ?_ ?_; (focus (go_simp; done)); refine ⟨?_, ?_, ?_⟩; rotate_left; (focus (intro w' hS'; (try dsimp only at hS'); go_simp; rfl)); (focus (intro K hK; go_simp; refine hK _ ?_; clear hK K))) | (refine CanT.last rfl (fun K hK => ?_); go_simp; refine hK.out _ _ ?_; clear hK K))
    refine CanT.imp rfl (fun K hK => ?_)
    go_simp
    refine (rof_calls l A c w3 (Hr3.out.more (Nat.le_trans HB.out.size Hb3.out.size)) hlc (by omega)).mono ?_
    rw [← HH.out]
    rintro e w4 ⟨rfl, hb4⟩
    have Hb4 := Lib.hid (bthen Hb3.out hb4)
    have Hx4 := Lib.hid ((Hx3.out.below hb4).more hb4.size)
    have Hr4 := Lib.hid (Hr3.out.below (hb4.mono (Nat.le_trans HB.out.size Hb3.out.size)))
    have Htab4 := Lib.hid (Htab1.out.below (bthen Hb3.out hb4))
    clear hb4
    go_simp
    refine hK.out _ _ ⟨run_strof (P := Tryd.prog) _ 22 5 Tryd.underlying22 Tryd.underlying5 A1 c1 _ l Hx4.out 9 Tryd.underlying9, run_strof (P := Tryd.prog) _ 22 5 Tryd.underlying22 Tryd.underlying5 A c _ l Hr4.out 9 Tryd.underlying9⟩ ?_
    clear hK K
    repeat (first | (refine CanT.skip rfl ?_ (fun K hK => ?_); (focus (go_simp; done)); go_simp; refine hK _ ?_; clear hK K) | (refine CanT.pur rfl ?_ ?_; (focus (go_simp; done)); refine ⟨?_, ?_, ?_⟩; rotate_left; (focus (intro w'; go_simp; rfl)); (focus (intro K hK; go_simp; refine hK _ ?_; clear hK K))) | (refine CanT.held rfl ?_ ?_; (focus (go_simp; done)); refine ⟨?_, ?_, ?_⟩; rotate_left; (focus (intro w' hS'; (try dsimp only at hS'); go_simp; rfl)); (focus (intro K hK; go_simp; refine hK _ ?_; clear hK K))) | (refine CanT.last rfl (fun K hK => ?_); go_simp; refine hK.out _ _ ?_; clear hK K))
    refine CanT.imp rfl (fun K hK => ?_)
    go_simp
    refine (Hw.out w4 Htab4.out).mono ?_
    rintro e w5 ⟨rfl, hb5⟩
    have Hx5 := Lib.hid (Hx4.out.below hb5)
    have Hr5 := Lib.hid (Hr4.out.below (hb5.mono (Nat.le_trans HB.out.size Hb4.out.size)))
    have Hb5 := Lib.hid (bthen Hb4.out hb5)
    clear hb5
    go_simp
    refine hK.out _ _ ⟨run_strof (P := Tryd.prog) _ 22 5 Tryd.underlying22 Tryd.underlying5 A1 c1 _ l Hx5.out 9 Tryd.underlying9, run_strof (P := Tryd.prog) _ 22 5 Tryd.underlying22 Tryd.underlying5 A c _ l Hr5.out 9 Tryd.underlying9⟩ ?_
    clear hK K
    repeat (first | (refine CanT.skip rfl ?_ (fun K hK => ?_); (focus (go_simp; done)); go_simp; refine hK _ ?_; clear hK K) | (refine CanT.pur rfl ?_ ?_; (focus (go_simp; done)); refine ⟨?_, ?_, ?_⟩; rotate_left; (focus (intro w'; go_simp; rfl)); (focus (intro K hK; go_simp; refine hK _ ?_; clear hK K))) | (refine CanT.held rfl ?_ ?_; (focus (go_simp; done)); refine ⟨?_, ?_, ?_⟩; rotate_left; (focus (intro w' hS'; (try dsimp only at hS'); go_simp; rfl)); (focus (intro K hK; go_simp; refine hK _ ?_; clear hK K))) | (refine CanT.last rfl (fun K hK => ?_); go_simp; refine hK.out _ _ ?_; clear hK K))
    refine CanT.done ?_
    go_wp2
    all_goals
      go_ret
      exact ⟨rfl, HB.out.trans (Hb5.out.mono HB.out.size)⟩
end Sk
end Go.Proofs.YtlkcibhdnicpkaaDoor
