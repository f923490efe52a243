/- Two sums stand, by the program and by the document's answer: the walks. -/
import Derived.Test.YtlkcibhdnicpkaaDoorHexr
import Derived.Test.YtlkcibhdnicpkaaDoorSk
import Derived.Lib.BytesEntry
namespace Go.Proofs.YtlkcibhdnicpkaaDoor
namespace Hx
open Go.RowKit Ba Sm Sk
set_option linter.unusedVariables false
def lt (a b : List UInt8) : Bool := Op.bytesLess a b
theorem lt_self : ∀ a : List UInt8, lt a a = false
  | [] => rfl
  | x :: l => by
    have := lt_self l
    unfold lt at *
    simp [Op.bytesLess, this]
theorem cmp_iff : ∀ a b : List UInt8, Lib.compareBytes a b < 0 ↔ lt a b = true
  | [], [] => by simp [Lib.compareBytes, lt, Op.bytesLess]
  | [], y :: b => by simp [Lib.compareBytes, lt, Op.bytesLess]
  | x :: a, [] => by simp [Lib.compareBytes, lt, Op.bytesLess]
  | x :: a, y :: b => by
    have ih := cmp_iff a b
    unfold lt at *
    simp only [Lib.compareBytes, Op.bytesLess]
    by_cases h : x < y
    · simp [h]
    · by_cases h2 : y < x
      · have h3 : ¬ x = y := fun e => by subst e; exact h h2
        simp [h, h2, h3]
      · have h3 : x = y := by
          have a1 := UInt8.not_lt.1 h
          have a2 := UInt8.not_lt.1 h2
          exact UInt8.le_antisymm a2 a1
        rw [if_neg h, if_neg h2, ih]
        simp [h3]
theorem cmp_lt (a b : List UInt8) : decide (Lib.compareBytes a b < 0) = lt a b := by
  have h := cmp_iff a b
  cases hl : lt a b
  · rw [hl] at h
    simpa using h
  · rw [hl] at h
    simpa using h
theorem ext_cmp (args : Array Value) (w : World) : (callFunc 59 args).run Tryd.prog w = ((Extern.BytealgCompare.compare args).run Tryd.prog w).andThen fun v w' => .ok (.value v) w' :=
  run_callFunc_extern Tryd.func59 (by kernel_rfl) (by kernel_rfl) (by kernel_rfl) (by kernel_rfl) args w
theorem bytes_back (l : List UInt8) : Lib.bytesOf (l.map fun b => (b.toNat : Int)) = l := by
  induction l with
  | nil => rfl
  | cons x l ih => 
    show _ :: Lib.bytesOf (l.map fun b => (b.toNat : Int)) = _
    rw [ih]; simp
theorem run_bytes {P : Program} (w : World) (g : Nat) (t : TypeId) (l : List UInt8) (n c : Nat) (hn : l.length = n) (hb : Blk w g t (bvs l).toArray) : (Extern.Bytes.bytesOf (.slice (some ⟨g, 0, none⟩) n c)).run P w = .ok (S l) w := by
  subst hn
  have h := Lib.run_loadBytesX (P := P) w (l.map fun b => (b.toNat : Int)) ⟨g, 0, none⟩ .empty (fun j x hj => by
    have e : (⟨g, 0, none⟩ : Addr).add j = ⟨g, j, none⟩ := by unfold Addr.add; split <;> simp_all
    have := Blk.cell hb j
    rw [List.getElem?_toArray] at this
    rw [e, this]
    simp [bvs] at hj ⊢
    obtain ⟨y, hy, rfl⟩ := hj
    exact ⟨y, hy, rfl⟩)
  rw [List.length_map, bytes_back] at h
  show (Extern.Bytes.loadBytes ⟨g, 0, none⟩ l.length .empty).run P w = _
  rw [h]
  congr 1
  apply ByteArray.ext
  show (#[] : Array UInt8) ++ l.toArray = l.toArray
  simp
theorem run_cmp {P : Program} (w : World) (g h : Nat) (t u : TypeId) (a b : List UInt8) (n c m d : Nat) (hn : a.length = n) (hm : b.length = m) (ha : Blk w g t (bvs a).toArray) (hb : Blk w h u (bvs b).toArray) :
    (Extern.BytealgCompare.compare #[.slice (some ⟨g, 0, none⟩) n c, .slice (some ⟨h, 0, none⟩) m d]).run P w = .ok (.int .i64 (Lib.compareBytes a b)) w := by
  have h1 := Lib.run_compareString (P := P) (S a) (S b) w
  have h2 := run_bytes (P := P) w g t a n c hn ha
  have h3 := run_bytes (P := P) w h u b m d hm hb
  change Sem.run P (do pure (goInt (Extern.BytealgCompare.cmp (← Extern.Bytes.bytesOf (.slice (some ⟨g, 0, none⟩) n c)) (← Extern.Bytes.bytesOf (.slice (some ⟨h, 0, none⟩) m d))))) w = _
  change Sem.run P (do pure (goInt (Extern.BytealgCompare.cmp (← Extern.Bytes.bytesOf (.string (S a))) (← Extern.Bytes.bytesOf (.string (S b)))))) w = _ at h1
  rw [show Extern.Bytes.bytesOf (.string (S a)) = pure (S a) from rfl, show Extern.Bytes.bytesOf (.string (S b)) = pure (S b) from rfl] at h1
  simp only [Sem.run_bind, Sem.run_pure, h2, h3, Result.andThen] at h1 ⊢
  exact h1
theorem compare_calls (a b : List UInt8) (g h : Nat) (t u : TypeId) (n c m d : Nat) (w : World) (hn : a.length = n) (hm : b.length = m) (ha : Blk w g t (bvs a).toArray) (hb : Blk w h u (bvs b).toArray) :
    Calls Tryd.prog 49 #[.slice (some ⟨g, 0, none⟩) n c, .slice (some ⟨h, 0, none⟩) m d] w fun e w' => e = .returned (.int .i64 (Lib.compareBytes a b)) ∧ w' = w := by
  have h1 := run_cmp (P := Tryd.prog) w g h t u a b n c m d hn hm ha hb
  have h2 := ext_cmp
  generalize Lib.compareBytes a b = r at *
  clear ha hb hn hm
  go_enter Tryd.func49, Tryd.ntmps49
  go_wp2
  go_ret
  exact ⟨rfl, rfl⟩
theorem readB_blk {w : World} {g : Nat} {t : TypeId} {l : List UInt8} (hb : Blk w g t (bvs l).toArray) : ReadB w w.heap.size (some ⟨g, 0, none⟩) l := by
  intro _
  refine ⟨g, 0, rfl, hb.lt, fun k hk => ?_⟩
  have := Blk.cell hb k
  rw [List.getElem?_toArray, bvs_get _ _ hk] at this
  simpa using this
theorem run_arrstr (w : World) (g : Nat) (t : TypeId) (l : List UInt8) (hl : l.length = 32) (hb : Blk w g t (bvs l).toArray) : (convert 22 9 (.slice (some ⟨g, 0, none⟩) 32 32)).run Tryd.prog w = .ok (.string (S l)) w := by
  have := run_strof (P := Tryd.prog) w 22 5 Tryd.underlying22 Tryd.underlying5 (some ⟨g, 0, none⟩) 32 _ l (readB_blk hb) 9 Tryd.underlying9
  rw [hl] at this
  exact this
set_option maxRecDepth 100000 in
set_option maxHeartbeats 2000000 in
theorem less_calls (a b : List UInt8) (ha : a.length = 32) (hb : b.length = 32) (w : World) :
    Calls Tryd.prog 25 #[.agg (bvs a).toArray, .agg (bvs b).toArray] w fun e w' => e = .returned (.bool (lt a b)) ∧ Below w.heap.size w w' := by
  have Ha := Lib.hid ha
  have Hb := Lib.hid hb
  have hne : ∀ w', (binOp .neq 26 (.agg (bvs a).toArray) (.agg (bvs b).toArray)).run Tryd.prog w' = .ok (.bool (!(a == b))) w' := fun w' => run_neB a b Ha.out Hb.out w'
  clear ha hb
  obtain ⟨hbw, hA, hB⟩ := two_start (w := w) (C1 := (bvs a).toArray) (C2 := (bvs b).toArray) (t1 := 26) (t2 := 26)
  have HA := Lib.hid hA
  have HB := Lib.hid hB
  have Hbw := Lib.hid hbw
  clear hA hB hbw
  go_enter Tryd.func25, Tryd.ntmps25
  go_wp2_with fail
  refine CanT.region (fun w' => Blk w' w.heap.size 26 (bvs a).toArray ∧ Blk w' (w.heap.size + 1) 26 (bvs b).toArray) 1000 (.op 0 1 (.op 1 1 (.op 2 2 (.op 3 2 (.op 4 2 (.op 5 2 (.op 6 0 (.op 7 2 (.op 8 2 (.op 9 2 (.nil))))))))))) (by kernel_rfl) (by kernel_rfl) ⟨HA.out, HB.out⟩ ?_
  refine CanT.heldR rfl ?_ 26 (.tmp 2) rfl w.heap.size 0 (bvs a) rfl (fun w' h => Blk.range [] (bvs a) [] (by simpa using h.1)) _ Tryd.underlying26 rfl (by rw [bvs_length, Ha.out]; kernel_rfl) (fun K hK => ?_); (focus (go_simp; done)); go_simp; refine hK _ ?_; clear hK K
  refine CanT.heldR rfl ?_ 26 (.tmp 3) rfl (w.heap.size + 1) 0 (bvs b) rfl (fun w' h => Blk.range [] (bvs b) [] (by simpa using h.2)) _ Tryd.underlying26 rfl (by rw [bvs_length, Hb.out]; kernel_rfl) (fun K hK => ?_); (focus (go_simp; done)); go_simp; refine hK _ ?_; clear hK K
  by_cases hab : a = b
  · have hne2 : ∀ w', (binOp .neq 26 (.agg (bvs a).toArray) (.agg (bvs b).toArray)).run Tryd.prog w' = .ok (.bool false) w' := fun w' => by rw [hne w', hab]; simp
    have Hab := Lib.hid hab
    clear hne hab
    generalize (bvs a).toArray = xa at *
    generalize (bvs b).toArray = xb at *
    repeat (first | (refine CanT.skip rfl ?_ (fun K hK => ?_); (focus (go_simp; done)); go_simp; refine hK _ ?_; clear hK K) | (refine CanT.pur rfl ?_ ?_; (focus (go_simp; done)); refine ⟨?_, ?_, ?_⟩; rotate_left; (focus (intro w'; go_simp; rfl)); (focus (intro K hK; go_simp; refine hK _ ?_; clear hK K))) | (refine CanT.held rfl ?_ ?_; (focus (go_simp; done)); refine ⟨?_, ?_, ?_⟩; rotate_left; (focus (intro w' hS'; (try dsimp only at hS'); go_simp; rfl)); (focus (intro K hK; go_simp; refine hK _ ?_; clear hK K))) | (refine CanT.last rfl (fun K hK => ?_); go_simp; refine hK.out _ _ ?_; clear hK K))
    refine CanT.done ?_
    go_wp2
    go_ret
    exact ⟨by rw [Hab.out, lt_self]; rfl, Hbw.out.drew⟩
  · have hne2 : ∀ w', (binOp .neq 26 (.agg (bvs a).toArray) (.agg (bvs b).toArray)).run Tryd.prog w' = .ok (.bool true) w' := fun w' => by rw [hne w']; simp [hab]
    have Hcp := Lib.hid (fun w' h => compare_calls a b w.heap.size (w.heap.size + 1) 26 26 32 32 32 32 w' Ha.out Hb.out (And.left h) (And.right h))
    have hcl := cmp_lt a b
    generalize Lib.compareBytes a b = cr at *
    have HAB := Lib.hid (And.intro HA.out HB.out)
    clear hne hab HA HB
    generalize (bvs a).toArray = xa at *
    generalize (bvs b).toArray = xb at *
    have Hcl := Lib.hid hcl
    clear hcl
    repeat (first | (refine CanT.skip rfl ?_ (fun K hK => ?_); (focus (go_simp; done)); go_simp; refine hK _ ?_; clear hK K) | (refine CanT.pur rfl ?_ ?_; (focus (go_simp; done)); refine ⟨?_, ?_, ?_⟩; rotate_left; (focus (intro w'; go_simp; rfl)); (focus (intro K hK; go_simp; refine hK _ ?_; clear hK K))) | (refine CanT.held rfl ?_ ?_; (focus (go_simp; done)); refine ⟨?_, ?_, ?_⟩; rotate_left; (focus (intro w' hS'; (try dsimp only at hS'); go_simp; rfl)); (focus (intro K hK; go_simp; refine hK _ ?_; clear hK K))) | (refine CanT.last rfl (fun K hK => ?_); go_simp; refine hK.out _ _ ?_; clear hK K))
    refine CanT.imp rfl (fun K hK => ?_)
    go_simp
    refine Calls.mono (Hcp.out _ ?arg) ?_
    case arg => exact HAB.out
    rintro e w4 ⟨rfl, rfl⟩
    go_simp
    refine hK.out _ _ HAB.out ?_
    clear hK K
    repeat (first | (refine CanT.skip rfl ?_ (fun K hK => ?_); (focus (go_simp; done)); go_simp; refine hK _ ?_; clear hK K) | (refine CanT.pur rfl ?_ ?_; (focus (go_simp; done)); refine ⟨?_, ?_, ?_⟩; rotate_left; (focus (intro w'; go_simp; rfl)); (focus (intro K hK; go_simp; refine hK _ ?_; clear hK K))) | (refine CanT.held rfl ?_ ?_; (focus (go_simp; done)); refine ⟨?_, ?_, ?_⟩; rotate_left; (focus (intro w' hS'; (try dsimp only at hS'); go_simp; rfl)); (focus (intro K hK; go_simp; refine hK _ ?_; clear hK K))) | (refine CanT.last rfl (fun K hK => ?_); go_simp; refine hK.out _ _ ?_; clear hK K))
    refine CanT.done ?_
    go_wp2
    all_goals
      go_ret
      exact ⟨by rw [← Hcl.out]; rfl, Hbw.out.drew⟩
set_option maxRecDepth 100000 in
set_option maxHeartbeats 2000000 in
theorem rless_calls (a b : List UInt8) (ha : a.length = 32) (hb : b.length = 32) (w : World) :
    Calls Tryd.prog 26 #[.agg (bvs a).toArray, .agg (bvs b).toArray] w fun e w' => e = .returned (.bool (lt a b)) ∧ Below w.heap.size w w' := by
  have Ha := Lib.hid ha
  have Hb := Lib.hid hb
  clear ha hb
  obtain ⟨hbw, hA, hB⟩ := two_start (w := w) (C1 := (bvs a).toArray) (C2 := (bvs b).toArray) (t1 := 26) (t2 := 26)
  have HAB := Lib.hid (And.intro hA hB)
  have Hbw := Lib.hid hbw
  clear hA hB hbw
  go_enter Tryd.func26, Tryd.ntmps26
  go_wp2_with fail
  refine CanT.region (fun w' => (convert 22 9 (.slice (some ⟨w.heap.size, 0, none⟩) 32 32)).run Tryd.prog w' = .ok (.string (S a)) w' ∧ (convert 22 9 (.slice (some ⟨w.heap.size + 1, 0, none⟩) 32 32)).run Tryd.prog w' = .ok (.string (S b)) w') 1000 (.op 0 2 (.op 1 1 (.op 2 2 (.op 3 1 (.op 4 2 (.op 5 2 (.nil))))))) (by kernel_rfl) (by kernel_rfl) ⟨run_arrstr _ _ _ a Ha.out HAB.out.1, run_arrstr _ _ _ b Hb.out HAB.out.2⟩ ?_
  have hl : Op.bytesLess (S a).toList (S b).toList = lt a b := by rw [S_toList, S_toList]; rfl
  generalize S a = sa at *
  generalize S b = sb at *
  generalize (bvs a).toArray = xa at *
  generalize (bvs b).toArray = xb at *
  repeat (first | (refine CanT.skip rfl ?_ (fun K hK => ?_); (focus (go_simp; done)); go_simp; refine hK _ ?_; clear hK K) | (refine CanT.pur rfl ?_ ?_; (focus (go_simp; done)); refine ⟨?_, ?_, ?_⟩; rotate_left; (focus (intro w'; go_simp; rfl)); (focus (intro K hK; go_simp; refine hK _ ?_; clear hK K))) | (refine CanT.held rfl ?_ ?_; (focus (go_simp; done)); refine ⟨?_, ?_, ?_⟩; rotate_left; (focus (intro w' hS'; (try dsimp only at hS'); go_simp; rfl)); (focus (intro K hK; go_simp; refine hK _ ?_; clear hK K))) | (refine CanT.last rfl (fun K hK => ?_); go_simp; refine hK.out _ _ ?_; clear hK K))
  refine CanT.done ?_
  go_wp2
  go_ret
  exact ⟨rfl, Hbw.out.drew⟩
end Hx
end Go.Proofs.YtlkcibhdnicpkaaDoor
