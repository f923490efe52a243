/- The size of a file's blocks: the program's, the document's. -/
import Derived.Test.YtcbkhbnemhkheaaDoorP01
import Derived.Test.YtcbkhbnemhkheaaDoorP02
import Derived.Test.YtcbkhbnemhkheaaDoorP03
import Derived.Test.YtcbkhbnemhkheaaDoorP04
import Derived.Test.YtcbkhbnemhkheaaDoorP05
import Derived.Test.YtcbkhbnemhkheaaDoorProg
import Derived.Laws.Cover2
import Derived.WalkKit
import Derived.KernelRfl
import Derived.RowKit3
import Derived.WalkSpells
import Derived.Lib.Hide
namespace Go.Proofs.YtcbkhbnemhkheaaDoor
namespace Bk
open Go.RowKit Ba
set_option linter.unusedVariables false
def szN (k : Nat) : Nat := 16 * 2 ^ k
theorem bsize_of (n : Int) (k : Nat) (hk : k ≤ 8) (h1 : ∀ j, j < k → ((szN j * szN j : Nat) : Int) < n) (h2 : k = 8 ∨ n ≤ ((szN k * szN k : Nat) : Int)) : bsize n = szN k := by
  have h : k = 0 ∨ k = 1 ∨ k = 2 ∨ k = 3 ∨ k = 4 ∨ k = 5 ∨ k = 6 ∨ k = 7 ∨ k = 8 := by omega
  have h3 : k = 0 ∨ ((szN (k - 1) * szN (k - 1) : Nat) : Int) < n := by
    rcases Nat.eq_zero_or_pos k with h | h
    · exact .inl h
    · exact .inr (h1 _ (by omega))
  clear h1
  unfold bsize
  rcases h with rfl | rfl | rfl | rfl | rfl | rfl | rfl | rfl | rfl <;> simp [szN] at h2 h3 ⊢ <;> (repeat' split) <;> omega
theorem szN_succ (k : Nat) : szN (k + 1) = szN k * 2 := by unfold szN; rw [Nat.pow_succ, Nat.mul_assoc]
theorem szN_ge (k : Nat) : 16 ≤ szN k := by unfold szN; have := Nat.pow_pos (n := k) (show 0 < 2 by omega); omega
theorem szN_lt (k : Nat) (h : k ≤ 8) : szN k ≤ 4096 ∧ (szN k < 4096 ↔ k < 8) := by
  have h : k = 0 ∨ k = 1 ∨ k = 2 ∨ k = 3 ∨ k = 4 ∨ k = 5 ∨ k = 6 ∨ k = 7 ∨ k = 8 := by omega
  rcases h with rfl | rfl | rfl | rfl | rfl | rfl | rfl | rfl | rfl <;> simp [szN]
set_option maxRecDepth 100000 in
set_option maxHeartbeats 400000 in
theorem may_calls (n : Int) (ok : Bool) (hok : ok = true ↔ 1 ≤ n ∧ n ≤ 4096) (w : World) : Calls Tryd.prog 27 #[.int .i64 n] w fun e w' => e = .returned (.bool ok) ∧ w = w' := by
  by_cases h1 : 1 ≤ n
  · by_cases h2 : n ≤ 4096
    · obtain rfl : ok = true := hok.2 ⟨h1, h2⟩
      clear hok
      go_enter Tryd.func27, Tryd.ntmps27
      go_wp2
      go_ret
      exact ⟨rfl, rfl⟩
    · obtain rfl : ok = false := by cases ok; rfl; exact absurd (hok.1 rfl).2 h2
      clear hok
      go_enter Tryd.func27, Tryd.ntmps27
      go_wp2
      go_ret
      exact ⟨rfl, rfl⟩
  · obtain rfl : ok = false := by cases ok; rfl; exact absurd (hok.1 rfl).1 h1
    clear hok
    go_enter Tryd.func27, Tryd.ntmps27
    go_wp2
    go_ret
    exact ⟨rfl, rfl⟩
set_option maxRecDepth 100000 in
set_option maxHeartbeats 400000 in
theorem size_calls (n : Int) (w : World) : Calls Tryd.prog 12 #[.int .i64 n] w fun e w' => e = .returned (.int .i64 (bsize n : Nat)) ∧ w = w' := by
  go_enter Tryd.func12, Tryd.ntmps12
  go_wp2
  go_loopw [3] (fun s wx => ∃ k : Nat, k ≤ 8 ∧ s = .int .i64 (szN k : Nat) ∧ (∀ j, j < k → ((szN j * szN j : Nat) : Int) < n) ∧ w = wx) (fun s _ => (4096 - intOf s).toNat)
  case atStart => exact ⟨0, by omega, rfl, fun j hj => absurd hj (by omega), rfl⟩
  case round =>
    obtain ⟨k, hk, rfl, hj, rfl⟩ := hrel
    have h16 := szN_ge k
    have h8 := szN_lt k hk
    obtain ⟨m, hm⟩ : ∃ m, m = szN k := ⟨_, rfl⟩
    rw [← hm] at h16 h8 ⊢
    have hmm : m * m ≤ 16777216 := Nat.mul_le_mul (show m ≤ 4096 by omega) (show m ≤ 4096 by omega)
    have emm : (m : Int) * (m : Int) = ((m * m : Nat) : Int) := by rw [Int.natCast_mul]
    generalize hq : m * m = q at *
    have Hj := Lib.hid hj
    have Hm := Lib.hid hm
    have Hq := Lib.hid hq
    have H8 := Lib.hid h8
    have H16 := Lib.hid h16
    clear hj hm hq h8 h16
    by_cases c1 : m < 4096
    · have hk8 : k < 8 := by have := H8.out.2; omega
      by_cases c2 : (q : Int) < n
      · go_wp2
        refine ⟨⟨k + 1, by omega, ?_, ?_, trivial⟩, ?_⟩
        · simp [szN_succ, ← Hm.out]
        · intro j hj
          rcases Nat.lt_succ_iff_lt_or_eq.1 hj with h | h
          · exact Hj.out j h
          · subst h; rw [← Hm.out, Hq.out]; exact c2
        · have := H16.out; simp [intOf]; omega
      · go_wp2
        go_ret
        exact ⟨by rw [bsize_of n k hk Hj.out (.inr (by rw [← Hm.out, Hq.out]; omega)), ← Hm.out]; rfl, rfl⟩
    · have hk8 : k = 8 := by have := H8.out.2; omega
      go_wp2
      go_ret
      exact ⟨by rw [bsize_of n k hk Hj.out (.inl hk8), ← Hm.out]; rfl, rfl⟩
set_option maxRecDepth 100000 in
set_option maxHeartbeats 400000 in
theorem rsize_calls (n : Int) (w : World) : Calls Tryd.prog 13 #[.int .i64 n] w fun e w' => e = .returned (.int .i64 (bsize n : Nat)) ∧ w = w' := by
  go_enter Tryd.func13, Tryd.ntmps13
  go_wp2
  go_loopw [3] (fun s wx => ∃ k : Nat, k ≤ 8 ∧ s = .int .i64 (szN k : Nat) ∧ (∀ j, j < k → ((szN j * szN j : Nat) : Int) < n) ∧ w = wx) (fun s _ => (4096 - intOf s).toNat)
  case atStart => exact ⟨0, by omega, rfl, fun j hj => absurd hj (by omega), rfl⟩
  case round =>
    obtain ⟨k, hk, rfl, hj, rfl⟩ := hrel
    have h16 := szN_ge k
    have h8 := szN_lt k hk
    obtain ⟨m, hm⟩ : ∃ m, m = szN k := ⟨_, rfl⟩
    rw [← hm] at h16 h8 ⊢
    have hmm : m * m ≤ 16777216 := Nat.mul_le_mul (show m ≤ 4096 by omega) (show m ≤ 4096 by omega)
    have emm : (m : Int) * (m : Int) = ((m * m : Nat) : Int) := by rw [Int.natCast_mul]
    generalize hq : m * m = q at *
    have Hj := Lib.hid hj
    have Hm := Lib.hid hm
    have Hq := Lib.hid hq
    have H8 := Lib.hid h8
    have H16 := Lib.hid h16
    clear hj hm hq h8 h16
    by_cases c1 : m < 4096
    · have hk8 : k < 8 := by have := H8.out.2; omega
      by_cases c2 : (q : Int) < n
      · go_wp2
        refine ⟨⟨k + 1, by omega, ?_, ?_, trivial⟩, ?_⟩
        · simp [szN_succ, ← Hm.out]; omega
        · intro j hj
          rcases Nat.lt_succ_iff_lt_or_eq.1 hj with h | h
          · exact Hj.out j h
          · subst h; rw [← Hm.out, Hq.out]; exact c2
        · have := H16.out; simp [intOf]; omega
      · go_wp2
        go_ret
        exact ⟨by rw [bsize_of n k hk Hj.out (.inr (by rw [← Hm.out, Hq.out]; omega)), ← Hm.out]; rfl, rfl⟩
    · have hk8 : k = 8 := by have := H8.out.2; omega
      go_wp2
      go_ret
      have h4 : m = 4096 := by have := H8.out.1; omega
      exact ⟨by rw [bsize_of n k hk Hj.out (.inl hk8), ← Hm.out, h4]; rfl, rfl⟩
end Bk
end Go.Proofs.YtcbkhbnemhkheaaDoor
/- Whether sums may be: the program's look, the document's; an index that is not there; its size and length. -/
namespace Go.Proofs.YtcbkhbnemhkheaaDoor
namespace Bk
open Go.RowKit Ba
set_option linter.unusedVariables false
theorem check_spell (size n : Int) (m : Nat) (h1 : 1 ≤ size ∧ size ≤ 4096) (h2 : 0 ≤ n ∧ n ≤ 65536) : check size n m = if (m : Int) = n.tdiv size ∧ m ≤ 4096 then 0 else 13 := by
  unfold check
  rw [if_neg (by omega), if_neg (by omega), Int.tdiv_eq_ediv_of_nonneg h2.1]
  by_cases h : (m : Int) = n / size ∧ m ≤ 4096
  · rw [if_pos h, if_neg (by omega)]
  · rw [if_neg h, if_pos (by omega)]
set_option maxRecDepth 100000 in
set_option maxHeartbeats 1000000 in
theorem check_calls (size n : Int) (A : Option Addr) (m c : Nat) (hs : -9223372036854775808 ≤ size ∧ size ≤ 9223372036854775807) (hn : -9223372036854775808 ≤ n ∧ n ≤ 9223372036854775807) (hm : m ≤ 9223372036854775807) (w : World) :
    Calls Tryd.prog 31 #[.int .i64 size, .int .i64 n, .slice A m c] w fun e w' => e = .returned (.int .i64 (check size n m)) ∧ w = w' := by
  by_cases h1 : 1 ≤ size ∧ size ≤ 4096
  · have hmay := may_calls size true (by simp; omega)
    have Hm := Lib.hid hmay
    clear hmay
    by_cases h2 : 0 ≤ n ∧ n ≤ 65536
    · rw [check_spell size n m h1 h2]
      obtain ⟨q, hq⟩ : ∃ q : Nat, n.tdiv size = (q : Int) := ⟨(n.tdiv size).toNat, by rw [Int.tdiv_eq_ediv_of_nonneg h2.1]; have := Int.ediv_nonneg h2.1 (show 0 ≤ size by omega); omega⟩
      have hq2 : q ≤ 65536 := by
        have : n.tdiv size ≤ n := by rw [Int.tdiv_eq_ediv_of_nonneg h2.1]; exact Int.ediv_le_self _ h2.1
        omega
      rw [hq]
      have hz : ¬ size = 0 := by omega
      have g1 : decide (n < 0) = false := by rw [decide_eq_false_iff_not]; omega
      have g2 : decide (65536 < n) = false := by rw [decide_eq_false_iff_not]; omega
      by_cases h3 : m = q
      · subst h3
        by_cases h4 : m ≤ 4096
        · rw [if_pos ⟨rfl, h4⟩]
          go_enter Tryd.func31, Tryd.ntmps31
          go_wp2_with (go_at_call 27; refine (Hm.out _).mono ?_; rintro e w1 ⟨rfl, rfl⟩)
          go_ret
          exact ⟨rfl, rfl⟩
        · rw [if_neg (by omega)]
          go_enter Tryd.func31, Tryd.ntmps31
          go_wp2_with (go_at_call 27; refine (Hm.out _).mono ?_; rintro e w1 ⟨rfl, rfl⟩)
          go_ret
          exact ⟨rfl, rfl⟩
      · rw [if_neg (by omega)]
        have h3' : ¬ (m : Int) = (q : Int) := by omega
        go_enter Tryd.func31, Tryd.ntmps31
        go_wp2_with (go_at_call 27; refine (Hm.out _).mono ?_; rintro e w1 ⟨rfl, rfl⟩)
        go_ret
        exact ⟨rfl, rfl⟩
    · have hc : check size n m = 5 := by unfold check; rw [if_neg (by omega), if_pos (by omega)]
      rw [hc]
      clear hc
      by_cases h3 : 0 ≤ n
      all_goals
        go_enter Tryd.func31, Tryd.ntmps31
        go_wp2_with (go_at_call 27; refine (Hm.out _).mono ?_; rintro e w1 ⟨rfl, rfl⟩)
        go_ret
        exact ⟨rfl, rfl⟩
  · have hc : check size n m = 2 := by unfold check; rw [if_pos (by omega)]
    rw [hc]
    clear hc
    have hmay := may_calls size false (by simp; omega)
    have Hm := Lib.hid hmay
    clear hmay
    go_enter Tryd.func31, Tryd.ntmps31
    go_wp2_with (go_at_call 27; refine (Hm.out _).mono ?_; rintro e w1 ⟨rfl, rfl⟩)
    go_ret
    exact ⟨rfl, rfl⟩
set_option maxRecDepth 100000 in
set_option maxHeartbeats 1000000 in
theorem rcheck_calls (size n : Int) (A : Option Addr) (m c : Nat) (hs : -9223372036854775808 ≤ size ∧ size ≤ 9223372036854775807) (hn : -9223372036854775808 ≤ n ∧ n ≤ 9223372036854775807) (hm : m ≤ 9223372036854775807) (w : World) :
    Calls Tryd.prog 16 #[.int .i64 size, .int .i64 n, .slice A m c] w fun e w' => e = .returned (.int .i64 (check size n m)) ∧ w = w' := by
  by_cases h1 : 1 ≤ size ∧ size ≤ 4096
  · by_cases h2 : 0 ≤ n ∧ n ≤ 65536
    · rw [check_spell size n m h1 h2]
      obtain ⟨q, hq⟩ : ∃ q : Nat, n.tdiv size = (q : Int) := ⟨(n.tdiv size).toNat, by rw [Int.tdiv_eq_ediv_of_nonneg h2.1]; have := Int.ediv_nonneg h2.1 (show 0 ≤ size by omega); omega⟩
      have hq2 : q ≤ 65536 := by
        have : n.tdiv size ≤ n := by rw [Int.tdiv_eq_ediv_of_nonneg h2.1]; exact Int.ediv_le_self _ h2.1
        omega
      rw [hq]
      have hz : ¬ size = 0 := by omega
      have g1 : decide (n < 0) = false := by rw [decide_eq_false_iff_not]; omega
      have g2 : decide (65536 < n) = false := by rw [decide_eq_false_iff_not]; omega
      by_cases h3 : m = q
      · subst h3
        by_cases h4 : m ≤ 4096
        · rw [if_pos ⟨rfl, h4⟩]
          go_enter Tryd.func16, Tryd.ntmps16
          go_wp2
          go_ret
          exact ⟨rfl, rfl⟩
        · rw [if_neg (by omega)]
          go_enter Tryd.func16, Tryd.ntmps16
          go_wp2
          go_ret
          exact ⟨rfl, rfl⟩
      · rw [if_neg (by omega)]
        have h3' : ¬ (m : Int) = (q : Int) := by omega
        go_enter Tryd.func16, Tryd.ntmps16
        go_wp2
        go_ret
        exact ⟨rfl, rfl⟩
    · have hc : check size n m = 5 := by unfold check; rw [if_neg (by omega), if_pos (by omega)]
      rw [hc]
      clear hc
      by_cases h3 : n ≤ 65536
      all_goals
        go_enter Tryd.func16, Tryd.ntmps16
        go_wp2
        go_ret
        exact ⟨rfl, rfl⟩
  · have hc : check size n m = 2 := by unfold check; rw [if_pos (by omega)]
    rw [hc]
    clear hc
    by_cases h3 : 1 ≤ size
    all_goals
      go_enter Tryd.func16, Tryd.ntmps16
      go_wp2
      go_ret
      exact ⟨rfl, rfl⟩
end Bk
end Go.Proofs.YtcbkhbnemhkheaaDoor
/- When two sums are the same, to the program. -/
namespace Go.Proofs.YtcbkhbnemhkheaaDoor
namespace Bk
open Go.RowKit Ba Sm Ro
set_option linter.unusedVariables false
theorem eqF_cons {P : Program} (w : World) (d : Nat) (xs ys : Array Value) (f : Field) (fs : List Field) (hn : f.name ≠ "_") (a b : Value) (r : Bool) (pa : (part f.type xs f.offset).run P w = .ok a w) (pb : (part f.type ys f.offset).run P w = .ok b w)
    (hr : (Op.equalIn d f.type a b).run P w = .ok r w) : (Op.eqFields d xs ys (f :: fs)).run P w = if r then (Op.eqFields d xs ys fs).run P w else .ok false w := by
  rw [Op.eqFields, if_pos hn]
  simp only [Sem.run_bind, pa, pb, hr, Result.andThen_ok]
  cases r <;> rfl
theorem sig_fields : (Tryd.prog.fieldsOf 49).toList.map (fun f => (f.name, f.type, f.offset)) = [("Weak", 33, 0), ("Strong", 47, 1)] := by kernel_rfl
theorem run_eqSig0 (a b : Sg) (ha : a.2.length = 32) (hb : b.2.length = 32) (w : World) : (Op.equalIn 10000 49 (.agg (sgv a).toArray) (.agg (sgv b).toArray)).run Tryd.prog w = .ok (a == b) w := by
  rw [run_equalIn_struct w 9999 49 _ _ (by kernel_rfl) (by kernel_rfl)]
  have hf := sig_fields
  generalize (Tryd.prog.fieldsOf 49).toList = fs at hf
  obtain ⟨f, g, rfl⟩ : ∃ f g, fs = [f, g] := by
    have hl := congrArg List.length hf
    simp at hl
    rcases fs with _ | ⟨f, _ | ⟨g, _ | ⟨h, t⟩⟩⟩ <;> simp at hl
    exact ⟨f, g, rfl⟩
  · simp only [List.map_cons, List.map_nil, List.cons.injEq, Prod.mk.injEq, and_true] at hf
    obtain ⟨⟨f1, f2, f3⟩, g1, g2, g3⟩ := hf
    have hl : ∀ x : Sg, x.2.length = 32 → (sgv x).toArray.extract 1 33 = (bvs x.2).toArray := fun x hx => by
      have := sgv_len hx
      apply Array.ext'
      simp [sgv, List.take_of_length_le, bvs_length, hx]
    have hpart : ∀ x : Sg, x.2.length = 32 → (part 47 (sgv x).toArray 1).run Tryd.prog w = .ok (.agg (bvs x.2).toArray) w := fun x hx => by
      have hs : (sizeOf 47).run Tryd.prog w = .ok 32 w := by kernel_rfl
      have hag : (isAgg 47).run Tryd.prog w = .ok true w := by kernel_rfl
      unfold part
      simp only [Sem.run_bind, hag, Result.andThen_ok, if_true, hs, Sem.run_pure]
      rw [hl x hx]
    have hpart0 : ∀ x : Sg, (part 33 (sgv x).toArray 0).run Tryd.prog w = .ok (.int .u32 (x.1 : Int)) w := fun x => by
      have hag : (isAgg 33).run Tryd.prog w = .ok false w := by kernel_rfl
      simp [part, hag, sgv]
    rw [eqF_cons w 9999 _ _ f [g] (by rw [f1]; decide) (.int .u32 (a.1 : Int)) (.int .u32 (b.1 : Int)) ((a.1 : Int) == (b.1 : Int)) (by rw [f2, f3]; exact hpart0 a) (by rw [f2, f3]; exact hpart0 b) (by rw [f2]; exact run_equalIn_int w 9998 _ .u32 .u32 _ _ Tryd.underlying33)]
    rw [eqF_cons w 9999 _ _ g [] (by rw [g1]; decide) (.agg (bvs a.2).toArray) (.agg (bvs b.2).toArray) (a.2 == b.2) (by rw [g2, g3]; exact hpart a ha) (by rw [g2, g3]; exact hpart b hb)
      (by rw [g2]; exact run_equalIn_bytes w 9997 47 5 32 Tryd.underlying47 Tryd.underlying5 (fun w => by kernel_rfl) a.2 b.2 ha hb)]
    have e : (a == b) = (((a.1 : Int) == (b.1 : Int)) && (a.2 == b.2)) := by
      rw [Bool.eq_iff_iff]
      simp only [beq_iff_eq, Bool.and_eq_true, Prod.ext_iff, Int.natCast_inj]
    rw [e]
    cases ((a.1 : Int) == (b.1 : Int)) <;> cases (a.2 == b.2) <;> simp [Op.eqFields]
theorem run_eqSig (a b : Sg) (ha : a.2.length = 32) (hb : b.2.length = 32) (w : World) : (binOp .eql 49 (.agg (sgv a).toArray) (.agg (sgv b).toArray)).run Tryd.prog w = .ok (.bool (a == b)) w := by
  rw [run_eql_struct, run_eqSig0 a b ha hb w]; rfl
theorem run_neSig (a b : Sg) (ha : a.2.length = 32) (hb : b.2.length = 32) (w : World) : (binOp .neq 49 (.agg (sgv a).toArray) (.agg (sgv b).toArray)).run Tryd.prog w = .ok (.bool (!(a == b))) w := by
  rw [run_neq_struct, run_eqSig0 a b ha hb w]; rfl
theorem run_eqB (a b : List UInt8) (ha : a.length = 32) (hb : b.length = 32) (w : World) : (binOp .eql 47 (.agg (bvs a).toArray) (.agg (bvs b).toArray)).run Tryd.prog w = .ok (.bool (a == b)) w :=
  run_eql_bytes w 47 5 32 Tryd.underlying47 Tryd.underlying5 (fun w => by kernel_rfl) a b ha hb
end Bk
end Go.Proofs.YtcbkhbnemhkheaaDoor
/- A region that draws its order, where all that it reads lies in blocks that were there at its start: F is 'Below' of the world at its start. -/
namespace Go.Proofs.YtcbkhbnemhkheaaDoor
namespace CanB
open CanT Go.RowKit Ba Sm
set_option linter.unusedVariables false
section
variable {P : Program} {ops : Array Oper} {Q : Exit → Act → World → Prop} {k : Nat}
theorem region {id : Nat} {l : List Oper} {a : Act} {w : World} (k : Nat) (ord : Ord) (hm : P.follows .mixedOrders = true)
    (hB : (Region.noSelect l.toArray && okLen ord l.length && canB l.toArray k ord false (Array.replicate l.length false)) = true)
    (h : wpCan P l.toArray (NoPanic Q) k ord (Below w.drew.heap.size w.drew) a w.drew) : (Code.region id l.toArray true).wp P Q a w :=
  CanT.region (Below w.drew.heap.size w.drew) k ord hm hB (Below.refl _ _) h
variable {i : Nat} {o : Oper} {a : Act} {w W : World} {b : Nat} {rest : Ord} {B : Nat}
/-- a row of values is read -/
theorem row (hi : ops[i]? = some o) (hg : Region.wanted o (yielded ops a.tmps) = true)
    (ty : TypeId) (x : Operand) (ho : o.op = .load ty x) (g p : Nat) (cs : List Value) (hx : a.eval x = .pointer (some ⟨g, p, none⟩)) (hR : W.rangeAt g p cs) (hgB : g < B) (d : TypeDesc) (hu : P.underlying ty = some d) (hd : d.isRow = true)
    (hs : (P.info? ty).map (·.size) = some cs.length) (h : ∀ K : Act → Prop, (∀ a, wpCan P ops Q k rest (Below B W) a w → K a) → K (a.put o.dst (.agg cs.toArray))) : wpCan P ops Q k (.op i 1 rest) (Below B W) a w :=
  CanT.heldR hi hg ty x ho g p cs hx (fun w' hF j v hv => (Below.cell (p := ⟨g, p + j, none⟩) hF hgB).trans (hR j v hv)) d hu hd hs h
/-- bytes are read as a text -/
theorem str (hi : ops[i]? = some o) (hg : Region.wanted o (yielded ops a.tmps) = true)
    (src dst e : TypeId) (x : Operand) (ho : o.op = .convert src dst x) (hs : P.underlying src = some (.slice e)) (he : P.underlying e = some (.int .u8)) (hd : P.underlying dst = some .string) (A : Option Addr) (n c : Nat) (l : List UInt8)
    (hx : a.eval x = .slice A n c) (hn : n = l.length) (hR : ReadB W B A l) (h : ∀ K : Act → Prop, (∀ a, wpCan P ops Q k rest (Below B W) a w → K a) → K (a.put o.dst (.string (S l)))) : wpCan P ops Q k (.op i 1 rest) (Below B W) a w := by
  subst hn
  refine CanT.held hi hg ⟨.string (S l), fun w' hF' => ?_, h⟩
  unfold execOp
  simp only [ho, hx, Sem.run_bind, run_strof w' src e hs he A c B l (hR.below hF') dst hd]
  rfl
/-- one cell is read -/
theorem cell (hi : ops[i]? = some o) (hg : Region.wanted o (yielded ops a.tmps) = true) (u v : Value) (p : Addr) (hc : W.cell? p = some u) (hp : p.block < B)
    (hl : ∀ w', w'.cell? p = some u → (execOp a.eval o).run P w' = .ok (.value v) w')
    (h : ∀ K : Act → Prop, (∀ a, wpCan P ops Q k rest (Below B W) a w → K a) → K (a.put o.dst v)) : wpCan P ops Q k (.op i 1 rest) (Below B W) a w :=
  CanT.held hi hg ⟨v, fun w' hF => hl w' ((Below.cell hF hp).trans hc), h⟩
end
end CanB
end Go.Proofs.YtcbkhbnemhkheaaDoor
/- Whether lists of sums are the same, to the document's answer. -/
namespace Go.Proofs.YtcbkhbnemhkheaaDoor
namespace Bk
open Go.RowKit Ba Sm Ro
set_option linter.unusedVariables false
theorem rw_len {l : List Sg} (h : RWf sgv 33 l) {k : Nat} (hk : k < l.length) : (sg l k).2.length = 32 := by
  have e : sg l k = l[k] := by simp [sg, List.getD, hk]
  have := (h l[k] (List.getElem_mem hk)).1
  rw [e]
  simpa [sgv, bvs_length] using this
theorem sg_get {l : List Sg} {k : Nat} (hk : k < l.length) : l[k]? = some (sg l k) := by
  rw [List.getElem?_eq_getElem hk]
  simp [sg, List.getD, hk]
theorem take_beq {a b : List Sg} (h : a.length = b.length) (k : Nat) (hk : k < a.length) (he : a.take k = b.take k) : (sg a k = sg b k → a.take (k + 1) = b.take (k + 1)) ∧ (sg a k ≠ sg b k → a ≠ b) := by
  refine ⟨fun e => ?_, fun e e2 => e (by rw [e2])⟩
  rw [List.take_add_one, List.take_add_one, he, sg_get hk, sg_get (show k < b.length by omega), e]
set_option maxRecDepth 100000 in
set_option maxHeartbeats 1000000 in
theorem same_calls (a b : List Sg) (A B : Option Addr) (c d : Nat) (w : World) (ha : ReadRow sgv 33 w w.heap.size A a) (hb : ReadRow sgv 33 w w.heap.size B b) (hac : a.length ≤ 9223372036854775807) (hbc : b.length ≤ 9223372036854775807) :
    Calls Tryd.prog 14 #[.slice A a.length c, .slice B b.length d] w fun e w' => e = .returned (.bool (a == b)) ∧ ∃ k, w' = w.drewN k := by
  obtain ⟨n, hn⟩ : ∃ n, n = a.length := ⟨_, rfl⟩
  obtain ⟨m, hm⟩ : ∃ m, m = b.length := ⟨_, rfl⟩
  obtain ⟨r, hr⟩ : ∃ r, r = (a == b) := ⟨_, rfl⟩
  rw [← hr, ← hn, ← hm]
  by_cases hl : n = m
  · subst hl
    have Hn := Lib.hid hn
    have Hm := Lib.hid hm
    have Hr := Lib.hid hr
    have Ha := Lib.hid ha
    have Hb := Lib.hid hb
    have hnm : n ≤ 9223372036854775807 := by rw [hn]; exact hac
    clear hn hm hr ha hb hac hbc
    go_enter Tryd.func14, Tryd.ntmps14
    go_wp2
    go_loopg [5] n (fun q v5 wr => ∃ k : Nat, k ≤ n ∧ q = n - k ∧ v5 = .int .i64 (k : Int) ∧ a.take k = b.take k ∧ ∃ j, wr = w.drewN j)
    case atStart => exact ⟨0, by omega, rfl, rfl, rfl, 0, rfl⟩
    case round =>
      obtain ⟨k, hk, hq, rfl, ht, j, rfl⟩ := hrel
      have Hq := Lib.hid hq
      have Ht := Lib.hid ht
      clear hq ht
      by_cases hkn : k < n
      · have t1 : decide ((k : Int) < (n : Int)) = true := by rw [decide_eq_true_eq]; omega
        obtain ⟨b1, o1, rfl, hb1, hc1⟩ := Ha.out.at_ (sg_get (l := a) (k := k) (by rw [← Hn.out]; exact hkn))
        obtain ⟨b2, o2, rfl, hb2, hc2⟩ := Hb.out.at_ (sg_get (l := b) (k := k) (by rw [← Hm.out]; exact hkn))
        have hla := rw_len Ha.out.1 (k := k) (by rw [← Hn.out]; exact hkn)
        have hlb := rw_len Hb.out.1 (k := k) (by rw [← Hm.out]; exact hkn)
        obtain ⟨x, hx⟩ : ∃ x, x = sg a k := ⟨_, rfl⟩
        obtain ⟨y, hy⟩ : ∃ y, y = sg b k := ⟨_, rfl⟩
        rw [← hx] at hc1 hla
        rw [← hy] at hc2 hlb
        obtain ⟨ne, hn0⟩ : ∃ ne, ne = !(x == y) := ⟨_, rfl⟩
        have hne : ∀ w', (binOp .neq 49 (.agg (sgv x).toArray) (.agg (sgv y).toArray)).run Tryd.prog w' = .ok (.bool ne) w' := fun w' => by rw [hn0]; exact run_neSig x y hla hlb w'
        have Hn0 := Lib.hid hn0
        clear hn0
        have Hx := Lib.hid hx
        have Hy := Lib.hid hy
        have Hla := Lib.hid hla
        have Hlb := Lib.hid hlb
        have HC1 : Hid ((w.drewN j).drew.rangeAt b1 (o1 + k * 33) (sgv x)) := Lib.hid hc1
        have HC2 : Hid ((w.drewN j).drew.rangeAt b2 (o2 + k * 33) (sgv y)) := Lib.hid hc2
        have HB1 : Hid (b1 < (w.drewN j).drew.heap.size) := Lib.hid hb1
        have HB2 : Hid (b2 < (w.drewN j).drew.heap.size) := Lib.hid hb2
        clear hx hy hla hlb hc1 hc2 hb1 hb2
        go_wp2_with fail
        refine CanB.region 1000 (.op 0 2 (.op 1 2 (.op 2 2 (.op 3 1 (.op 4 2 (.op 5 2 (.op 6 2 (.op 7 1 (.op 8 2 (.nil)))))))))) (by kernel_rfl) (by kernel_rfl) ?_
        repeat (first | (refine CanT.skip rfl ?_ (fun K hK => ?_); (focus (go_simp; done)); go_simp; refine hK _ ?_; clear hK K) | (refine CanT.pur rfl ?_ ?_; (focus (go_simp; done)); refine ⟨?_, ?_, ?_⟩; rotate_left; (focus (intro w'; go_simp; rfl)); (focus (intro K hK; go_simp; refine hK _ ?_; clear hK K))) | (refine CanB.row rfl ?_ 49 _ rfl b1 (o1 + k * 33) (sgv x) rfl HC1.out HB1.out _ Tryd.underlying49 rfl (by rw [sgv_len Hla.out]; kernel_rfl) (fun K hK => ?_); (focus (go_simp; done)); go_simp; refine hK _ ?_; clear hK K) | (refine CanB.row rfl ?_ 49 _ rfl b2 (o2 + k * 33) (sgv y) rfl HC2.out HB2.out _ Tryd.underlying49 rfl (by rw [sgv_len Hlb.out]; kernel_rfl) (fun K hK => ?_); (focus (go_simp; done)); go_simp; refine hK _ ?_; clear hK K))
        refine CanT.done ?_
        have htk := take_beq (by rw [← Hn.out, ← Hm.out]) k (by rw [← Hn.out]; exact hkn) Ht.out
        rw [← Hx.out, ← Hy.out] at htk
        have Htk := Lib.hid htk
        clear htk
        by_cases hxy : x = y
        · have hb1 : ne = false := by rw [Hn0.out, hxy, beq_self_eq_true]; rfl
          subst hb1
          go_wp2_with fail
          go_roundg (n - (k + 1))
          case rel => exact ⟨k + 1, by omega, rfl, rfl, Htk.out.1 hxy, j + 1, rfl⟩
          case measure => have := Hq.out; omega
        · have hb1 : ne = true := by rw [Hn0.out]; simpa using hxy
          subst hb1
          go_wp2_with fail
          go_ret
          refine ⟨?_, j + 1, rfl⟩
          have hf : r = false := by
            rw [Hr.out]
            simpa using Htk.out.2 hxy
          rw [hf]
          rfl
      · have hkn2 : k = n := by omega
        have t1 : decide ((k : Int) < (n : Int)) = false := by rw [decide_eq_false_iff_not]; omega
        have t2 : ¬ k < n := by omega
        go_wp2_with fail
        go_ret
        refine ⟨?_, j, rfl⟩
        have ht := Ht.out
        rw [hkn2] at ht
        rw [List.take_of_length_le (by rw [← Hn.out]; exact Nat.le_refl _), List.take_of_length_le (by rw [← Hm.out]; exact Nat.le_refl _)] at ht
        have hf : r = true := by rw [Hr.out, ht]; exact beq_self_eq_true b
        rw [hf]
        rfl
  · have hf : r = false := by
      rw [hr]
      have : a ≠ b := fun e => hl (by rw [hn, hm, e])
      simpa using this
    subst hf
    have h1 : ¬ (n : Int) = (m : Int) := by omega
    have hnm : n ≤ 9223372036854775807 := by rw [hn]; exact hac
    have hmm : m ≤ 9223372036854775807 := by rw [hm]; exact hbc
    clear hn hm hr ha hb hac hbc
    go_enter Tryd.func14, Tryd.ntmps14
    go_wp2
    go_ret
    exact ⟨rfl, 0, rfl⟩
end Bk
end Go.Proofs.YtcbkhbnemhkheaaDoor
/- An index is made of sums. -/
namespace Go.Proofs.YtcbkhbnemhkheaaDoor
namespace Bk
open Go.RowKit Ba Sm Ro
set_option linter.unusedVariables false
set_option maxRecDepth 100000 in
set_option maxHeartbeats 1000000 in
theorem new_bad (size n : Int) (A : Option Addr) (m c : Nat) (hs : -9223372036854775808 ≤ size ∧ size ≤ 9223372036854775807) (hn : -9223372036854775808 ≤ n ∧ n ≤ 9223372036854775807) (hm : m ≤ 9223372036854775807) (w : World) (q : Int) (hq : check size n m = q) (h0 : q ≠ 0) :
    Calls Tryd.prog 15 #[.int .i64 size, .int .i64 n, .slice A m c] w fun e w' => e = .returned (.tuple #[.pointer none, .int .i64 q]) ∧ w = w' := by
  have hc := fun w => check_calls size n A m c hs hn hm w
  rw [hq] at hc
  have Hc := Lib.hid hc
  clear hc
  go_enter Tryd.func15, Tryd.ntmps15
  go_wp2_with (go_at_call 31; refine (Hc.out _).mono ?_; rintro e w1 ⟨rfl, rfl⟩)
  go_ret2
  exact ⟨rfl, rfl⟩
set_option maxRecDepth 100000 in
set_option maxHeartbeats 4000000 in
theorem new_good (z : Nat) (n : Int) (l : List Sg) (A : Option Addr) (c : Nat) (hn : -9223372036854775808 ≤ n ∧ n ≤ 9223372036854775807) (w : World) (hq : check (z : Int) n l.length = 0) (hr : ReadRow sgv 33 w w.heap.size A l) (hwf : ∀ s ∈ l, WfS s) :
    Calls Tryd.prog 15 #[.int .i64 (z : Int), .int .i64 n, .slice A l.length c] w
      fun e w' => ∃ g, e = .returned (.tuple #[.pointer (some ⟨g, 0, none⟩), .int .i64 0]) ∧ w.heap.size ≤ g ∧ IsX w' g z l ∧ Below w.heap.size w w' := by
  have hb : 1 ≤ z ∧ z ≤ 4096 ∧ l.length ≤ 4096 := by
    unfold check at hq
    split at hq
    · omega
    · split at hq
      · omega
      · split at hq <;> omega
  obtain ⟨hz1, hz2, hl1⟩ := hb
  have hc := fun w => check_calls (z : Int) n A l.length c (by omega) hn (by omega) w
  rw [hq] at hc
  have Hc := Lib.hid hc
  obtain ⟨N, hN⟩ : ∃ N, N = l.length := ⟨_, rfl⟩
  rw [← hN] at Hc hl1 ⊢
  have HN := Lib.hid hN
  have Hr := Lib.hid hr
  have Hwf := Lib.hid hwf
  have hmm := @run_makeMap Tryd.prog
  obtain ⟨i0, hi0⟩ := isRec_of infoSt
  have Hi := Lib.hid hi0
  clear hc hN hr hwf hq hi0
  go_enter Tryd.func15, Tryd.ntmps15
  go_wp2_with (go_at_call 31; refine (Hc.out _).mono ?_; rintro e w1 ⟨rfl, rfl⟩)
  have hG0 : IsG ((w.alloc (.map #[] 0)).alloc (.cells #[.int .i64 (z : Int), .int .i64 (N : Int), .map (some w.heap.size)] 68)) (w.heap.size + 2) w.heap.size 0 (grpK z l 0) :=
    IsG.made w _ (w.heap.size + 2) ((Below.refl _ _).alloc (by simp) _) (by omega) (by simp)
  have hX0 : Blk ((w.alloc (.map #[] 0)).alloc (.cells #[.int .i64 (z : Int), .int .i64 (N : Int), .map (some w.heap.size)] 68)) (w.heap.size + 1) 68 #[.int .i64 (z : Int), .int .i64 (N : Int), .map (some w.heap.size)] := by
    have := heap_alloc_new (w.alloc (.map #[] 0)) (.cells #[.int .i64 (z : Int), .int .i64 (N : Int), .map (some w.heap.size)] 68)
    simpa [Blk] using this
  have hB0 : Below w.heap.size w ((w.alloc (.map #[] 0)).alloc (.cells #[.int .i64 (z : Int), .int .i64 (N : Int), .map (some w.heap.size)] 68)) := ((Below.refl _ _).alloc (Nat.le_refl _) _).alloc (by simp) _
  have HG0 := Lib.hid hG0
  have HX0 := Lib.hid hX0
  have HB0 := Lib.hid hB0
  clear hG0 hX0 hB0
  go_loopg [27] N (fun q v27 wr => ∃ (k m : Nat), k ≤ N ∧ q = N - k ∧ v27 = .int .i64 (k : Int) ∧ m ≤ k ∧ Blk wr (w.heap.size + 1) 68 #[.int .i64 (z : Int), .int .i64 (N : Int), .map (some w.heap.size)] ∧ IsG wr (w.heap.size + 2) w.heap.size m (grpK z l k) ∧ Below w.heap.size w wr)
  case atStart => exact ⟨0, 0, by omega, rfl, rfl, by omega, HX0.out, HG0.out, HB0.out⟩
  case round =>
    obtain ⟨k, m, hk, hq, rfl, hmk, hX, hG, hB⟩ := hrel
    have Hq := Lib.hid hq
    have HX := Lib.hid hX
    have HG := Lib.hid hG
    have HB := Lib.hid hB
    clear hq hX hG hB HX0 HG0 HB0
    by_cases hkn : k < N
    · have t1 : decide ((k : Int) < (N : Int)) = true := by rw [decide_eq_true_eq]; omega
      obtain ⟨b1, o1, rfl, hb1, hc1⟩ := Hr.out.at_ (sg_get (l := l) (k := k) (by rw [← HN.out]; exact hkn))
      obtain ⟨x1, x2, hx⟩ : ∃ x1 x2, sg l k = (x1, x2) := ⟨_, _, rfl⟩
      have hw : WfS (x1, x2) := by rw [← hx]; exact Hwf.out _ (List.mem_of_getElem? (sg_get (l := l) (k := k) (by rw [← HN.out]; exact hkn)))
      rw [hx] at hc1
      have HC1 : Hid (wr.rangeAt b1 (o1 + k * 33) (sgv (x1, x2))) := Lib.hid fun j v hv => (HB.out.cell (p := ⟨b1, o1 + k * 33 + j, none⟩) hb1).trans (hc1 j v hv)
      have Hl2 : Hid (x2.length = 32) := Lib.hid hw.2
      have hx32 : x1 < 4294967296 := hw.1
      have Hx := Lib.hid hx
      clear hc1 hb1 hw hx
      go_wp2_with (first
        | (refine wpList_load_mid rfl 49 (.tmp 30) rfl b1 (o1 + k * 33) rfl (sgv (x1, x2)) _ HC1.out Tryd.underlying49 rfl (by rw [sgv_len Hl2.out]; kernel_rfl) ?_)
        | (refine wpList_store_blk rfl 49 (.tmp 11) (.tmp 31) rfl wr.heap.size 0 49 [] (.int .u32 0 :: List.replicate 32 (.int .u8 0)) [] (sgv (x1, x2)) rfl rfl (heap_alloc_new _ _) rfl (by rw [sgv_len Hl2.out]; rfl) (by rw [sgv_len Hl2.out]; kernel_rfl) (sgv_one _) ?_; intro w2 hS2 hg2))
      have hb2 : Below wr.heap.size wr w2 := only_after ((Below.refl _ _).alloc (Nat.le_refl _) _) hg2 (Nat.le_refl _)
      have hgs := hS2.lt
      obtain ⟨f, v, hvf, hsome, hM, hO, hbm, hbs, hback⟩ := HG.out.at_ hx32
      have hS : Hid (w2.drew.rangeAt wr.heap.size 0 (sgv (x1, x2))) := Lib.hid (show w2.rangeAt wr.heap.size 0 (sgv (x1, x2)) from Blk.range [] (sgv (x1, x2)) [] hS2)
      have HX2 := Lib.hid ((HX.out.below hb2 HX.out.lt).drew)
      have HB2 := Lib.hid ((HB.out.trans (hb2.mono HB.out.size)).drew)
      have HM2 : Hid (IsM Tryd.prog 33 w2.drew w.heap.size m f) := Lib.hid (hM.below hb2.drew hM.lt)
      have HO2 := Lib.hid ((hO.keptB hb2).drew)
      have Hg2 := Lib.hid (only_of_below hb2.drew v.ownBlock)
      have Hv : Hid (∀ q, v.ownBlock = some q → w.heap.size + 2 ≤ q ∧ q < wr.heap.size) := Lib.hid (fun q hq => hO.ge q hq)
      have Hback := Lib.hid hback
      have Hgs : Hid (wr.heap.size < w2.drew.heap.size) := Lib.hid hgs
      have hwrs : w.heap.size + 2 ≤ wr.heap.size := hbs
      have hlk : ∀ w', IsM Tryd.prog 33 w' w.heap.size m f → (Instr.lookup 66 (.map (some w.heap.size)) (.int .u32 (x1 : Int)) false).run Tryd.prog w' = .ok v w' := fun w' h => by
        rw [hvf]
        exact h.look Tryd.underlying33 Tryd.underlying66 (zeroE w') hx32
      obtain ⟨i, hi⟩ : ∃ i, k * z = i := ⟨_, rfl⟩
      have hi2 : (k : Int) * (z : Int) = (i : Int) := by rw [← hi, Int.natCast_mul]
      have hi3 : i ≤ 16777216 := by rw [← hi]; exact Nat.mul_le_mul (show k ≤ 4096 by omega) hz2
      have hiw : IntKind.i64.wrap (i : Int) = (i : Int) := by rw [IntKind.wrap_i64]; omega
      have Hik := Lib.hid hi
      have hlen := grpK_len z l k x1
      obtain ⟨G, hG⟩ : ∃ G, G = grpK z l k x1 := ⟨_, rfl⟩
      rw [← hG] at hlen HO2 Hback
      have HGx := Lib.hid hG
      have hl2 : (stv (x2, i)).length = 33 := stv_len Hl2.out
      have Hl3 := Lib.hid hl2
      clear hvf hsome hM hO hbm hbs hback hb2 hgs hS2 hg2 HX HG HB HC1 hi hG hl2
      go_wp2_with fail
      have hF0 : w2.drew.cell? ⟨w.heap.size + 1, 2, none⟩ = some (.map (some w.heap.size)) := by rw [Blk.cell HX2.out]; rfl
      refine CanT.region (fun w' => w'.cell? ⟨w.heap.size + 1, 2, none⟩ = some (.map (some w.heap.size)) ∧ w'.rangeAt wr.heap.size 0 (sgv (x1, x2))) 21 (.op 0 2 (.op 1 2 (.op 2 2 (.op 3 1 (.op 4 2 (.op 5 1 (.op 6 2 (.op 7 2 (.op 8 2 (.op 9 1 (.op 10 2 (.op 11 1 (.op 13 2 (.op 14 1 (.op 15 2 (.op 16 2 (.op 17 2 (.op 18 2 (.fork (.op 12 0 (.op 19 0 (.op 20 0 (.op 21 0 (.nil))))) (.op 19 0 (.op 12 0 (.op 20 0 (.op 21 0 (.nil)))))))))))))))))))))))) (by kernel_rfl) (by kernel_rfl) ⟨hF0, hS.out⟩ ?_
      generalize w2.drew = W at *
      have HF0 := Lib.hid hF0
      have hlkW := hlk W HM2.out
      have hFk : ∀ w', W.grownBy w' v.ownBlock → (w'.cell? ⟨w.heap.size + 1, 2, none⟩ = some (.map (some w.heap.size)) ∧ w'.rangeAt wr.heap.size 0 (sgv (x1, x2))) ∧ Blk w' (w.heap.size + 1) 68 #[.int .i64 (z : Int), .int .i64 (N : Int), .map (some w.heap.size)] ∧ IsM Tryd.prog 33 w' w.heap.size m f ∧ Below w.heap.size w w' := by
        intro w' hg
        have n1 : ∀ q, q < w.heap.size + 2 ∨ q = wr.heap.size → some q ≠ v.ownBlock := fun q hq e => by
          have := Hv.out q e.symm
          omega
        have hbl := HX2.out.grown hg (n1 _ (.inl (by omega)))
        refine ⟨⟨by rw [Blk.cell hbl]; rfl, fun j u hu => ?_⟩, hbl, HM2.out.grown hg (n1 _ (.inl (by omega))), ?_⟩
        · rw [World.cell?_of_block (hg.block wr.heap.size Hgs.out (n1 _ (.inr rfl)))]
          exact hS.out j u hu
        · refine ⟨hg.os.trans HB2.out.os, hg.tape.trans HB2.out.tape, hg.output.trans HB2.out.output, Nat.le_trans HB2.out.size hg.size, fun q hq => ?_⟩
          rw [hg.block q (Nat.lt_of_lt_of_le hq HB2.out.size) (n1 q (.inl (by omega)))]
          exact HB2.out.block q hq
      have HFk := Lib.hid hFk
      have hal := (World.grownBy_alloc W (.cells (stv (x2, i)).toArray 71) v.ownBlock)
      have Hal := Lib.hid hal
      have hlkA := hlk (W.alloc (.cells (stv (x2, i)).toArray 71)) (hFk _ hal).2.2.1
      clear hFk hF0 hal hlk
      repeat (first | (refine CanT.skip rfl ?_ (fun K hK => ?_); (focus (go_simp; done)); go_simp; refine hK _ ?_; clear hK K) | (refine CanT.pur rfl ?_ ?_; (focus (go_simp; done)); refine ⟨?_, ?_, ?_⟩; rotate_left; (focus (intro w'; go_simp; rfl)); (focus (intro K hK; go_simp; refine hK _ ?_; clear hK K))) | (refine CanT.cellF rfl ?_ (.map (some w.heap.size)) (.map (some w.heap.size)) ⟨w.heap.size + 1, 2, none⟩ (fun w' h => h.1) ?_ (fun K hK => ?_); (focus (go_simp; done)); (focus (intro w' hc'; go_simp; (try rfl))); go_simp; refine hK _ ?_; clear hK K) | (refine CanT.cellF rfl ?_ (.int .u32 (x1 : Int)) (.int .u32 (x1 : Int)) ⟨wr.heap.size, 0, none⟩ (fun w' h => h.2 0 _ rfl) ?_ (fun K hK => ?_); (focus (go_simp; done)); (focus (intro w' hc'; go_simp; (try rfl))); go_simp; refine hK _ ?_; clear hK K) | (refine CanT.heldR rfl ?_ 47 _ rfl wr.heap.size (1) (bvs x2) rfl (fun w' h j u hu => by have := h.2 (j + 1) u (by simpa [sgv] using hu); rwa [Nat.zero_add, Nat.add_comm j 1] at this) _ Tryd.underlying47 rfl (by rw [bvs_length, Hl2.out]; kernel_rfl) (fun K hK => ?_); (focus (go_simp; done)); go_simp; refine hK _ ?_; clear hK K) | (refine CanT.bld rfl ?_ 71 _ rfl #[(0, .agg (bvs x2).toArray), (1, .int .i64 (i : Int))] rfl _ (fun w' => run_strong x2 i Hl2.out w') (fun K hK => ?_); (focus (go_simp; done)); go_simp; refine hK _ ?_; clear hK K))
      refine CanT.both ?_ ?_
      · refine CanT.imp rfl (fun K hK => ?_)
        go_simp
        refine hK.out _ _ ((HFk.out _ (World.grownBy.refl _ _)).1) ?_
        clear hK K
        refine CanT.imp rfl (fun K hK => ?_)
        refine step_bslice _ ?_ 69 71 1 _ rfl Tryd.underlying69 i0 33 40 Hi.out (by omega) (by omega) [(0, .agg (stv (x2, i)).toArray)] rfl (stv (x2, i)) (fun Z hZ => fill_one 33 (.agg (stv (x2, i)).toArray) Hl3.out Z hZ) ?_
        focus (go_simp; done)
        (try go_simp)
        refine hK.out _ _ ((HFk.out _ Hal.out).1) ?_
        clear hK K
        refine CanT.imp rfl (fun K hK => ?_)
        refine step_appR _ ?_ (.tmp 44) (.tmp 51) 69 rfl (w.heap.size + 2) 71 i0 40 Tryd.underlying69 Hi.out (by omega) v G rfl (HO2.out.alloc _) _ _ 1 1 [(x2, i)] rfl rfl (ReadRow.lit1 W 71 _ (x2, i) rfl Hl3.out (stv_one _)) (by simp; omega) (by simp; omega) (by have := Hgs.out; simp; omega) ?_
        focus (go_simp; done)
        intro v3 w3 ho3 hg3 hloc3 _
        have hgW : W.grownBy w3 v.ownBlock := only_trans Hal.out hg3
        obtain ⟨hF3, hX3, hM3, hB3⟩ := HFk.out _ hgW
        have Ho3 := Lib.hid ho3
        have HX3 := Lib.hid hX3
        have HM3 := Lib.hid hM3
        have HB3 := Lib.hid hB3
        have HF3 := Lib.hid hF3
        have Hg3 := Lib.hid (only_trans Hg2.out hgW)
        have Hloc3 : Hid (v3.ownBlock = v.ownBlock ∨ ∃ q, v3.ownBlock = some q ∧ wr.heap.size ≤ q) := Lib.hid (hloc3.imp id (fun h => ⟨_, h, by have := Hgs.out; simp; omega⟩))
        clear ho3 hg3 hloc3 hgW hF3 hX3 hM3 hB3
        (try go_simp)
        refine hK.out _ _ (HF3.out) ?_
        clear hK K
        refine CanT.last rfl (fun K hK => ?_)
        refine step_mapUpdate_any _ ?_ (.tmp 35) (.tmp 37) (.tmp 52) 66 rfl 33 69 Tryd.underlying33 Tryd.underlying66 w.heap.size m f rfl HM3.out (by unfold maxLen; omega) x1 v3 rfl rfl hx32 ?_
        focus (go_simp; done)
        intro w4 hM4 hg4
        (try go_simp)
        refine hK.out _ _ ?_
        clear hK K
        refine CanT.done ?_
        have hG4 := Hback.out w3 w4 v3 (x2, i) Hg3.out Ho3.out Hloc3.out hM4 hg4
        have hX4 := HX3.out.grown hg4 (by simp)
        have hB4 : Below w.heap.size w w4 := HB3.out.trans (below_of_only hg4 (Nat.le_refl _) HB3.out.size)
        have HG4 := Lib.hid hG4
        have HX4 := Lib.hid hX4
        have HB4 := Lib.hid hB4
        clear hG4 hX4 hB4 hM4 hg4
        go_wp2
        go_roundg (N - (k + 1))
        case rel =>
          refine ⟨k + 1, m + 1, by omega, rfl, rfl, by omega, HX4.out, ?_, HB4.out⟩
          have e : grpK z l (k + 1) = fun j => if j = x1 then G ++ [(x2, i)] else grpK z l k j := by
            funext j
            rw [grpK_succ, Hx.out]
            by_cases hj : x1 = j
            · subst hj
              simp only [if_true]
              rw [← HGx.out, Hik.out]
            · rw [if_neg hj, if_neg (Ne.symm hj)]
          rw [e]
          exact HG4.out
        case measure => have := Hq.out; omega
      · refine CanT.imp rfl (fun K hK => ?_)
        refine step_bslice _ ?_ 69 71 1 _ rfl Tryd.underlying69 i0 33 40 Hi.out (by omega) (by omega) [(0, .agg (stv (x2, i)).toArray)] rfl (stv (x2, i)) (fun Z hZ => fill_one 33 (.agg (stv (x2, i)).toArray) Hl3.out Z hZ) ?_
        focus (go_simp; done)
        (try go_simp)
        refine hK.out _ _ ((HFk.out _ Hal.out).1) ?_
        clear hK K
        refine CanT.imp rfl (fun K hK => ?_)
        go_simp
        refine hK.out _ _ ((HFk.out _ Hal.out).1) ?_
        clear hK K
        refine CanT.imp rfl (fun K hK => ?_)
        refine step_appR _ ?_ (.tmp 44) (.tmp 51) 69 rfl (w.heap.size + 2) 71 i0 40 Tryd.underlying69 Hi.out (by omega) v G rfl (HO2.out.alloc _) _ _ 1 1 [(x2, i)] rfl rfl (ReadRow.lit1 W 71 _ (x2, i) rfl Hl3.out (stv_one _)) (by simp; omega) (by simp; omega) (by have := Hgs.out; simp; omega) ?_
        focus (go_simp; done)
        intro v3 w3 ho3 hg3 hloc3 _
        have hgW : W.grownBy w3 v.ownBlock := only_trans Hal.out hg3
        obtain ⟨hF3, hX3, hM3, hB3⟩ := HFk.out _ hgW
        have Ho3 := Lib.hid ho3
        have HX3 := Lib.hid hX3
        have HM3 := Lib.hid hM3
        have HB3 := Lib.hid hB3
        have HF3 := Lib.hid hF3
        have Hg3 := Lib.hid (only_trans Hg2.out hgW)
        have Hloc3 : Hid (v3.ownBlock = v.ownBlock ∨ ∃ q, v3.ownBlock = some q ∧ wr.heap.size ≤ q) := Lib.hid (hloc3.imp id (fun h => ⟨_, h, by have := Hgs.out; simp; omega⟩))
        clear ho3 hg3 hloc3 hgW hF3 hX3 hM3 hB3
        (try go_simp)
        refine hK.out _ _ (HF3.out) ?_
        clear hK K
        refine CanT.last rfl (fun K hK => ?_)
        refine step_mapUpdate_any _ ?_ (.tmp 35) (.tmp 37) (.tmp 52) 66 rfl 33 69 Tryd.underlying33 Tryd.underlying66 w.heap.size m f rfl HM3.out (by unfold maxLen; omega) x1 v3 rfl rfl hx32 ?_
        focus (go_simp; done)
        intro w4 hM4 hg4
        (try go_simp)
        refine hK.out _ _ ?_
        clear hK K
        refine CanT.done ?_
        have hG4 := Hback.out w3 w4 v3 (x2, i) Hg3.out Ho3.out Hloc3.out hM4 hg4
        have hX4 := HX3.out.grown hg4 (by simp)
        have hB4 : Below w.heap.size w w4 := HB3.out.trans (below_of_only hg4 (Nat.le_refl _) HB3.out.size)
        have HG4 := Lib.hid hG4
        have HX4 := Lib.hid hX4
        have HB4 := Lib.hid hB4
        clear hG4 hX4 hB4 hM4 hg4
        go_wp2
        go_roundg (N - (k + 1))
        case rel =>
          refine ⟨k + 1, m + 1, by omega, rfl, rfl, by omega, HX4.out, ?_, HB4.out⟩
          have e : grpK z l (k + 1) = fun j => if j = x1 then G ++ [(x2, i)] else grpK z l k j := by
            funext j
            rw [grpK_succ, Hx.out]
            by_cases hj : x1 = j
            · subst hj
              simp only [if_true]
              rw [← HGx.out, Hik.out]
            · rw [if_neg hj, if_neg (Ne.symm hj)]
          rw [e]
          exact HG4.out
        case measure => have := Hq.out; omega
    · have hkn2 : k = N := by omega
      have t1 : decide ((k : Int) < (N : Int)) = false := by rw [decide_eq_false_iff_not]; omega
      have t2 : ¬ k < N := by omega
      go_wp2
      go_ret2
      refine ⟨w.heap.size + 1, rfl, by omega, ⟨w.heap.size, w.heap.size + 2, m, ?_, ?_⟩, HB.out⟩
      · rw [← HN.out]; exact HX.out
      · rw [← HN.out, ← hkn2]; exact HG.out
end Bk
end Go.Proofs.YtcbkhbnemhkheaaDoor
/- An index is asked: its size, its length, whether a block has a weak sum. -/
namespace Go.Proofs.YtcbkhbnemhkheaaDoor
namespace Bk
open Go.RowKit Ba Sm Ro
set_option linter.unusedVariables false
set_option maxRecDepth 100000 in
theorem xsize_calls (w : World) (g z : Nat) (l : List Sg) (h : IsX w g z l) : Calls Tryd.prog 18 #[.pointer (some ⟨g, 0, none⟩)] w fun e w' => e = .returned (.int .i64 (z : Int)) ∧ w = w' := by
  obtain ⟨bm, base, m, h1, h2⟩ := h
  have hc := h1.cell 0
  clear h1 h2
  go_enter Tryd.func18, Tryd.ntmps18
  go_wp2
  go_ret
  exact ⟨rfl, rfl⟩
set_option maxRecDepth 100000 in
theorem xlen_calls (w : World) (g z : Nat) (l : List Sg) (h : IsX w g z l) : Calls Tryd.prog 19 #[.pointer (some ⟨g, 0, none⟩)] w fun e w' => e = .returned (.int .i64 (l.length : Int)) ∧ w = w' := by
  obtain ⟨bm, base, m, h1, h2⟩ := h
  have hc := h1.cell 1
  clear h1 h2
  go_enter Tryd.func19, Tryd.ntmps19
  go_wp2
  go_ret
  exact ⟨rfl, rfl⟩
set_option maxRecDepth 100000 in
theorem xsize_nil (w : World) : Calls Tryd.prog 18 #[.pointer none] w fun e w' => e = .returned (.int .i64 0) ∧ w = w' := by
  go_enter Tryd.func18, Tryd.ntmps18
  go_wp2
  go_ret
  exact ⟨rfl, rfl⟩
set_option maxRecDepth 100000 in
theorem xlen_nil (w : World) : Calls Tryd.prog 19 #[.pointer none] w fun e w' => e = .returned (.int .i64 0) ∧ w = w' := by
  go_enter Tryd.func19, Tryd.ntmps19
  go_wp2
  go_ret
  exact ⟨rfl, rfl⟩
set_option maxRecDepth 100000 in
theorem weak_nil (w : World) (x : Int) : Calls Tryd.prog 17 #[.pointer none, .int .u32 x] w fun e w' => e = .returned (.bool false) ∧ w = w' := by
  go_enter Tryd.func17, Tryd.ntmps17
  go_wp2
  go_ret
  exact ⟨rfl, rfl⟩
def hasWeak (l : List Sg) (x : Nat) : Bool := (List.range l.length).any fun i => (sg l i).1 == x
theorem hasWeak_grp (z : Nat) (l : List Sg) (x : Nat) : (!(grpK z l l.length x).isEmpty) = hasWeak l x := by
  rw [Bool.eq_iff_iff]
  unfold hasWeak
  rw [List.any_eq_true]
  have h := grpK_nil_iff z l l.length x
  constructor
  · intro h1
    have h2 : grpK z l l.length x ≠ [] := by intro e; rw [e] at h1; cases h1
    rw [ne_eq, h] at h2
    apply Classical.byContradiction
    intro h3
    apply h2
    intro i hi he
    exact h3 ⟨i, by simpa using hi, by simpa using he⟩
  · rintro ⟨i, hi, he⟩
    have h2 : grpK z l l.length x ≠ [] := fun e => h.1 e i (by simpa using hi) (by simpa using he)
    cases hg : grpK z l l.length x with
    | nil => exact absurd hg h2
    | cons a r => rfl
set_option maxRecDepth 100000 in
theorem weak_calls (w : World) (g z : Nat) (l : List Sg) (h : IsX w g z l) (x : Nat) (hx : x < 4294967296) : Calls Tryd.prog 17 #[.pointer (some ⟨g, 0, none⟩), .int .u32 (x : Int)] w fun e w' => e = .returned (.bool (hasWeak l x)) ∧ w = w' := by
  obtain ⟨bm, base, m, h1, h2⟩ := h
  have hc := h1.cell 2
  obtain ⟨f, v, hv, hs, hM, _⟩ := h2.at_ hx
  have hlk := hM.look_ok Tryd.underlying33 Tryd.underlying66 (zeroE w) hx
  rw [hs, hasWeak_grp] at hlk
  generalize hasWeak l x = r at hlk ⊢
  generalize (f x).getD (.slice none 0 0) = u at hlk
  clear h1 h2 hv hs hM
  go_enter Tryd.func17, Tryd.ntmps17
  go_wp2
  go_ret
  exact ⟨rfl, rfl⟩
end Bk
end Go.Proofs.YtcbkhbnemhkheaaDoor
/- What the operations on floats and complex numbers do where all parts are whole numbers. -/
namespace Go.Proofs.YtcbkhbnemhkheaaDoor
namespace Flo
set_option linter.unusedVariables false
def F (a : Int) : Value := .float .f64 (FL a)
def C (a b : Int) : Value := .complex .f64 (FL a) (FL b)
def ok53 (a : Int) : Prop := a.natAbs < 9007199254740992
theorem bin_c (op : BinOp) (t : TypeId) (a b c d : Int) : binOp op t (C a b) (C c d) = Op.complexOp op .f64 (FL a) (FL b) (FL c) (FL d) := by
  cases op <;> rfl
theorem arith_add (a c : Int) (ha : ok53 a) (hc : ok53 c) (hs : ok53 (a + c)) : Op.Complex.arith .add .f64 (FL a) (FL c) = pure (FL (a + c)) := by
  unfold Op.Complex.arith Op.floatArith
  have : FloatKind.f64.format.add (FL a) (FL c) = some (FL (a + c)) := add_FL a c ha hc hs
  simp [this]
theorem arith_sub (a c : Int) (ha : ok53 a) (hc : ok53 c) (hs : ok53 (a - c)) : Op.Complex.arith .sub .f64 (FL a) (FL c) = pure (FL (a - c)) := by
  unfold Op.Complex.arith Op.floatArith
  have : FloatKind.f64.format.sub (FL a) (FL c) = some (FL (a - c)) := sub_FL a c ha hc hs
  simp [this]
theorem arith_mul (a c : Int) (ha : ok53 a) (hc : ok53 c) (h0 : 0 ≤ a) (h1 : 0 ≤ c) (hs : ok53 (a * c)) : Op.Complex.arith .mul .f64 (FL a) (FL c) = pure (FL (a * c)) := by
  unfold Op.Complex.arith Op.floatArith
  have : FloatKind.f64.format.mul (FL a) (FL c) = some (FL (a * c)) := mul_FL a c ha hc h0 h1 hs
  simp [this]
theorem c_add (t : TypeId) (a b c d : Int) (ha : ok53 a) (hb : ok53 b) (hc : ok53 c) (hd : ok53 d) (h1 : ok53 (a + c)) (h2 : ok53 (b + d)) : binOp .add t (C a b) (C c d) = pure (C (a + c) (b + d)) := by
  rw [bin_c]
  unfold Op.complexOp
  simp only [arith_add a c ha hc h1, arith_add b d hb hd h2]
  rfl
theorem c_sub (t : TypeId) (a b c d : Int) (ha : ok53 a) (hb : ok53 b) (hc : ok53 c) (hd : ok53 d) (h1 : ok53 (a - c)) (h2 : ok53 (b - d)) : binOp .sub t (C a b) (C c d) = pure (C (a - c) (b - d)) := by
  rw [bin_c]
  unfold Op.complexOp
  simp only [arith_sub a c ha hc h1, arith_sub b d hb hd h2]
  rfl
/-- a whole number times '1 + n i' -/
theorem c_mul1 (t : TypeId) (a n : Int) (ha : ok53 a) (hn : ok53 n) (h0 : 0 ≤ a) (h1 : 0 ≤ n) (h2 : ok53 (a * n)) : binOp .mul t (C a 0) (C 1 n) = pure (C a (a * n)) := by
  rw [bin_c]
  have z : ok53 0 := by unfold ok53; decide
  have o : ok53 1 := by unfold ok53; decide
  have e1 := arith_mul a 1 ha o h0 (by omega) (by rw [Int.mul_one]; exact ha)
  have e2 := arith_mul 0 n z hn (by omega) h1 (by rw [Int.zero_mul]; exact z)
  have e3 := arith_sub a 0 ha z (by rw [Int.sub_zero]; exact ha)
  have e4 := arith_mul a n ha hn h0 h1 h2
  have e5 := arith_mul 0 1 z o (by omega) (by omega) (by rw [Int.zero_mul]; exact z)
  have e6 := arith_add (a * n) 0 h2 z (by rw [Int.add_zero]; exact h2)
  rw [Int.mul_one] at e1
  rw [Int.zero_mul] at e2 e5
  rw [Int.sub_zero] at e3
  rw [Int.add_zero] at e6
  unfold Op.complexOp Op.Complex.conv Op.Complex.product Op.Complex.mul Op.Complex.sub Op.Complex.add
  simp [e1, e2, e3, e4, e5, e6]
  rfl
theorem order_F (a b : Int) (ha : ok53 a) (hb : ok53 b) : FloatKind.f64.format.order (FL a) (FL b) = some (compare a b) := order_FL a b ha hb
theorem cmp_eq (a b : Int) : (compare a b = .eq) ↔ a = b := by
  show compareOfLessAndEq a b = .eq ↔ _
  unfold compareOfLessAndEq
  by_cases h : a < b
  · simp [h]; omega
  · by_cases h2 : a = b <;> simp [h, h2]
theorem cmp_lt (a b : Int) : (compare a b = .lt) ↔ a < b := by
  show compareOfLessAndEq a b = .lt ↔ _
  unfold compareOfLessAndEq
  by_cases h : a < b
  · simp [h]
  · by_cases h2 : a = b <;> simp [h, h2]
theorem cmp_gt (a b : Int) : (compare a b = .gt) ↔ b < a := by
  show compareOfLessAndEq a b = .gt ↔ _
  unfold compareOfLessAndEq
  by_cases h : a < b
  · simp [h]; omega
  · by_cases h2 : a = b
    · simp [h2]
    · simp [h, h2]; omega
theorem f_neq (t : TypeId) (a b : Int) (ha : ok53 a) (hb : ok53 b) : binOp .neq t (F a) (F b) = pure (.bool (decide (a ≠ b))) := by
  unfold F
  rw [binOp_float_cmp_neq, order_F a b ha hb]
  congr 2
  rw [Bool.eq_iff_iff]
  simp [cmp_eq]
theorem f_eql (t : TypeId) (a b : Int) (ha : ok53 a) (hb : ok53 b) : binOp .eql t (F a) (F b) = pure (.bool (decide (a = b))) := by
  unfold F
  rw [binOp_float_cmp_eql, order_F a b ha hb]
  congr 2
  rw [Bool.eq_iff_iff]
  simp [cmp_eq]
theorem f_lss (t : TypeId) (a b : Int) (ha : ok53 a) (hb : ok53 b) : binOp .lss t (F a) (F b) = pure (.bool (decide (a < b))) := by
  unfold F
  rw [binOp_float_cmp_lss, order_F a b ha hb]
  congr 2
  rw [Bool.eq_iff_iff]
  simp [cmp_lt]
theorem f_gtr (t : TypeId) (a b : Int) (ha : ok53 a) (hb : ok53 b) : binOp .gtr t (F a) (F b) = pure (.bool (decide (b < a))) := by
  unfold F
  rw [binOp_float_cmp_gtr, order_F a b ha hb]
  congr 2
  rw [Bool.eq_iff_iff]
  simp [cmp_gt]
section
variable {P : Program} (w : World)
theorem run_int_of (src dst : TypeId) (a : Int) (ha : ok53 a) (hs : (P.underlying src).isSome = true) (hd : P.underlying dst = some (.int .i64)) : (convert src dst (F a)).run P w = .ok (.int .i64 a) w := by
  refine run_convert_float_int (P := P) w src dst .f64 .i64 (FL a) a hs hd ?_
  unfold floatToIntVal
  have : (FloatKind.f64.decode (FL a)).toInt .zero = some a := toInt_FL a ha
  rw [this]
  have h : IntKind.i64.min ≤ a ∧ a ≤ IntKind.i64.max := by
    unfold ok53 at ha
    show (-9223372036854775808 : Int) ≤ a ∧ a ≤ 9223372036854775807
    omega
  show (if IntKind.i64.min ≤ a ∧ a ≤ IntKind.i64.max then some a else none) = some a
  rw [if_pos h]
theorem run_of_int (src dst : TypeId) (q : IntKind) (a : Int) (hs : (P.underlying src).isSome = true) (hd : P.underlying dst = some (.float .f64)) : (convert src dst (.int q a)).run P w = .ok (F a) w := by
  exact run_convert_int_float (P := P) w src dst q .f64 a hs hd
end
end Flo
end Go.Proofs.YtcbkhbnemhkheaaDoor
/- bytes.Clone. -/
namespace Go.Proofs.YtcbkhbnemhkheaaDoor
namespace Cl
open Go.RowKit Ba
set_option linter.unusedVariables false
theorem info5 : (Tryd.prog.info? 5).map (fun i => (i.zero, i.size, i.bytes)) = some (some (.int .u8 0), 1, 1) := by kernel_rfl

set_option maxRecDepth 100000 in
set_option maxHeartbeats 400000 in
theorem clone_calls (l : List UInt8) (A : Option Addr) (c : Nat) (hc : l.length ≤ c) (hl : l.length ≤ 140737488355328) (w : World) (hr : ReadB w w.heap.size A l) : Calls Tryd.prog 63 #[.slice A l.length c] w
    fun e w' => ∃ v, e = .returned v ∧ OwnB w' w.heap.size 5 v l ∧ Below w.heap.size w w' := by
  obtain ⟨i0, hi0⟩ := isByte_of info5
  have Hi := Lib.hid hi0
  have Hr := Lib.hid hr
  clear hi0 hr
  rcases A with _ | ad
  · have hl0 : l = [] := by
      rcases l with _ | ⟨x, l⟩
      · rfl
      · obtain ⟨_, _, hx, _⟩ := Hr.out (by simp)
        cases hx
    subst hl0
    have hnil := fun (w : World) => Lib.run_eql_slice_nil (P := Tryd.prog) w 22 5 none 0 c 0 0 Tryd.underlying22
    simp only [List.length_nil]
    go_enter Tryd.func63, Tryd.ntmps63
    go_wp2
    go_ret
    exact ⟨_, rfl, OwnB.nil, Below.refl _ _⟩
  · have hnil := fun (w : World) => Lib.run_eql_slice_nil (P := Tryd.prog) w 22 5 (some ad) l.length c 0 0 Tryd.underlying22
    go_enter Tryd.func63, Tryd.ntmps63
    have hown0 : OwnB (w.alloc (.cells #[] 5)) w.heap.size 5 (.slice (some ⟨w.heap.size, 0, none⟩) 0 0) [] := OwnB.lit0 w 5 w.heap.size w.heap.size rfl (Nat.le_refl _)
    have hr0 : ReadB (w.alloc (.cells #[] 5)) w.heap.size (some ad) l := Hr.out.alloc (Nat.le_refl _) _
    have Ho0 := Lib.hid hown0
    have Hr0 := Lib.hid hr0
    clear hown0 hr0
    go_wp2_with (at_builtin; go_loud (refine wpList_appB _ rfl (.tmp 5) (.tmp 6) 22 rfl w.heap.size 5 i0 Tryd.underlying22 Hi.out _ [] rfl Ho0.out w.heap.size (some ad) _ c l rfl rfl Hr0.out (by simp; omega) (by simp) ?_); intro v1 w1 ho1 _ _ hb1)
    go_ret
    rw [List.nil_append] at ho1
    exact ⟨v1, rfl, ho1, ((Below.refl _ _).alloc (Nat.le_refl _) _).trans hb1⟩
theorem cloneN {l : List UInt8} {A : Option Addr} {n c : Nat} {w : World} (hn : n = l.length) (hc : l.length ≤ c) (hl : l.length ≤ 140737488355328) (hr : ReadB w w.heap.size A l) : Calls Tryd.prog 63 #[.slice A n c] w
    fun e w' => ∃ v, e = .returned v ∧ OwnB w' w.heap.size 5 v l ∧ Below w.heap.size w w' := by
  subst hn
  exact clone_calls l A c hc hl w hr
end Cl
end Go.Proofs.YtcbkhbnemhkheaaDoor
