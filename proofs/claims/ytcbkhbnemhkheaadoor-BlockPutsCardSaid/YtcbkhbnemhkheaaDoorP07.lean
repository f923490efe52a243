/- The checksum that rolls, of the program: whole numbers in floats, a pair and a byte more. -/
import Derived.Test.YtcbkhbnemhkheaaDoorP01
import Derived.Test.YtcbkhbnemhkheaaDoorP02
import Derived.Test.YtcbkhbnemhkheaaDoorP03
import Derived.Test.YtcbkhbnemhkheaaDoorP04
import Derived.Test.YtcbkhbnemhkheaaDoorP05
import Derived.Test.YtcbkhbnemhkheaaDoorP06
import Derived.Test.YtcbkhbnemhkheaaDoorProg
import Derived.Deep.LoopGhost
namespace Go.Proofs.YtcbkhbnemhkheaaDoor
namespace Ro
open Go.RowKit Flo Ba
set_option linter.unusedVariables false
theorem FL_0 : FL 0 = 0 := by decide +kernel
theorem FL_1 : FL 1 = 4607182418800017408 := by decide +kernel
theorem FL_m : FL (-1125899906842624) = 14055734437023318016 := by decide +kernel
theorem FL_p : FL 1125899906842624 = 4832362400168542208 := by decide +kernel
theorem real_C (ts : Array TypeId) (ty : TypeId) (a b : Int) : Builtin.real_ ts ty #[C a b] = pure (F a) := rfl
theorem imag_C (ts : Array TypeId) (ty : TypeId) (a b : Int) : Builtin.imag_ ts ty #[C a b] = pure (F b) := rfl
theorem complex_F (ts : Array TypeId) (ty : TypeId) (a b : Int) : Builtin.complex_ ts ty #[F a, F b] = pure (C a b) := rfl
theorem complex_F0 (ts : Array TypeId) (ty : TypeId) (a : Int) : Builtin.complex_ ts ty #[F a, .float .f64 0] = pure (C a 0) := by
  have := complex_F ts ty a 0
  unfold F at this ⊢
  rw [FL_0] at this
  exact this
theorem complex_0F (ts : Array TypeId) (ty : TypeId) (a : Int) : Builtin.complex_ ts ty #[.float .f64 0, F a] = pure (C 0 a) := by
  have := complex_F ts ty 0 a
  unfold F at this ⊢
  rw [FL_0] at this
  exact this
theorem complex_1F (ts : Array TypeId) (ty : TypeId) (a : Int) : Builtin.complex_ ts ty #[.float .f64 4607182418800017408, F a] = pure (C 1 a) := by
  have := complex_F ts ty 1 a
  unfold F at this ⊢
  rw [FL_1] at this
  exact this
attribute [local go_sem] real_C imag_C complex_F complex_F0 complex_0F complex_1F
theorem run_pure_ok {P : Program} {m : Sem Value} {v : Value} (h : m = pure v) (w : World) : m.run P w = .ok v w := by rw [h]; rfl
theorem ext_trunc (args : Array Value) (w : World) : (callFunc 78 args).run Tryd.prog w = ((Extern.MathFloor.toIntegral "math.archTrunc" .zero args).run Tryd.prog w).andThen fun v w' => .ok (.value v) w' :=
  run_callFunc_extern Tryd.func78 (by kernel_rfl) (by kernel_rfl) (by kernel_rfl) (by kernel_rfl) args w
theorem toIntegral_num (x : Nat) (s : Bool) (m : Nat) (p : Int) (h : FloatKind.f64.decode x = .number s m p) : Extern.MathFloor.toIntegral "math.archTrunc" .zero #[.float .f64 x] = pure (Value.float .f64 (FloatKind.f64.encode (Ieee.Datum.integral .zero (.number s m p)))) := by
  show ((match FloatKind.f64.decode x with
    | .nan s t => if FloatKind.f64.format.quiet t = t then pure (Value.float .f64 x) else do
      let kept ← choose (.extern "math.Floor,Ceil,Trunc,RoundToEven.signallingNaN kept" 2)
      pure (Value.float .f64 (if kept == 1 then x else FloatKind.f64.encode (.nan s (FloatKind.f64.format.quiet t))))
    | d => pure (Value.float .f64 (FloatKind.f64.encode (d.integral .zero)))) : Sem Value) = _
  rw [h]
theorem toIntegral_F (a : Int) (h : ok53 a) (w : World) : (Extern.MathFloor.toIntegral "math.archTrunc" .zero #[F a]).run Tryd.prog w = .ok (F a) w := by
  have hr := read_FL a h
  have ht := trunc_FL a h
  obtain ⟨s, m, k, e, _, _⟩ := hr
  rw [e] at ht
  have := toIntegral_num (FL a) s m (-(k : Int)) e
  unfold F
  rw [this]
  show Result.ok (Value.float .f64 (Ieee.double.write (Ieee.Datum.integral .zero (.number s m (-(k : Int)))))) w = _
  rw [ht]
set_option maxRecDepth 100000 in
set_option maxHeartbeats 400000 in
theorem trunc_calls (a : Int) (h : ok53 a) (w : World) : Calls Tryd.prog 66 #[F a] w fun e w' => e = .returned (F a) ∧ w = w' := by
  have hx := ext_trunc #[F a] w
  rw [toIntegral_F a h w] at hx
  go_enter Tryd.func66, Tryd.ntmps66
  go_wp2_with fail
  go_ret
  exact ⟨rfl, rfl⟩
theorem ok53_of {a : Int} (h1 : -9007199254740991 ≤ a) (h2 : a ≤ 9007199254740991) : ok53 a := by unfold ok53; omega
theorem whole_mod (a : Int) : (if a.tmod 65536 < 0 then a.tmod 65536 + 65536 else a.tmod 65536) = a % 65536 := by
  have h2 := Int.tmod_eq_emod (a := a) (b := 65536)
  have h4 := Int.emod_nonneg a (show (65536 : Int) ≠ 0 by omega)
  have h5 := Int.emod_lt_of_pos a (show (0 : Int) < 65536 by omega)
  by_cases h : 0 ≤ a ∨ (65536 : Int) ∣ a
  · rw [if_pos h] at h2
    simp only [Int.natCast_zero, Int.sub_zero] at h2
    rw [h2, if_neg (by omega)]
  · rw [if_neg h] at h2
    have h6 : ((Int.natAbs 65536 : Nat) : Int) = 65536 := rfl
    rw [h6] at h2
    rw [h2, if_pos (by omega)]
    omega
theorem eqGuard_F (op : BinOp) (t : TypeId) (x y : Operand) (a b : Int) : eqGuard op t x y (F a) (F b) = pure () := by cases op <;> rfl
theorem eqGuard_C (op : BinOp) (t : TypeId) (x y : Operand) (a b c d : Int) : eqGuard op t x y (C a b) (C c d) = pure () := by cases op <;> rfl
attribute [local go_sem] eqGuard_F eqGuard_C
set_option maxRecDepth 100000 in
set_option maxHeartbeats 1000000 in
theorem whole_calls (a : Int) (h1 : -1125899906842624 ≤ a) (h2 : a ≤ 1125899906842624) (w : World) : Calls Tryd.prog 53 #[F a] w fun e w' => e = .returned (.tuple #[.int .u32 (a % 65536), .bool true]) ∧ w = w' := by
  have hok : ok53 a := ok53_of (by omega) (by omega)
  have n1 : ∀ w, (binOp .neq 105 (F a) (F a)).run Tryd.prog w = .ok (.bool false) w := fun w => by rw [f_neq _ _ _ hok hok]; simp
  have n2 : ∀ w, (binOp .lss 105 (F a) (.float .f64 14055734437023318016)).run Tryd.prog w = .ok (.bool false) w := fun w => by
    have := f_lss 105 a (-1125899906842624) hok (ok53_of (by omega) (by omega))
    unfold F at this ⊢
    rw [FL_m] at this
    rw [this, decide_eq_false (by omega)]
    rfl
  have n3 : ∀ w, (binOp .gtr 105 (F a) (.float .f64 4832362400168542208)).run Tryd.prog w = .ok (.bool false) w := fun w => by
    have := f_gtr 105 a 1125899906842624 hok (ok53_of (by omega) (by omega))
    unfold F at this ⊢
    rw [FL_p] at this
    rw [this, decide_eq_false (by omega)]
    rfl
  have n4 : ∀ w, (convert 105 2 (F a)).run Tryd.prog w = .ok (.int .i64 a) w := fun w => run_int_of w _ _ a hok (by kernel_rfl) Tryd.underlying2
  have hm := whole_mod a
  have Hm := Lib.hid hm
  have Ht := Lib.hid (fun w => trunc_calls a hok w)
  have hlo : -65536 < a.tmod 65536 := Int.lt_tmod_of_pos a (by omega)
  have hhi : a.tmod 65536 < 65536 := Int.tmod_lt_of_pos a (by omega)
  clear hok hm
  go_enter Tryd.func53, Tryd.ntmps53
  go_wp2_with fail
  refine (Ht.out _).mono ?_
  rintro e w1 ⟨rfl, rfl⟩
  go_wp2_with fail
  all_goals
    go_ret2
    exact ⟨by rw [← Hm.out]; first | (rw [if_pos (by assumption)]; rfl) | (rw [if_neg (by omega)]; rfl), rfl⟩
theorem fold_F (n : Int) : Value.float .f64 (floatOfInt .f64 n) = F n := rfl
theorem ret_agg {a b : Value} (h : a = b) : Ending.returned a = .returned b := by rw [h]
attribute [local go_sem] fold_F
set_option maxRecDepth 100000 in
set_option maxHeartbeats 400000 in
theorem one_calls (c : Int) (w : World) : Calls Tryd.prog 67 #[.int .u8 c] w fun e w' => e = .returned (C c 0) ∧ w = w' := by
  go_enter Tryd.func67, Tryd.ntmps67
  go_wp2_with fail
  go_ret
  exact ⟨rfl, rfl⟩
set_option maxRecDepth 100000 in
set_option maxHeartbeats 1000000 in
theorem reduce_calls (a b : Int) (h1 : -1125899906842624 ≤ a) (h2 : a ≤ 1125899906842624) (h3 : -1125899906842624 ≤ b) (h4 : b ≤ 1125899906842624) (w : World) : Calls Tryd.prog 68 #[C a b] w fun e w' => e = .returned (C (a % 65536) (b % 65536)) ∧ w = w' := by
  have H1 := Lib.hid (fun w => whole_calls a h1 h2 w)
  have H2 := Lib.hid (fun w => whole_calls b h3 h4 w)
  obtain ⟨a', ha⟩ : ∃ a', a' = a % 65536 := ⟨_, rfl⟩
  obtain ⟨b', hb⟩ : ∃ b', b' = b % 65536 := ⟨_, rfl⟩
  rw [← ha] at H1
  rw [← hb] at H2
  rw [← ha, ← hb]
  clear ha hb h1 h2 h3 h4
  go_enter Tryd.func68, Tryd.ntmps68
  go_wp2_with fail
  refine (H1.out _).mono ?_
  rintro e w1 ⟨rfl, rfl⟩
  go_wp2_with fail
  refine (H2.out _).mono ?_
  rintro e w1 ⟨rfl, rfl⟩
  go_wp2_with fail
  go_ret
  exact ⟨rfl, rfl⟩
set_option maxRecDepth 100000 in
set_option maxHeartbeats 1000000 in
theorem add_calls (l : List UInt8) (x : UInt8) (w : World) : Calls Tryd.prog 54 #[C (ha l) (hb l), .int .u8 (x.toNat : Int)] w fun e w' => e = .returned (C (ha (l ++ [x])) (hb (l ++ [x]))) ∧ w = w' := by
  have h1 := ha_lt l
  have h2 := hb_lt l
  have h3 := x.toNat_lt
  have e1 := ha_snoc l x
  have e2 := hb_snoc l x
  generalize ha l = a at *
  generalize hb l = b at *
  generalize x.toNat = c at *
  have n1 : ∀ w, (binOp .add 74 (C (a : Int) (b : Int)) (C (c : Int) 0)).run Tryd.prog w = .ok (C ((a : Int) + c) b) w := fun w => by
    have := c_add 74 (a : Int) b c 0 (ok53_of (by omega) (by omega)) (ok53_of (by omega) (by omega)) (ok53_of (by omega) (by omega)) (ok53_of (by omega) (by omega)) (ok53_of (by omega) (by omega)) (ok53_of (by omega) (by omega))
    rw [this, Int.add_zero]
    rfl
  have n2 : ∀ w, (binOp .add 74 (C ((a : Int) + c) (b : Int)) (C 0 ((a : Int) + c))).run Tryd.prog w = .ok (C ((a : Int) + c) (b + (a + c))) w := fun w => by
    have := c_add 74 ((a : Int) + c) b 0 (a + c) (ok53_of (by omega) (by omega)) (ok53_of (by omega) (by omega)) (ok53_of (by omega) (by omega)) (ok53_of (by omega) (by omega)) (ok53_of (by omega) (by omega)) (ok53_of (by omega) (by omega))
    rw [this, Int.add_zero]
    rfl
  have H3 := Lib.hid (fun w => reduce_calls ((a : Int) + c) (b + (a + c)) (by omega) (by omega) (by omega) (by omega) w)
  have E1 := Lib.hid e1
  have E2 := Lib.hid e2
  clear e1 e2 h1 h2 h3
  go_enter Tryd.func54, Tryd.ntmps54
  go_wp2_with fail
  refine (one_calls _ _).mono ?_
  rintro e w1 ⟨rfl, rfl⟩
  go_wp2_with fail
  refine (H3.out _).mono ?_
  rintro e w1 ⟨rfl, rfl⟩
  go_wp2_with fail
  go_ret
  exact ⟨by rw [E1.out, E2.out]; simp, rfl⟩
end Ro
end Go.Proofs.YtcbkhbnemhkheaaDoor
/- Pair, Pack, Sum of the program; Halves, Sum, Pack of the document's answer. -/
namespace Go.Proofs.YtcbkhbnemhkheaaDoor
namespace Ro
open Go.RowKit Flo Ba
set_option linter.unusedVariables false
attribute [local go_sem] real_C imag_C complex_F complex_F0 complex_0F complex_1F eqGuard_F eqGuard_C fold_F
theorem C_00 : C 0 0 = .complex .f64 0 0 := by unfold C; rw [FL_0]
set_option maxRecDepth 100000 in
set_option maxHeartbeats 1000000 in
theorem pair_calls {l : List UInt8} {A : Option Addr} {n c B : Nat} {w : World} (hn : n = l.length) (hr : ReadB w B A l) (hm : l.length ≤ 9223372036854775807) : Calls Tryd.prog 33 #[.slice A n c] w fun e w' => e = .returned (C (ha l) (hb l)) ∧ w = w' := by
  subst hn
  have Hr := Lib.hid hr
  clear hr
  go_enter Tryd.func33, Tryd.ntmps33
  go_wp2_with fail
  go_loop [3, 5, 8] (fun p _ i => ∃ k : Nat, k ≤ l.length ∧ i = .int .i64 k ∧ p = C (ha (l.take k)) (hb (l.take k))) (fun _ _ i => l.length - (intOf i).toNat)
  case atStart => exact ⟨0, Nat.zero_le _, rfl, C_00.symm⟩
  case round =>
    obtain ⟨k, hk, rfl, rfl⟩ := hrel
    by_cases hlt : k < l.length
    · obtain ⟨b, o, rfl, _, hc⟩ := Hr.out (by omega)
      have hck := hc k hlt
      have e : l.take (k + 1) = l.take k ++ [l.getD k 0] := by
        rw [List.take_succ_eq_append_getElem hlt]
        simp [List.getD, hlt]
      have hadd := add_calls (l.take k) (l.getD k 0) w
      rw [← e] at hadd
      have Hadd := Lib.hid hadd
      generalize l.getD k 0 = x at *
      obtain ⟨a1, h1⟩ : ∃ a1 : Int, a1 = (ha (l.take k) : Int) := ⟨_, rfl⟩
      obtain ⟨b1, h2⟩ : ∃ b1 : Int, b1 = (hb (l.take k) : Int) := ⟨_, rfl⟩
      obtain ⟨a2, h3⟩ : ∃ a1 : Int, a1 = (ha (l.take (k + 1)) : Int) := ⟨_, rfl⟩
      obtain ⟨b2, h4⟩ : ∃ b1 : Int, b1 = (hb (l.take (k + 1)) : Int) := ⟨_, rfl⟩
      rw [← h1, ← h2, ← h3, ← h4] at Hadd
      rw [← h1, ← h2]
      have H3 := Lib.hid h3
      have H4 := Lib.hid h4
      clear hc e hadd h1 h2 h3 h4
      go_wp2_with fail
      refine (Hadd.out).mono ?_
      rintro e w1 ⟨rfl, rfl⟩
      go_wp2_with fail
      go_round
      case rel => exact ⟨k + 1, by omega, by go_num, by rw [H3.out, H4.out]⟩
      case measure => simp [intOf]; omega
    · have hkk : k = l.length := by omega
      subst hkk
      rw [List.take_length]
      go_wp2_with fail
      go_ret
      exact ⟨rfl, rfl⟩
theorem u32_pack (a b : Nat) (h1 : a < 65536) (h2 : b < 65536) : bits .or .u32 ((b : Int) * 65536) (a : Int) = ((b * 65536 + a : Nat) : Int) := by
  have hor : b * 65536 ||| a = b * 65536 + a := by
    have := Nat.shiftLeft_add_eq_or_of_lt (i := 16) (b := a) h1 b
    rw [Nat.shiftLeft_eq] at this
    exact this.symm
  show IntKind.u32.wrap ((BitVec.ofInt 32 ((b : Int) * 65536) ||| BitVec.ofInt 32 (a : Int)).toNat : Int) = _
  rw [BitVec.toNat_or]
  have e1 : (BitVec.ofInt 32 ((b : Int) * 65536)).toNat = b * 65536 := by rw [BitVec.toNat_ofInt]; omega
  have e2 : (BitVec.ofInt 32 (a : Int)).toNat = a := by rw [BitVec.toNat_ofInt]; omega
  rw [e1, e2, hor, IntKind.wrap_u32]
  omega
set_option maxRecDepth 100000 in
set_option maxHeartbeats 1000000 in
theorem pack_calls (a b : Int) (h1 : -1125899906842624 ≤ a) (h2 : a ≤ 1125899906842624) (h3 : -1125899906842624 ≤ b) (h4 : b ≤ 1125899906842624) (w : World) : Calls Tryd.prog 32 #[C a b] w fun e w' => e = .returned (.int .u32 (b % 65536 * 65536 + a % 65536)) ∧ w = w' := by
  have H1 := Lib.hid (fun w => whole_calls a h1 h2 w)
  have H2 := Lib.hid (fun w => whole_calls b h3 h4 w)
  obtain ⟨a', ha⟩ : ∃ a' : Nat, (a' : Int) = a % 65536 := ⟨(a % 65536).toNat, by rw [Int.toNat_of_nonneg (Int.emod_nonneg _ (by omega))]⟩
  obtain ⟨b', hb⟩ : ∃ b' : Nat, (b' : Int) = b % 65536 := ⟨(b % 65536).toNat, by rw [Int.toNat_of_nonneg (Int.emod_nonneg _ (by omega))]⟩
  rw [← ha] at H1
  rw [← hb] at H2
  have la : a' < 65536 := by omega
  have lb : b' < 65536 := by omega
  rw [← ha, ← hb]
  have hor := u32_pack a' b' la lb
  have hsh : IntKind.u32.wrap ((b' : Int) * 65536) = (b' : Int) * 65536 := by rw [IntKind.wrap_u32]; omega
  have hsh2 : (b' : Int) * 65536 % 4294967296 = (b' : Int) * 65536 := by omega
  clear ha hb h1 h2 h3 h4
  go_enter Tryd.func32, Tryd.ntmps32
  go_wp2_with fail
  refine (H1.out _).mono ?_
  rintro e w1 ⟨rfl, rfl⟩
  go_wp2_with fail
  refine (H2.out _).mono ?_
  rintro e w1 ⟨rfl, rfl⟩
  go_wp2_with fail
  go_ret
  exact ⟨by simp, rfl⟩
set_option maxRecDepth 100000 in
set_option maxHeartbeats 1000000 in
theorem sum_calls {l : List UInt8} {A : Option Addr} {n c B : Nat} {w : World} (hn : n = l.length) (hr : ReadB w B A l) (hm : l.length ≤ 9223372036854775807) : Calls Tryd.prog 22 #[.slice A n c] w fun e w' => e = .returned (.int .u32 (rsum l : Nat)) ∧ w = w' := by
  have Hr := Lib.hid hr
  have h1 := ha_lt l
  have h2 := hb_lt l
  have Hp := Lib.hid (pack_calls (ha l) (hb l) (by omega) (by omega) (by omega) (by omega) w)
  have he : ((hb l : Int) % 65536 * 65536 + (ha l : Int) % 65536) = ((rsum l : Nat) : Int) := by unfold rsum; omega
  rw [he] at Hp
  have Hq := Lib.hid (pair_calls (c := c) hn hr hm)
  generalize (ha l : Int) = a at *
  generalize (hb l : Int) = b at *
  clear hr he h1 h2 hn
  go_enter Tryd.func22, Tryd.ntmps22
  go_wp2_with fail
  refine Hq.out.mono ?_
  rintro e w1 ⟨rfl, rfl⟩
  go_wp2_with fail
  refine Hp.out.mono ?_
  rintro e w1 ⟨rfl, rfl⟩
  go_wp2_with fail
  go_ret
  exact ⟨rfl, rfl⟩
end Ro
end Go.Proofs.YtcbkhbnemhkheaaDoor
/- Where a block is, of the program. -/
namespace Go.Proofs.YtcbkhbnemhkheaaDoor
namespace Bk
open Go.RowKit Ba Sm Ro
set_option linter.unusedVariables false
theorem stv32 (y1 : List UInt8) (y2 : Nat) (h : y1.length = 32) : ([] ++ (bvs y1 ++ [Value.int .i64 (y2 : Int)])).toArray[32]? = some (.int .i64 (y2 : Int)) := by
  rw [List.nil_append, List.getElem?_toArray, List.getElem?_append_right (by rw [bvs_length, h]; exact Nat.le_refl _), bvs_length, h]
  rfl
def tellP : Option St → Int × Bool
  | some p => ((p.2 : Nat), true)
  | none => (0, false)
theorem find_grp (z : Nat) (l : List Sg) (b : List UInt8) (hb : b.length = z) : findB z l b = tellP ((grpK z l l.length (rsum b)).find? (fun p => p.1 == sha b)) := by
  unfold findB
  rw [if_pos hb]
  have h := grp_find z l (sgOf b)
  have e : (sgOf b).1 = rsum b ∧ (sgOf b).2 = sha b := ⟨rfl, rfl⟩
  rw [e.1, e.2] at h
  rw [h]
  unfold tellIx tellP
  cases findIx l (sgOf b) <;> rfl
theorem grp_wf {z : Nat} {l : List Sg} {k w : Nat} (h : ∀ s ∈ l, WfS s) (hk : k ≤ l.length) : ∀ s ∈ grpK z l k w, s.1.length = 32 ∧ s.2 ≤ k * z := by
  intro s hs
  unfold grpK at hs
  obtain ⟨i, hi, rfl⟩ := List.mem_map.1 hs
  have hi2 : i < k := by simpa using (List.mem_filter.1 hi).1
  refine ⟨(h _ (List.mem_of_getElem? (sg_get (show i < l.length by omega)))).2, Nat.mul_le_mul_right z (by omega)⟩
set_option maxRecDepth 100000 in
set_option maxHeartbeats 4000000 in
theorem find_calls (w : World) (g z : Nat) (l : List Sg) (h : IsX w g z l) (hz : z ≤ 4096) (hl : l.length ≤ 4096) (hwf : ∀ s ∈ l, WfS s) (b : List UInt8) (A : Option Addr) (c : Nat) (hr : ReadB w w.heap.size A b) (hbc : b.length ≤ c) (hcm : c ≤ 9223372036854775807) (hbl : b.length ≤ 140737488351232) (htab : Tab w) :
    Calls Tryd.prog 20 #[.pointer (some ⟨g, 0, none⟩), .slice A b.length c] w
      fun e w' => e = .returned (.tuple #[.int .i64 (findB z l b).1, .bool (findB z l b).2]) ∧ Below w.heap.size w w' := by
  obtain ⟨bm, base, m, h1, h2⟩ := h
  have hc0 := h1.cell 0
  by_cases hbz : b.length = z
  · rw [find_grp z l b hbz]
    have hx32 := rsum_lt b
    obtain ⟨f, v, hv, hs, hM, hO, hbm, hbs, _⟩ := h2.at_ hx32
    have hwg := grp_wf (z := z) (w := rsum b) hwf (Nat.le_refl _)
    have hgl := grpK_len z l l.length (rsum b)
    obtain ⟨G, hG⟩ : ∃ G, grpK z l l.length (rsum b) = G := ⟨_, rfl⟩
    rw [hG] at hO hwg hgl ⊢
    obtain ⟨x1, hx1⟩ : ∃ x1, rsum b = x1 := ⟨_, rfl⟩
    obtain ⟨x2, hx2⟩ : ∃ x2, sha b = x2 := ⟨_, rfl⟩
    have hl2 : x2.length = 32 := by rw [← hx2]; exact hash_len b
    have hsum := fun w' B h => sum_calls (w := w') (B := B) (l := b) (A := A) (n := z) (c := c) hbz.symm h (by omega)
    rw [hx1] at hsum hv hx32
    rw [hx2]
    obtain ⟨r, hr0⟩ : ∃ r, G.find? (fun p => p.1 == x2) = r := ⟨_, rfl⟩
    rw [hr0]
    have Hr0 := Lib.hid hr0
    clear hr0
    have hlk : ∀ w', IsM Tryd.prog 33 w' bm m f → (Instr.lookup 66 (.map (some bm)) (.int .u32 (x1 : Int)) false).run Tryd.prog w' = .ok v w' := fun w' h => by
      rw [hv]
      exact h.look Tryd.underlying33 Tryd.underlying66 (zeroE w') hx32
    have hlkW := hlk w.drew (hM.below ((Below.refl w.heap.size w).drew) hM.lt)
    obtain ⟨A1, c1, rfl, q1, q2, q3, q4⟩ := hO.opens
    have Hsum := Lib.hid hsum
    have Hl2 := Lib.hid hl2
    have Hx2 := Lib.hid hx2
    have HG3 := Lib.hid q3
    have Hwg := Lib.hid hwg
    have Hr := Lib.hid hr
    have Htab := Lib.hid htab
    have Hc2 := Lib.hid (h1.cell 2)
    have Hg := Lib.hid h1.lt
    rw [hbz]
    have hnn : ¬ (z : Int) ≠ (z : Int) := by simp
    have hgl2 : G.length ≤ 4096 := by omega
    have hzc : z ≤ c := by omega
    have Hbz := Lib.hid hbz
    clear hsum hl2 hx2 hx1 q3 q4 hwg hr htab h1 h2 hv hs hM hO hbm hbs hG hlk hgl hbc hbz hl hwf
    go_enter Tryd.func20, Tryd.ntmps20
    go_wp2_with fail
    refine CanB.region 1000 (.op 0 2 (.op 1 2 (.op 2 2 (.op 3 1 (.op 4 2 (.op 5 0 (.op 6 0 (.op 7 2 (.nil))))))))) (by kernel_rfl) (by kernel_rfl) ?_
    have HbW : Hid (Below w.heap.size w w.drew) := Lib.hid (Below.refl w.heap.size w).drew
    have HrW : Hid (ReadB w.drew w.heap.size A b) := Hr
    have HtW : Hid (Tab w.drew) := Lib.hid (Htab.out.below HbW.out)
    have HG3W : Hid (ReadRow stv 33 w.drew w.heap.size A1 G) := HG3
    have Hc2W : Hid (w.drew.cell? ⟨g, 2, none⟩ = some (.map (some bm))) := Lib.hid Hc2.out
    have HgW : Hid (g < w.drew.heap.size) := Hg
    have Hs0 : Hid (w.drew.heap.size = w.heap.size) := Lib.hid rfl
    generalize w.drew = W at *
    repeat (first | (refine CanT.skip rfl ?_ (fun K hK => ?_); (focus (go_simp; done)); go_simp; refine hK _ ?_; clear hK K) | (refine CanT.pur rfl ?_ ?_; (focus (go_simp; done)); refine ⟨?_, ?_, ?_⟩; rotate_left; (focus (intro w'; go_simp; rfl)); (focus (intro K hK; go_simp; refine hK _ ?_; clear hK K))) | (refine CanB.cell rfl ?_ (.map (some bm)) (.map (some bm)) ⟨g, 2, none⟩ Hc2W.out HgW.out ?_ (fun K hK => ?_); (focus (go_simp; done)); (focus (intro w' hc'; go_simp; (try rfl))); go_simp; refine hK _ ?_; clear hK K))
    refine CanT.imp rfl (fun K hK => ?_)
    go_simp
    refine (Hsum.out W _ HrW.out).mono ?_
    rintro e w1 ⟨rfl, rfl⟩
    (try go_simp)
    refine hK.out _ _ (Below.refl _ _) ?_
    clear hK K
    refine CanT.imp rfl (fun K hK => ?_)
    go_simp
    refine hK.out _ _ (Below.refl _ _) ?_
    clear hK K
    repeat (first | (refine CanT.skip rfl ?_ (fun K hK => ?_); (focus (go_simp; done)); go_simp; refine hK _ ?_; clear hK K) | (refine CanT.pur rfl ?_ ?_; (focus (go_simp; done)); refine ⟨?_, ?_, ?_⟩; rotate_left; (focus (intro w'; go_simp; rfl)); (focus (intro K hK; go_simp; refine hK _ ?_; clear hK K))))
    refine CanT.done ?_
    by_cases hG0 : G = []
    · have hG1 : G.length = 0 := by rw [hG0]; rfl
      have hr1 : r = none := by rw [← Hr0.out, hG0]; rfl
      have Hr1 := Lib.hid hr1
      clear hr1 hG0
      rw [hG1]
      go_wp2_with fail
      go_ret2
      exact ⟨by rw [Hr1.out]; rfl, HbW.out⟩
    · have hGp : 0 < G.length := by cases G with | nil => exact absurd rfl hG0 | cons _ _ => simp
      have hGn : ¬ (G.length : Int) = 0 := by omega
      have hGn2 : ¬ G.length = 0 := by omega
      obtain ⟨N, hN⟩ : ∃ N, N = G.length := ⟨_, rfl⟩
      rw [← hN] at hGp hGn hGn2 hgl2 q1 ⊢
      have HN := Lib.hid hN
      clear hN hG0
      have hfl : [b].flatten = b := by simp
      have hba := (Below.refl W.heap.size W).alloc (Nat.le_refl _) (.cells #[.slice A z c] 22)
      have Hbb : Hid (ReadBB (W.alloc (.cells #[.slice A z c] 22)) (W.alloc (.cells #[.slice A z c] 22)).heap.size (some ⟨W.heap.size, 0, none⟩) [b]) := Lib.hid ((ReadBB.lit1 W 22 A z c b w.heap.size W.heap.size rfl (by rw [Hs0.out]; exact Nat.le_refl _) Hbz.out.symm HrW.out (by have := Hbz.out; omega) hcm).more (by simp))
      have Htab1 : Hid (Tab (W.alloc (.cells #[.slice A z c] 22))) := Lib.hid (HtW.out.below ((Below.refl _ _).alloc (Nat.le_refl _) _))
      have Hfl := Lib.hid hfl
      have HB1 := Lib.hid (HbW.out.alloc HbW.out.size (.cells #[.slice A z c] 22))
      clear hfl
      have hof := of_calls [b] (some ⟨W.heap.size, 0, none⟩) 1 _ Hbb.out Htab1.out (by simp) (by omega) (by intro p hp; simp at hp; subst hp; exact hbl) (by rw [Hfl.out]; omega)
      rw [Hfl.out, Hx2.out] at hof
      have Hof : Hid (Calls Tryd.prog 28 #[.slice (some ⟨W.heap.size, 0, none⟩) 1 1] (W.alloc (.cells #[.slice A z c] 22)) fun e w' => e = .returned (.agg (bvs x2).toArray) ∧ Below (W.alloc (.cells #[.slice A z c] 22)).heap.size (W.alloc (.cells #[.slice A z c] 22)) w') := Lib.hid hof
      clear hof
      go_wp2_with (first
        | (go_at_call 28; refine Hof.out.mono ?_; rintro e w2 ⟨rfl, hb2⟩; have HB2 := Lib.hid (HB1.out.trans (hb2.mono HB1.out.size)); clear hb2)
        | (refine wpList_store_blk rfl 47 (.tmp 7) (.tmp 33) rfl w2.heap.size 0 47 [] (List.replicate 32 (.int .u8 0)) [] (bvs x2) rfl rfl (heap_alloc_new _ _) rfl (by rw [bvs_length, Hl2.out]; rfl) (by rw [bvs_length, Hl2.out]; kernel_rfl) (bvs_one _) ?_; intro w3 hS3 hg3))
      have hb3 : Below w2.heap.size w2 w3 := only_after ((Below.refl _ _).alloc (Nat.le_refl _) _) hg3 (Nat.le_refl _)
      have HS3 : Hid (Blk w3 w2.heap.size 47 (bvs x2).toArray) := Lib.hid (by simpa using hS3)
      have HB3 := Lib.hid (HB2.out.trans (hb3.mono HB2.out.size))
      have HG4 : Hid (ReadRow stv 33 w3 w.heap.size A1 G) := Lib.hid (HG3.out.below HB3.out)
      have Hw2 : Hid (w.heap.size ≤ w2.heap.size) := Lib.hid HB2.out.size
      generalize w2.heap.size = gh at *
      clear hS3 hg3 hb3 HB2 HB1 Htab1 Hbb hba HbW HrW HtW HG3W Hc2W HgW hlkW Hsum
      go_loopg [36] N (fun q v36 wr => ∃ k : Nat, k ≤ N ∧ q = N - k ∧ v36 = .int .i64 (k : Int) ∧ (G.take k).find? (fun p => p.1 == x2) = none ∧ Below w3.heap.size w3 wr)
      case atStart => exact ⟨0, by omega, rfl, rfl, by simp, Below.refl _ _⟩
      case round =>
        obtain ⟨k, hk, hq, rfl, hf, hB⟩ := hrel
        have Hq := Lib.hid hq
        have Hf := Lib.hid hf
        have HB := Lib.hid hB
        clear hq hf hB
        by_cases hkn : k < N
        · have t1 : decide ((k : Int) < (N : Int)) = true := by rw [decide_eq_true_eq]; omega
          have hkG : k < G.length := by rw [← HN.out]; exact hkn
          obtain ⟨b1, o1, rfl, hb1, hc1⟩ := HG4.out.at_ (List.getElem?_eq_getElem hkG)
          obtain ⟨y1, y2, hy⟩ : ∃ y1 y2, G[k] = (y1, y2) := ⟨_, _, rfl⟩
          have hw := Hwg.out _ (List.getElem_mem hkG)
          have hy2 : G.getD k ([], 0) = (y1, y2) := by rw [← hy]; simp [List.getD, hkG]
          rw [hy] at hc1 hw
          have HC1 : Hid (wr.rangeAt b1 (o1 + k * 33) (stv (y1, y2))) := Lib.hid fun j u hu => (HB.out.cell (p := ⟨b1, o1 + k * 33 + j, none⟩) (Nat.lt_of_lt_of_le hb1 (Nat.le_trans HB3.out.size (Nat.le_refl _)))).trans (hc1 j u hu)
          have HSr : Hid (Blk wr gh 47 (bvs x2).toArray) := Lib.hid (HS3.out.below HB.out HS3.out.lt)
          have Hgr := HSr.out.lt
          have HL1 : Hid (y1.length = 32) := Lib.hid hw.1
          obtain ⟨eb, heb⟩ : ∃ eb, eb = (y1 == x2) := ⟨_, rfl⟩
          have heq : ∀ w', (binOp .eql 47 (.agg (bvs y1).toArray) (.agg (bvs x2).toArray)).run Tryd.prog w' = .ok (.bool eb) w' := fun w' => by rw [heb]; exact run_eqB y1 x2 HL1.out Hl2.out w'
          have Heb := Lib.hid heb
          have Hy2 := Lib.hid hy2
          have HkG := Lib.hid hkG
          have hst : ∀ w4 o, Blk w4 wr.heap.size 71 ([] ++ (stv (y1, y2) ++ [])).toArray → (wr.alloc o).grownBy w4 (some wr.heap.size) →
              Hid (Blk w4 wr.heap.size 71 ([] ++ (bvs y1 ++ [Value.int .i64 (y2 : Int)])).toArray) ∧ Hid (Below w3.heap.size w3 w4) ∧ Hid (Blk w4 gh 47 (bvs x2).toArray) ∧ w4.cell? ⟨wr.heap.size, 32, none⟩ = some (.int .i64 (y2 : Int)) := by
            intro w4 o hS4 hg4
            have hb4 : Below wr.heap.size wr w4 := only_after ((Below.refl _ _).alloc (Nat.le_refl _) _) hg4 (Nat.le_refl _)
            have h4 : Blk w4 wr.heap.size 71 ([] ++ (bvs y1 ++ [Value.int .i64 (y2 : Int)])).toArray := by simpa [stv] using hS4
            refine ⟨Lib.hid h4, Lib.hid (HB.out.trans (hb4.mono HB.out.size)), Lib.hid (HSr.out.below hb4 Hgr), ?_⟩
            rw [Blk.cell h4]
            exact stv32 y1 y2 HL1.out
          have Hst := Lib.hid hst
          clear hc1 hb1 hy hy2 hw heb hkG hst
          cases eb with
          | true =>
            go_wp2_with (first
              | (refine wpList_load_mid rfl 71 (.tmp 38) rfl b1 (o1 + k * 33) rfl (stv (y1, y2)) _ HC1.out Tryd.underlying71 rfl (by rw [stv_len HL1.out]; kernel_rfl) ?_)
              | (refine wpList_store_blk rfl 71 (.tmp 9) (.tmp 39) rfl wr.heap.size 0 71 [] (List.replicate 32 (Value.int .u8 0) ++ [Value.int .i64 0]) [] (stv (y1, y2)) rfl rfl (by exact heap_alloc_new _ _) rfl (by rw [stv_len HL1.out]; rfl) (by rw [stv_len HL1.out]; kernel_rfl) (stv_one _) ?_; intro w4 hS4 hg4; obtain ⟨HS4, HB4, HSr4, hc32⟩ := Hst.out w4 _ hS4 hg4; clear hS4 hg4)
              | (refine wpList_load_blk rfl 47 (.tmp 40) rfl wr.heap.size 0 71 [] (bvs y1) [Value.int .i64 (y2 : Int)] rfl HS4.out rfl _ Tryd.underlying47 rfl (by rw [bvs_length, HL1.out]; kernel_rfl) ?_)
              | (refine wpList_load_blk rfl 47 (.tmp 7) rfl gh 0 47 [] (bvs x2) [] rfl (by rw [List.append_nil, List.nil_append]; exact HSr4.out) rfl _ Tryd.underlying47 rfl (by rw [bvs_length, Hl2.out]; kernel_rfl) ?_))
            go_ret2
            refine ⟨?_, HB3.out.trans (HB4.out.mono HB3.out.size)⟩
            have hr1 : r = some (y1, y2) := by
              rw [← Hr0.out]
              have := find_take_none (fun p : St => p.1 == x2) G k ([], 0) Hf.out HkG.out (by rw [Hy2.out]; exact Heb.out.symm)
              rw [Hy2.out] at this
              exact this
            rw [hr1]
            rfl
          | false =>
            go_wp2_with (first
              | (refine wpList_load_mid rfl 71 (.tmp 38) rfl b1 (o1 + k * 33) rfl (stv (y1, y2)) _ HC1.out Tryd.underlying71 rfl (by rw [stv_len HL1.out]; kernel_rfl) ?_)
              | (refine wpList_store_blk rfl 71 (.tmp 9) (.tmp 39) rfl wr.heap.size 0 71 [] (List.replicate 32 (Value.int .u8 0) ++ [Value.int .i64 0]) [] (stv (y1, y2)) rfl rfl (by exact heap_alloc_new _ _) rfl (by rw [stv_len HL1.out]; rfl) (by rw [stv_len HL1.out]; kernel_rfl) (stv_one _) ?_; intro w4 hS4 hg4; obtain ⟨HS4, HB4, HSr4, hc32⟩ := Hst.out w4 _ hS4 hg4; clear hS4 hg4)
              | (refine wpList_load_blk rfl 47 (.tmp 40) rfl wr.heap.size 0 71 [] (bvs y1) [Value.int .i64 (y2 : Int)] rfl HS4.out rfl _ Tryd.underlying47 rfl (by rw [bvs_length, HL1.out]; kernel_rfl) ?_)
              | (refine wpList_load_blk rfl 47 (.tmp 7) rfl gh 0 47 [] (bvs x2) [] rfl (by rw [List.append_nil, List.nil_append]; exact HSr4.out) rfl _ Tryd.underlying47 rfl (by rw [bvs_length, Hl2.out]; kernel_rfl) ?_))
            go_roundg (N - (k + 1))
            case rel => exact ⟨k + 1, by omega, rfl, rfl, find_take_succ (fun p : St => p.1 == x2) G k ([], 0) Hf.out HkG.out (by rw [Hy2.out]; exact Heb.out.symm), HB4.out⟩
            case measure => have := Hq.out; omega
        · have hkn2 : k = N := by omega
          have t1 : decide ((k : Int) < (N : Int)) = false := by rw [decide_eq_false_iff_not]; omega
          have t2 : ¬ k < N := by omega
          go_wp2_with fail
          go_ret2
          refine ⟨?_, HB3.out.trans (HB.out.mono HB3.out.size)⟩
          have hr1 : r = none := by
            rw [← Hr0.out, ← Hf.out, hkn2, HN.out, List.take_length]
          rw [hr1]
          rfl
  · have hf : findB z l b = (0, false) := by unfold findB; rw [if_neg hbz]
    rw [hf]
    have h3 : ¬ (b.length : Int) = (z : Int) := by omega
    have hg := h1.lt
    clear h2 hr htab hf hwf
    go_enter Tryd.func20, Tryd.ntmps20
    go_wp2_with fail
    go_ret2
    exact ⟨rfl, Below.refl _ _⟩
end Bk
end Go.Proofs.YtcbkhbnemhkheaaDoor
/- The sums of a file's blocks, of the program. -/
namespace Go.Proofs.YtcbkhbnemhkheaaDoor
namespace Bk
open Go.RowKit Ba Sm Ro
set_option linter.unusedVariables false
set_option maxRecDepth 100000 in
set_option maxHeartbeats 2000000 in
theorem sign_calls (b : List UInt8) (size : Int) (A : Option Addr) (c : Nat) (w : World) (hr : ReadB w w.heap.size A b) (hbc : b.length ≤ c) (hcm : c ≤ 9223372036854775807) (hsz : -9223372036854775808 ≤ size ∧ size ≤ 9223372036854775807) (htab : Tab w) :
    Calls Tryd.prog 10 #[.slice A b.length c, .int .i64 size] w
      fun e w' => ∃ v, e = .returned (.tuple #[v, .int .i64 (sign size b).2]) ∧ OwnRow sgv 33 w' w.heap.size 49 v (sign size b).1 ∧ Below w.heap.size w w' := by
  by_cases h1 : 1 ≤ size ∧ size ≤ 4096
  · obtain ⟨z, rfl⟩ : ∃ z : Nat, size = (z : Int) := ⟨size.toNat, by omega⟩
    have hm := may_calls (z : Int) true (by simp; omega)
    have Hm := Lib.hid hm
    clear hm
    by_cases h2 : b.length ≤ 65536 ∧ b.length / z ≤ 4096
    · have hs : sign (z : Int) b = (signK z b (b.length / z), 0) := by unfold sign; rw [if_neg (by omega), if_neg (by simp; omega)]; simp
      rw [hs]
      obtain ⟨n, hn⟩ : ∃ n, n = b.length / z := ⟨_, rfl⟩
      rw [← hn] at h2 ⊢
      have hnz : n * z ≤ b.length := by rw [hn]; exact Nat.div_mul_le_self _ _
      have hnz2 : b.length < n * z + z := by rw [hn]; have h5 := Nat.div_add_mod b.length z; have h6 := Nat.mod_lt b.length (show z > 0 by omega); rw [Nat.mul_comm] at h5; omega
      have hdiv : (b.length : Int).tdiv (z : Int) = (n : Int) := by rw [hn]; exact Int.ofNat_tdiv _ _ |>.symm
      have hz0 : (z : Int) ≠ 0 := by omega
      obtain ⟨i0, hi0⟩ := isRec_of infoSig
      have Hi := Lib.hid hi0
      have Hr := Lib.hid hr
      have Htab := Lib.hid htab
      have Hnz := Lib.hid hnz
      have Hnz2 := Lib.hid hnz2
      have Hn := Lib.hid hn
      clear hi0 hr htab hnz hnz2 hn hs
      go_enter Tryd.func10, Tryd.ntmps10
      go_wp2_with (go_at_call 27; refine (Hm.out _).mono ?_; rintro e w1 ⟨rfl, rfl⟩)
      go_loopg [0, 6] n (fun m v0 v6 wr => ∃ (k : Nat) (A' : Option Addr) (c' : Nat) (r : List UInt8), k ≤ n ∧ m = n - k ∧ r = b.drop (k * z) ∧ v0 = .slice A' r.length c' ∧ r.length ≤ c' ∧ c' ≤ 9223372036854775807 ∧ ReadB w w.heap.size A' r ∧ OwnRow sgv 33 wr w.heap.size 49 v6 (signK z b k) ∧ Below w.heap.size w wr)
      case atStart => exact ⟨0, A, c, b, by omega, rfl, by simp, rfl, hbc, hcm, Hr.out, OwnRow.nil, Below.refl _ _⟩
      case round =>
        obtain ⟨k, A', c', r, hk, hm, hrd, rfl, hrc, hcc, hrA, ho, hb⟩ := hrel
        have hrl : r.length = b.length - k * z := by rw [hrd, List.length_drop]
        have Hm2 := Lib.hid hm
        have Hrd := Lib.hid hrd
        have HrA := Lib.hid hrA
        have Ho := Lib.hid ho
        have Hb := Lib.hid hb
        have Hrl := Lib.hid hrl
        have hr64 : r.length ≤ 65536 := by omega
        clear hm hrd hrA ho hb hrl Hr
        by_cases hkn : k < n
        · have hzr : z ≤ r.length := by
            have e1 : (k + 1) * z ≤ n * z := Nat.mul_le_mul_right z hkn
            rw [Nat.add_mul, Nat.one_mul] at e1
            have := Hnz.out
            have := Hrl.out
            omega
          have t1 : decide ((z : Int) ≤ (r.length : Int)) = true := by rw [decide_eq_true_eq]; omega
          have i1 : (0 : Int) ≤ (z : Int) := by omega
          have i2 : (z : Int) ≤ (c' : Int) := by omega
          have i3 : (z : Int) ≤ (r.length : Int) := by omega
          have Hx : Hid (ReadB wr.drew w.heap.size A' (r.take z)) := Lib.hid ((HrA.out.below Hb.out).take z)
          have Hfl : Hid ([r.take z].flatten = r.take z) := Lib.hid (by simp)
          have hba := (Below.refl wr.drew.heap.size wr.drew).alloc (Nat.le_refl _) (.cells #[.slice A' z c'] 22)
          have Hbb : Hid (ReadBB (wr.drew.alloc (.cells #[.slice A' z c'] 22)) (wr.drew.alloc (.cells #[.slice A' z c'] 22)).heap.size (some ⟨wr.drew.heap.size, 0, none⟩) [r.take z]) := Lib.hid ((ReadBB.lit1 wr.drew 22 A' z c' (r.take z) w.heap.size wr.drew.heap.size rfl Hb.out.size (by rw [List.length_take]; omega) Hx.out (by rw [List.length_take]; omega) hcc).more (by simp))
          have Htab1 : Hid (Tab (wr.drew.alloc (.cells #[.slice A' z c'] 22))) := Lib.hid (Htab.out.below ((Hb.out.drew).alloc (by simpa using Hb.out.size) _))
          have Ho := Lib.hid Ho.out.drew
          have Hb := Lib.hid Hb.out.drew
          obtain ⟨x1, hx1⟩ : ∃ x1, rsum (r.take z) = x1 := ⟨_, rfl⟩
          obtain ⟨x2, hx2⟩ : ∃ x2, sha (r.take z) = x2 := ⟨_, rfl⟩
          have Hl2 : Hid (x2.length = 32) := Lib.hid (by rw [← hx2]; exact hash_len _)
          have Hx1 := Lib.hid hx1
          have Hx2 := Lib.hid hx2
          clear hx1 hx2
          go_wp2_with fail
          refine CanT.region (fun _ => True) 1000 (.op 0 2 (.op 1 2 (.op 2 2 (.op 3 2 (.op 5 2 (.op 6 2 (.op 7 2 (.fork (.op 4 0 (.op 8 0 (.op 9 0 (.op 10 2 (.op 11 0 (.op 12 0 (.op 13 2 (.nil)))))))) (.op 8 0 (.op 4 0 (.op 9 0 (.op 10 2 (.op 11 0 (.op 12 0 (.op 13 2 (.nil)))))))))))))))) (by kernel_rfl) (by kernel_rfl) trivial ?_
          generalize wr.drew = wr at *
          repeat (first | (refine CanT.skip rfl ?_ (fun K hK => ?_); (focus (go_simp; done)); go_simp; refine hK _ ?_; clear hK K) | (refine CanT.pur rfl ?_ ?_; (focus (go_simp; done)); refine ⟨?_, ?_, ?_⟩; rotate_left; (focus (intro w'; go_simp; rfl)); (focus (intro K hK; go_simp; refine hK _ ?_; clear hK K))))
          refine CanT.both ?_ ?_
          · refine CanT.imp rfl (fun K hK => ?_)
            go_simp
            refine (sum_calls (l := r.take z) (by rw [List.length_take]; omega) Hx.out (by rw [List.length_take]; omega)).mono ?_
            rw [Hx1.out]
            rintro e w1 ⟨rfl, rfl⟩
            (try go_simp)
            refine hK.out _ _ (trivial) ?_
            clear hK K
            refine CanT.imp rfl (fun K hK => ?_)
            go_simp
            refine hK.out _ _ (trivial) ?_
            clear hK K
            refine CanT.imp rfl (fun K hK => ?_)
            go_simp
            refine (of_calls [r.take z] (some ⟨wr.heap.size, 0, none⟩) 1 _ (Hbb.out) (Htab1.out) (by simp) (by omega) (by intro p hp; simp at hp; subst hp; rw [List.length_take]; omega) (by simp; omega)).mono ?_
            rw [Hfl.out, Hx2.out]
            rintro e w2 ⟨rfl, hb2⟩
            have hb2' := hba.trans (hb2.mono (by simp))
            have Ho2 := Lib.hid (Ho.out.keptB hb2')
            have Hb2 := Lib.hid (Hb.out.trans (hb2'.mono Hb.out.size))
            clear hb2 hb2'
            (try go_simp)
            refine hK.out _ _ (trivial) ?_
            clear hK K
            repeat (first | (refine CanT.skip rfl ?_ (fun K hK => ?_); (focus (go_simp; done)); go_simp; refine hK _ ?_; clear hK K) | (refine CanT.pur rfl ?_ ?_; (focus (go_simp; done)); refine ⟨?_, ?_, ?_⟩; rotate_left; (focus (intro w'; go_simp; rfl)); (focus (intro K hK; go_simp; refine hK _ ?_; clear hK K))) | (refine CanT.bld rfl ?_ 49 _ rfl #[(0, .int .u32 (x1 : Int)), (1, .agg (bvs x2).toArray)] rfl _ (fun w' => run_sig x1 x2 Hl2.out w') (fun K hK => ?_); (focus (go_simp; done)); go_simp; refine hK _ ?_; clear hK K))
            refine CanT.imp rfl (fun K hK => ?_)
            refine step_bslice _ ?_ 24 49 1 _ rfl Tryd.underlying24 i0 33 36 Hi.out (by omega) (by omega) [(0, .agg (sgv (x1, x2)).toArray)] rfl (sgv (x1, x2)) (fun Z hZ => fill_one 33 (.agg (sgv (x1, x2)).toArray) (sgv_len Hl2.out) Z hZ) ?_
            focus (go_simp; done)
            (try go_simp)
            refine hK.out _ _ (trivial) ?_
            clear hK K
            refine CanT.imp rfl (fun K hK => ?_)
            refine step_appR _ ?_ (.tmp 29) (.tmp 40) 24 rfl w.heap.size 49 i0 36 Tryd.underlying24 Hi.out (by omega) _ _ rfl (Ho2.out.alloc _) _ _ 1 1 [(x1, x2)] rfl rfl (ReadRow.lit1 w2 49 _ (x1, x2) rfl (sgv_len Hl2.out) (sgv_one _)) (by rw [signK_len]; simp; omega) (by rw [signK_len]; simp; omega) (by have := Hb2.out.size; simp; omega) ?_
            focus (go_simp; done)
            intro v3 w3 ho3 _ _ hb3
            have Ho3 := Lib.hid ho3
            have Hb3 := Lib.hid ((Hb2.out.alloc Hb2.out.size _).trans hb3)
            clear ho3 hb3
            (try go_simp)
            refine hK.out _ _ (trivial) ?_
            clear hK K
            repeat (first | (refine CanT.skip rfl ?_ (fun K hK => ?_); (focus (go_simp; done)); go_simp; refine hK _ ?_; clear hK K) | (refine CanT.pur rfl ?_ ?_; (focus (go_simp; done)); refine ⟨?_, ?_, ?_⟩; rotate_left; (focus (intro w'; go_simp; rfl)); (focus (intro K hK; go_simp; refine hK _ ?_; clear hK K))))
            refine CanT.done ?_
            have hnext : ∀ (A2 : Option Addr) (c2 : Nat), A2 = (if c' = z then A' else A'.map (·.add z)) → c2 = c' - z → ∃ r2, r2 = b.drop ((k + 1) * z) ∧ r2.length = r.length - z ∧ r2.length ≤ c2 ∧ c2 ≤ 9223372036854775807 ∧ ReadB w w.heap.size A2 r2 := by
              intro A2 c2 hA2 hc2
              refine ⟨r.drop z, by rw [Hrd.out, List.drop_drop, Nat.add_mul, Nat.one_mul], by rw [List.length_drop], by rw [List.length_drop]; omega, by omega, ?_⟩
              rw [hA2]
              exact HrA.out.cut hrc
            have Hnext := Lib.hid hnext
            have hs3 : signK z b (k + 1) = signK z b k ++ [(x1, x2)] := by
              rw [signK_succ]
              have e : sgOf (blk z b k) = (x1, x2) := by unfold blk sgOf; rw [← Hrd.out, Hx1.out, Hx2.out]
              rw [e]
            have Hs3 := Lib.hid hs3
            clear hnext hs3
            by_cases hcz : c' = z
            all_goals
              go_wp2
              go_roundg (n - (k + 1))
              case rel =>
                obtain ⟨r2, q1, q2, q3, q4, q5⟩ := Hnext.out _ _ rfl rfl
                refine ⟨k + 1, _, _, r2, by omega, rfl, q1, ?_, q3, q4, q5, by rw [Hs3.out]; exact Ho3.out, Hb3.out⟩
                rw [q2]
                simp [hcz]
              case measure => have := Hm2.out; omega
          · refine CanT.imp rfl (fun K hK => ?_)
            go_simp
            refine hK.out _ _ (trivial) ?_
            clear hK K
            refine CanT.imp rfl (fun K hK => ?_)
            go_simp
            refine (sum_calls (l := r.take z) (by rw [List.length_take]; omega) (Hx.out.alloc Hb.out.size _) (by rw [List.length_take]; omega)).mono ?_
            rw [Hx1.out]
            rintro e w1 ⟨rfl, rfl⟩
            (try go_simp)
            refine hK.out _ _ (trivial) ?_
            clear hK K
            refine CanT.imp rfl (fun K hK => ?_)
            go_simp
            refine (of_calls [r.take z] (some ⟨wr.heap.size, 0, none⟩) 1 _ (Hbb.out) (Htab1.out) (by simp) (by omega) (by intro p hp; simp at hp; subst hp; rw [List.length_take]; omega) (by simp; omega)).mono ?_
            rw [Hfl.out, Hx2.out]
            rintro e w2 ⟨rfl, hb2⟩
            have hb2' := hba.trans (hb2.mono (by simp))
            have Ho2 := Lib.hid (Ho.out.keptB hb2')
            have Hb2 := Lib.hid (Hb.out.trans (hb2'.mono Hb.out.size))
            clear hb2 hb2'
            (try go_simp)
            refine hK.out _ _ (trivial) ?_
            clear hK K
            repeat (first | (refine CanT.skip rfl ?_ (fun K hK => ?_); (focus (go_simp; done)); go_simp; refine hK _ ?_; clear hK K) | (refine CanT.pur rfl ?_ ?_; (focus (go_simp; done)); refine ⟨?_, ?_, ?_⟩; rotate_left; (focus (intro w'; go_simp; rfl)); (focus (intro K hK; go_simp; refine hK _ ?_; clear hK K))) | (refine CanT.bld rfl ?_ 49 _ rfl #[(0, .int .u32 (x1 : Int)), (1, .agg (bvs x2).toArray)] rfl _ (fun w' => run_sig x1 x2 Hl2.out w') (fun K hK => ?_); (focus (go_simp; done)); go_simp; refine hK _ ?_; clear hK K))
            refine CanT.imp rfl (fun K hK => ?_)
            refine step_bslice _ ?_ 24 49 1 _ rfl Tryd.underlying24 i0 33 36 Hi.out (by omega) (by omega) [(0, .agg (sgv (x1, x2)).toArray)] rfl (sgv (x1, x2)) (fun Z hZ => fill_one 33 (.agg (sgv (x1, x2)).toArray) (sgv_len Hl2.out) Z hZ) ?_
            focus (go_simp; done)
            (try go_simp)
            refine hK.out _ _ (trivial) ?_
            clear hK K
            refine CanT.imp rfl (fun K hK => ?_)
            refine step_appR _ ?_ (.tmp 29) (.tmp 40) 24 rfl w.heap.size 49 i0 36 Tryd.underlying24 Hi.out (by omega) _ _ rfl (Ho2.out.alloc _) _ _ 1 1 [(x1, x2)] rfl rfl (ReadRow.lit1 w2 49 _ (x1, x2) rfl (sgv_len Hl2.out) (sgv_one _)) (by rw [signK_len]; simp; omega) (by rw [signK_len]; simp; omega) (by have := Hb2.out.size; simp; omega) ?_
            focus (go_simp; done)
            intro v3 w3 ho3 _ _ hb3
            have Ho3 := Lib.hid ho3
            have Hb3 := Lib.hid ((Hb2.out.alloc Hb2.out.size _).trans hb3)
            clear ho3 hb3
            (try go_simp)
            refine hK.out _ _ (trivial) ?_
            clear hK K
            repeat (first | (refine CanT.skip rfl ?_ (fun K hK => ?_); (focus (go_simp; done)); go_simp; refine hK _ ?_; clear hK K) | (refine CanT.pur rfl ?_ ?_; (focus (go_simp; done)); refine ⟨?_, ?_, ?_⟩; rotate_left; (focus (intro w'; go_simp; rfl)); (focus (intro K hK; go_simp; refine hK _ ?_; clear hK K))))
            refine CanT.done ?_
            have hnext : ∀ (A2 : Option Addr) (c2 : Nat), A2 = (if c' = z then A' else A'.map (·.add z)) → c2 = c' - z → ∃ r2, r2 = b.drop ((k + 1) * z) ∧ r2.length = r.length - z ∧ r2.length ≤ c2 ∧ c2 ≤ 9223372036854775807 ∧ ReadB w w.heap.size A2 r2 := by
              intro A2 c2 hA2 hc2
              refine ⟨r.drop z, by rw [Hrd.out, List.drop_drop, Nat.add_mul, Nat.one_mul], by rw [List.length_drop], by rw [List.length_drop]; omega, by omega, ?_⟩
              rw [hA2]
              exact HrA.out.cut hrc
            have Hnext := Lib.hid hnext
            have hs3 : signK z b (k + 1) = signK z b k ++ [(x1, x2)] := by
              rw [signK_succ]
              have e : sgOf (blk z b k) = (x1, x2) := by unfold blk sgOf; rw [← Hrd.out, Hx1.out, Hx2.out]
              rw [e]
            have Hs3 := Lib.hid hs3
            clear hnext hs3
            by_cases hcz : c' = z
            all_goals
              go_wp2
              go_roundg (n - (k + 1))
              case rel =>
                obtain ⟨r2, q1, q2, q3, q4, q5⟩ := Hnext.out _ _ rfl rfl
                refine ⟨k + 1, _, _, r2, by omega, rfl, q1, ?_, q3, q4, q5, by rw [Hs3.out]; exact Ho3.out, Hb3.out⟩
                rw [q2]
                simp [hcz]
              case measure => have := Hm2.out; omega
        · have hkn2 : k = n := by omega
          have t1 : decide ((z : Int) ≤ (r.length : Int)) = false := by
            rw [decide_eq_false_iff_not]
            have := Hnz2.out
            have := Hnz.out
            have := Hrl.out
            rw [hkn2] at this
            omega
          have t2 : decide (z ≤ r.length) = false := by
            rw [decide_eq_false_iff_not] at t1 ⊢
            omega
          have t3 : ¬ z ≤ r.length := by simpa using t2
          go_wp2_with fail
          go_ret2
          rw [hkn2] at Ho
          exact ⟨u6, rfl, Ho.out, Hb.out⟩
    · have hs : sign (z : Int) b = ([], 5) := by unfold sign; rw [if_neg (by omega), if_pos (by simp; omega)]
      rw [hs]
      have hdiv : (b.length : Int).tdiv (z : Int) = ((b.length / z : Nat) : Int) := Int.ofNat_tdiv _ _ |>.symm
      have hnl : b.length / z ≤ b.length := Nat.div_le_self _ _
      generalize b.length / z = n at hdiv h2 hnl
      have hz0 : (z : Int) ≠ 0 := by omega
      clear hr htab hs
      by_cases h3 : b.length ≤ 65536
      all_goals
        go_enter Tryd.func10, Tryd.ntmps10
        go_wp2_with (go_at_call 27; refine (Hm.out _).mono ?_; rintro e w1 ⟨rfl, rfl⟩)
        go_ret2
        exact ⟨_, rfl, OwnRow.nil, Below.refl _ _⟩
  · have hs : sign size b = ([], 2) := by unfold sign; rw [if_pos (by omega)]
    rw [hs]
    have hm := may_calls size false (by simp; omega)
    have Hm := Lib.hid hm
    clear hm hr htab hs
    go_enter Tryd.func10, Tryd.ntmps10
    go_wp2_with (go_at_call 27; refine (Hm.out _).mono ?_; rintro e w1 ⟨rfl, rfl⟩)
    go_ret2
    exact ⟨_, rfl, OwnRow.nil, Below.refl _ _⟩
end Bk
end Go.Proofs.YtcbkhbnemhkheaaDoor
/- Bytes of a constant text: the row is laid and marked; the mark changes no cell. -/
namespace Go.Proofs.YtcbkhbnemhkheaaDoor
namespace Li
open Go.RowKit Ba
set_option linter.unusedVariables false
/-- a world with a row marked -/
def mkB (w : World) (g : Nat) : World := match w.shape? g with
  | some (_, n) => w.freeze ⟨g, n, none⟩ 1
  | none => w
section
variable {P : Program}
theorem conv_run (t e : TypeId) (ht : P.underlying t = some (.slice e)) (he : P.underlying e = some (.int .u8)) (g n c : Nat) (w : World) :
    (convert t t (.slice (some ⟨g, 0, none⟩) n c)).run P w = .ok (.slice (some ⟨g, 0, none⟩) n c) (mkB w g) := by
  unfold mkB
  simp only [convert, Sem.run_bind, run_underlying ht, run_underlying he, Result.andThen_ok, beq_self_eq_true, markStringish]
  cases h : w.shape? g with
  | none => simp [h]
  | some p => obtain ⟨e', n'⟩ := p; simp [h]
theorem freeze_size (w : World) (a : Addr) (n : Nat) : (w.freeze a n).heap.size = w.heap.size := by
  unfold World.freeze; split <;> simp
theorem mkB_size (w : World) (g : Nat) : (mkB w g).heap.size = w.heap.size := by
  unfold mkB; split
  · exact freeze_size _ _ _
  · rfl
theorem mkB_grown (w : World) (g : Nat) : w.grownBy (mkB w g) (some g) := by
  unfold mkB
  split
  · refine ⟨?_, ?_, ?_, by rw [freeze_size]; exact Nat.le_refl _, fun i hi hne => ?_⟩
    · unfold World.freeze; rw [if_neg (by decide)]
    · unfold World.freeze; rw [if_neg (by decide)]
    · unfold World.freeze; rw [if_neg (by decide)]
    · unfold World.freeze
      rw [if_neg (by decide)]
      have : g ≠ i := fun e => hne (by rw [e])
      simp [Array.getElem?_modify, this]
  · exact World.grownBy.refl w _
theorem mkB_cell (w : World) (g : Nat) (b o : Nat) : (mkB w g).cell? ⟨b, o, none⟩ = w.cell? ⟨b, o, none⟩ := by
  by_cases hb : b = g
  · subst hb
    unfold mkB
    split
    · unfold World.freeze
      rw [if_neg (by decide)]
      unfold World.cell?
      simp only [Array.getElem?_modify, if_true]
      cases w.heap[b]? with
      | none => rfl
      | some ob =>
        cases ob with
        | cells c e fr => obtain ⟨lo, hi⟩ := fr; rfl
        | _ => rfl
    · rfl
  · rcases Nat.lt_or_ge b w.heap.size with h | h
    · exact World.cell?_of_block ((mkB_grown w g).block b h (by simpa using hb))
    · have h1 : w.heap[b]? = none := Array.getElem?_eq_none h
      have h2 : (mkB w g).heap[b]? = none := Array.getElem?_eq_none (by rw [mkB_size]; exact h)
      unfold World.cell?
      simp only [h1, h2]
theorem mkB_below {B : Nat} {a w : World} {g : Nat} (h : Below B a w) (hg : B ≤ g) (hs : B ≤ w.heap.size) : Below B a (mkB w g) := h.trans (below_of_only (mkB_grown w g) hg hs)
end
end Li
end Go.Proofs.YtcbkhbnemhkheaaDoor
/- The closed case: what every right program tells of eight bytes. -/
namespace Go.Proofs.YtcbkhbnemhkheaaDoor
namespace Bk
open Go.RowKit Ba Sm Ro
set_option linter.unusedVariables false
theorem mkB_lit (w : World) (E : TypeId) (vs : List Value) (l : List UInt8) (g : Nat) (hg : g = w.heap.size) (h : vs = bvs l) :
    ReadB (Li.mkB (w.alloc (.cells vs.toArray E)) g) (Li.mkB (w.alloc (.cells vs.toArray E)) g).heap.size (some ⟨g, 0, none⟩) l ∧ Below w.heap.size w (Li.mkB (w.alloc (.cells vs.toArray E)) g) := by
  subst hg
  refine ⟨?_, Li.mkB_below ((Below.refl _ _).alloc (Nat.le_refl _) _) (Nat.le_refl _) (by simp)⟩
  have h1 := ReadB.litN w E vs l w.heap.size rfl h
  rw [Li.mkB_size]
  intro hn
  obtain ⟨b, o, e, hb, hc⟩ := h1 hn
  exact ⟨b, o, e, by simpa using hb, fun k hk => by rw [Li.mkB_cell]; exact hc k hk⟩
def abc8 : List UInt8 := [97, 98, 99, 100, 101, 102, 103, 104]
theorem abc_blk : blk 3 abc8 0 = [97, 98, 99] ∧ blk 3 abc8 1 = [100, 101, 102] := by decide
theorem abc_sums : rsum [97, 98, 99] ≠ rsum [100, 101, 102] := by decide
theorem abc_sign : sign 3 abc8 = (signK 3 abc8 2, 0) := rfl
theorem abc_find : findB 3 (signK 3 abc8 2) [100, 101, 102] = (3, true) := by
  have e0 : findB 3 (signK 3 abc8 2) [100, 101, 102] = tellIx 3 (findIx (signK 3 abc8 2) (sgOf [100, 101, 102])) := if_pos (by rfl)
  rw [e0]
  have e : signK 3 abc8 2 = [sgOf [97, 98, 99], sgOf [100, 101, 102]] := by
    show [sgOf (blk 3 abc8 0), sgOf (blk 3 abc8 1)] = _
    rw [abc_blk.1, abc_blk.2]
  rw [e]
  have h : findIx [sgOf [97, 98, 99], sgOf [100, 101, 102]] (sgOf [100, 101, 102]) = some 1 := by
    unfold findIx
    show List.find? _ [0, 1] = some 1
    have h0 : (sg [sgOf [97, 98, 99], sgOf [100, 101, 102]] 0 == sgOf [100, 101, 102]) = false := by
      have : sgOf [97, 98, 99] ≠ sgOf [100, 101, 102] := fun h => abc_sums (congrArg Prod.fst h)
      exact beq_false_of_ne this
    have h1 : (sg [sgOf [97, 98, 99], sgOf [100, 101, 102]] 1 == sgOf [100, 101, 102]) = true := beq_self_eq_true (sgOf [100, 101, 102])
    rw [List.find?_cons_of_neg (by rw [h0]; decide)]
    exact List.find?_cons_of_pos h1
  rw [h]
  rfl
set_option maxRecDepth 100000 in
set_option maxHeartbeats 4000000 in
theorem awake_calls (w : World) (htab : Tab w) : Calls Tryd.prog 9 #[] w fun e w' => e = .returned (.bool true) ∧ Below w.heap.size w w' := by
  have Htab := Lib.hid htab
  clear htab
  have hcv := fun (g n c : Nat) (w' : World) => Li.conv_run (P := Tryd.prog) 22 5 Tryd.underlying22 Tryd.underlying5 g n c w'
  have hms := Li.mkB_size
  have h1 := mkB_lit w 5 (bvs abc8) abc8 w.heap.size rfl rfl
  have H1 := Lib.hid h1
  have hsg := fun A c w h1 h2 h3 h4 => sign_calls abc8 3 A c w h1 h2 h3 (by omega) h4
  rw [abc_sign] at hsg
  have hwf := signK_wf 3 abc8 2
  have hll := signK_len 3 abc8 2
  have hfd := abc_find
  obtain ⟨L, hL⟩ : ∃ L, L = signK 3 abc8 2 := ⟨_, rfl⟩
  rw [← hL] at hsg hwf hll hfd
  have Hsg := Lib.hid hsg
  have Hwf := Lib.hid hwf
  have Hll := Lib.hid hll
  have Hfd := Lib.hid hfd
  clear h1 hsg hwf hll hfd hL
  go_enter Tryd.func9, Tryd.ntmps9
  go_wp2_with fail
  refine (Hsg.out _ 8 _ H1.out.1 (by decide) (by omega) (Htab.out.below H1.out.2)).mono ?_
  rintro e w2 ⟨v2, rfl, ho2, hb2⟩
  obtain ⟨A2, c2, rfl, p1, p2, p3, p4⟩ := ho2.opens
  have HB2 := Lib.hid (H1.out.2.trans (hb2.mono H1.out.2.size))
  have HR2 := Lib.hid p3
  clear ho2 hb2 p3 p4
  go_wp2_with fail
  refine (new_good 3 8 L A2 c2 (by omega) _ (by rw [Hll.out]; decide) HR2.out Hwf.out).mono ?_
  rintro e w3 ⟨g, rfl, hg3, hX3, hb3⟩
  have HB3 := Lib.hid (HB2.out.trans (hb3.mono HB2.out.size))
  have HX3 := Lib.hid hX3
  have h4 := mkB_lit w3 5 (bvs [100, 101, 102]) [100, 101, 102] w3.heap.size rfl rfl
  have H4 := Lib.hid h4
  clear hg3 hX3 hb3 h4 HR2
  go_wp2_with fail
  refine (find_calls _ g 3 L (HX3.out.below H4.out.2) (by omega) (by rw [Hll.out]; omega) Hwf.out [100, 101, 102] _ 3 H4.out.1 (by decide) (by omega) (by decide) (Htab.out.below (HB3.out.trans (H4.out.2.mono HB3.out.size)))).mono ?_
  rw [Hfd.out]
  rintro e w5 ⟨rfl, hb5⟩
  have HB5 := Lib.hid (HB3.out.trans ((H4.out.2.trans (hb5.mono H4.out.2.size)).mono HB3.out.size))
  have HX5 := Lib.hid ((HX3.out.below H4.out.2).below hb5)
  have h6 := mkB_lit w5 5 (bvs [103, 104]) [103, 104] w5.heap.size rfl rfl
  have H6 := Lib.hid h6
  have hf2 : findB 3 L [103, 104] = (0, false) := if_neg (by decide)
  have Hf2 := Lib.hid hf2
  clear hb5 h6 hf2 H4 HX3
  go_wp2_with fail
  refine (find_calls _ g 3 L (HX5.out.below H6.out.2) (by omega) (by rw [Hll.out]; omega) Hwf.out [103, 104] _ 2 H6.out.1 (by decide) (by omega) (by decide) (Htab.out.below (HB5.out.trans (H6.out.2.mono HB5.out.size)))).mono ?_
  rw [Hf2.out]
  rintro e w7 ⟨rfl, hb7⟩
  have HB7 := Lib.hid (HB5.out.trans ((H6.out.2.trans (hb7.mono H6.out.2.size)).mono HB5.out.size))
  have HX7 := Lib.hid ((HX5.out.below H6.out.2).below hb7)
  have hlen := xlen_calls w7 g 3 L HX7.out
  rw [Hll.out] at hlen
  have Hlen := Lib.hid hlen
  rw [Hll.out]
  have z1 : bsize 0 = 16 := rfl
  have z2 : bsize 257 = 32 := rfl
  have z3 : bsize 65536 = 256 := rfl
  clear hb7 H6 HX5 hlen
  go_wp2_with (first
    | (go_at_call 19; refine Hlen.out.mono ?_; rintro e w8 ⟨rfl, rfl⟩)
    | (go_at_call 18; refine (xsize_calls _ g 3 L HX7.out).mono ?_; rintro e w8 ⟨rfl, rfl⟩)
    | (go_at_call 12; refine (size_calls _ _).mono ?_; rintro e w8 ⟨rfl, rfl⟩))
  go_ret
  exact ⟨rfl, HB7.out⟩
end Bk
end Go.Proofs.YtcbkhbnemhkheaaDoor
