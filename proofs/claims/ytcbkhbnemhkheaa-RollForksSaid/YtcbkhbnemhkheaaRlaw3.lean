/- A fork goes its own way; a window that is not there has nothing: the walk of the statement. -/
import Derived.Test.YtcbkhbnemhkheaaRlaw1
import Derived.Test.YtcbkhbnemhkheaaCanF
namespace Go.Proofs.Ytcbkhbnemhkheaa
namespace Ro
open Go.RowKit Flo Ba
set_option linter.unusedVariables false
theorem row_of {w : World} {base n c : Nat} {A : Option Addr} {l : List UInt8} (h : OwnB w base 5 (.slice A n c) l) (hl : 0 < l.length) : n = l.length ∧ ∃ g, A = some ⟨g, 0, none⟩ ∧ base ≤ g ∧ g < w.heap.size := by
  obtain ⟨g, c', e, h1, h2, _⟩ := h.row hl
  injection e with e1 e2 e3
  exact ⟨e2, g, e1, h1, h2⟩
theorem wpList_appBg {P : Program} (w : World) {ops : Array Oper} {rest : List Oper} {o : Oper} {a : Act} {Q : Exit → Act → World → Prop} (hgd : Region.wanted o (yielded ops a.tmps) = true) (s x : Operand) (t : TypeId)
    (ho : o.op = .call { callee := .builtin .append, args := #[s, x], argTypes := #[t, t] })
    (base : Nat) (E : TypeId) (i : TypeInfo) (ht : P.underlying t = some (.slice E)) (hi : IsByte P E i)
    (v : Value) (l : List UInt8) (hs : a.eval s = v) (hown : OwnB w base E v l)
    (B : Nat) (A : Option Addr) (m c : Nat) (r : List UInt8) (hx : a.eval x = .slice A m c) (hm : m = r.length) (hr : ReadB w B A r)
    (hbytes : l.length + r.length ≤ 140737488355328) (hbase : base ≤ w.heap.size)
    (h : ∀ v' w', OwnB w' base E v' (l ++ r) → w.grownBy w' v.ownBlock → (v'.ownBlock = v.ownBlock ∨ v'.ownBlock = some w.heap.size) → Below base w w' → wpList P ops Q rest (a.put o.dst v') w') : wpList P ops Q (o :: rest) a w :=
  wpList_step fun _ hK => CanF.step_appBg w hgd s x t ho base E i ht hi v l hs hown B A m c r hx hm hr hbytes hbase fun v' w' h1 h2 h3 h4 => hK _ _ (h v' w' h1 h2 h3 h4)
set_option maxRecDepth 100000 in
set_option maxHeartbeats 8000000 in
theorem rollForks_calls (a : List UInt8) (A : Option Addr) (c : Nat) (y : UInt8) (hc : a.length ≤ c) (hcm : c ≤ 9223372036854775807) (w : World) (hr : ReadB w w.heap.size A a) : Calls Try.prog 8 #[.slice A a.length c, .int .u8 (y.toNat : Int)] w fun e w' => e = .returned (.bool true) ∧ Below w.heap.size w w' := by
  have Hr := Lib.hid hr
  obtain ⟨i0, hi0⟩ := isByte_of info5
  have Hi := Lib.hid hi0
  clear hr hi0
  by_cases h1 : 1000 < a.length
  · have g1 : decide (1000 < (a.length : Int)) = true := by rw [decide_eq_true_eq]; omega
    go_enter Try.func8, Try.ntmps8
    go_wp2_with fail
    refine (awake_calls w).mono ?_
    rintro e w1 ⟨rfl, hb⟩
    have Hbb := Lib.hid hb
    clear hb
    go_wp2_with fail
    go_ret
    exact ⟨rfl, Hbb.out⟩
  have g1 : decide (1000 < (a.length : Int)) = false := by rw [decide_eq_false_iff_not]; omega
  go_enter Try.func8, Try.ntmps8
  go_wp2_with fail
  refine (new_calls (l := a) rfl hc Hr.out (by omega)).mono ?_
  rintro e w1 ⟨g, rfl, hW1, hb1⟩
  have HW1 := Lib.hid hW1
  have HB1 := Lib.hid hb1
  have Hfk := Lib.hid (fork_calls hW1 (by omega))
  clear hW1 hb1
  go_wp2_with fail
  refine Hfk.out.mono ?_
  rintro e w2 ⟨gf, rfl, hW2, hb2⟩
  have Hin := Lib.hid (in_calls hW2 y (by omega))
  have HB2 := Lib.hid hb2
  clear hW2 hb2 Hfk
  go_wp2_with fail
  refine Hin.out.mono ?_
  rintro e w3 ⟨rfl, hW3, hb3⟩
  have hb13 : Below w1.heap.size w1 w3 := HB2.out.trans hb3
  have hWg3 := HW1.out.below hb13
  have HWf := Lib.hid hW3
  have HWg := Lib.hid hWg3
  have HB3 := Lib.hid (HB1.out.trans (hb13.mono HB1.out.size))
  have Hby := Lib.hid (bytes_calls hWg3 (by omega))
  clear hW3 hb3 hb13 hWg3 HW1 HB1 HB2 Hin
  go_wp2_with fail
  refine Hby.out.mono ?_
  rintro e w4 ⟨v4, rfl, ho4, hb4⟩
  obtain ⟨A4, c4, rfl, u1, u2, u3, u4⟩ := ho4.opens
  have HO4 := Lib.hid ho4
  have HB4 := Lib.hid hb4
  clear ho4 hb4 u3 u4 Hby
  go_wp2_with fail
  go_loopw [8] (fun i wr => ∃ (k : Nat) (l : List UInt8), l.length = a.length ∧ k ≤ a.length ∧ i = .int .i64 k ∧ OwnB wr w3.heap.size 5 (.slice A4 a.length c4) l ∧ Below w3.heap.size w3 wr) (fun i _ => a.length - (intOf i).toNat)
  case atStart => exact ⟨0, a, rfl, by omega, rfl, HO4.out, HB4.out⟩
  case round =>
    obtain ⟨k, l, hl, hk, rfl, hO, hB⟩ := hrel
    have HB := Lib.hid hB
    clear HO4 HB4 hB
    by_cases hlt : k < a.length
    · obtain ⟨_, gb, rfl, hg1, hg2⟩ := row_of hO (by omega)
      rw [← hl] at hO
      have hcell := hO.cell (k := k) (by omega)
      have hfz := hO.frz k
      obtain ⟨z, hz⟩ : ∃ z, z = l.getD k 0 := ⟨_, rfl⟩
      rw [← hz] at hcell
      have q1 : ((z.toNat : Int) + 1) % 256 = (((z + 1 : UInt8)).toNat : Int) := by rw [UInt8.toNat_add]; rfl
      have q2 : IntKind.u8.wrap ((z.toNat : Int) + 1) = (((z + 1 : UInt8)).toNat : Int) := by rw [IntKind.wrap_u8]; exact q1
      have hput := hO.put k (z + 1).toNat (z + 1).toNat_lt
      obtain ⟨m, hm⟩ : ∃ m, m = (z + 1 : UInt8) := ⟨_, rfl⟩
      rw [← hm] at q1 q2 hput
      have Hput := Lib.hid hput
      have HBs := Lib.hid (HB.out.setCell (p := ⟨gb, k, none⟩) hg1 (.int .u8 (m.toNat : Int)))
      have Hl := Lib.hid hl
      clear hput hm hz hO hl
      go_wp2_with fail
      go_roundw
      case rel => exact ⟨k + 1, l.set k (UInt8.ofNat m.toNat), by rw [List.length_set]; exact Hl.out, by omega, by go_num, by rw [← Hl.out]; exact Hput.out, HBs.out⟩
      case measure => simp [intOf]; omega
    · clear hO hl hk
      have HWg4 := Lib.hid (HWg.out.below HB.out)
      have HWf4 := Lib.hid (HWf.out.below HB.out)
      have HB5 := Lib.hid (HB3.out.trans (HB.out.mono HB3.out.size))
      have Hws := Lib.hid (wsum_calls HWg4.out)
      have Hfs := Lib.hid (wsum_calls HWf4.out)
      have Hr4 := Lib.hid (Hr.out.below HB5.out)
      have Hsum := Lib.hid (sum_calls (n := a.length) (c := c) rfl Hr4.out (by omega))
      obtain ⟨q, hq⟩ : ∃ q, q = rsum a := ⟨_, rfl⟩
      obtain ⟨q2, hq2⟩ : ∃ q2, q2 = rsum (a ++ [y]) := ⟨_, rfl⟩
      rw [← hq] at Hws Hsum
      rw [← hq2] at Hfs
      have HQ2 := Lib.hid hq2
      clear hq hq2 HWg HWf HB HB3 HWg4 HWf4
      go_wp2_with fail
      refine (in_nil _ _).mono ?_
      rintro e w5 ⟨rfl, rfl⟩
      go_wp2_with fail
      refine (out_nil _).mono ?_
      rintro e w5 ⟨rfl, rfl⟩
      go_wp2_with fail
      refine Hws.out.mono ?_
      rintro e w5 ⟨rfl, rfl⟩
      go_wp2_with fail
      refine Hsum.out.mono ?_
      rintro e w5 ⟨rfl, rfl⟩
      go_wp2_with fail
      refine Hfs.out.mono ?_
      rintro e w5 ⟨rfl, rfl⟩
      go_wp2_with (first
        | (at_builtin; refine wpList_appBg _ (by go_simp; done) (.tmp 58) (.tmp 59) 22 rfl wr.heap.size 5 i0 Try.underlying22 Hi.out _ [] rfl (OwnB.lit0 wr 5 wr.heap.size wr.heap.size rfl (Nat.le_refl _)) w.heap.size A _ c a rfl rfl (Hr4.out.alloc (HB5.out.size) _) (by simp; omega) (by simp) ?_; intro v6 w6 ho6 _ _ hb6; rw [List.nil_append] at ho6; have Ho6 := Lib.hid (ho6.alloc (.cells #[.int .u8 (y.toNat : Int)] 5)); have HB6 := Lib.hid (((Below.refl _ _).alloc (Nat.le_refl _) _).trans hb6); have hlit := ReadB.litN w6 5 [.int .u8 (y.toNat : Int)] [y] w6.heap.size rfl rfl; have Hlit := Lib.hid hlit; clear ho6 hb6 hlit)
        | (at_builtin; refine wpList_appBg _ (by go_simp; done) (.tmp 60) (.tmp 62) 22 rfl wr.heap.size 5 i0 Try.underlying22 Hi.out v6 a rfl Ho6.out (w6.heap.size + 1) _ 1 1 [y] rfl rfl Hlit.out (by simp; omega) (by have := HB6.out.size; simp; omega) ?_; intro v7 w7 ho7 _ _ hb7; have HB7 := Lib.hid ((HB6.out.alloc HB6.out.size _).trans hb7); obtain ⟨A7, c7, rfl, p1, p2, p3, p4⟩ := ho7.opens; have P3 := Lib.hid p3; clear ho7 hb7 p3 p4 Ho6 HB6 Hlit))
      have hs7 := sum_calls (l := a ++ [y]) (n := a.length + 1) (c := c7) (by simp) P3.out (by simp; omega)
      rw [← HQ2.out] at hs7
      refine hs7.mono ?_
      clear hs7
      rintro e w8 ⟨rfl, rfl⟩
      go_wp2_with fail
      refine (roll_nil _ _).mono ?_
      rintro e w8 ⟨rfl, rfl⟩
      go_wp2_with fail
      refine (sum_nil _).mono ?_
      rintro e w8 ⟨rfl, rfl⟩
      go_wp2_with fail
      refine (len_nil _).mono ?_
      rintro e w8 ⟨rfl, rfl⟩
      go_wp2_with fail
      refine (bytes_nil _).mono ?_
      rintro e w8 ⟨rfl, rfl⟩
      go_wp2_with fail
      refine (fork_nil _).mono ?_
      rintro e w8 ⟨rfl, rfl⟩
      go_wp2_with fail
      refine (awake_calls w7).mono ?_
      rintro e w8 ⟨rfl, hb8⟩
      have HB8 := Lib.hid (HB5.out.trans ((bthen HB7.out hb8).mono HB5.out.size))
      clear hb8
      go_wp2_with fail
      go_ret
      exact ⟨rfl, HB8.out⟩
theorem rollForks_callsI (a : List UInt8) (A : Option Addr) (c : Nat) (x : Int) (hx0 : 0 ≤ x) (hx1 : x ≤ 255) (hc : a.length ≤ c) (hcm : c ≤ 9223372036854775807) (w : World) (hr : ReadB w w.heap.size A a) : Calls Try.prog 8 #[.slice A a.length c, .int .u8 x] w fun e w' => e = .returned (.bool true) ∧ Below w.heap.size w w' := by
  obtain ⟨y, hy⟩ : ∃ y : UInt8, (y.toNat : Int) = x := ⟨UInt8.ofNat x.toNat, by rw [UInt8.toNat_ofNat']; omega⟩
  rw [← hy]
  exact rollForks_calls a A c y hc hcm w hr
end Ro
end Go.Proofs.Ytcbkhbnemhkheaa
