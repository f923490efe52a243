/- A window, of the program: New, Sum, Len, In, Out, Roll, Bytes, Fork. -/
import Derived.Test.YtcbkhbnemhkheaaRref
import Derived.Test.YtcbkhbnemhkheaaOwnO
import Derived.Test.YtcbkhbnemhkheaaCanF
namespace Go.Proofs.Ytcbkhbnemhkheaa
namespace Ro
open Go.RowKit Flo Ba
set_option linter.unusedVariables false
attribute [local go_sem] real_C imag_C complex_F complex_F0 complex_0F complex_1F eqGuard_F eqGuard_C fold_F
theorem info5 : (Try.prog.info? 5).map (fun i => (i.zero, i.size, i.bytes)) = some (some (.int .u8 0), 1, 1) := by kernel_rfl
theorem run_store_complex {P : Program} {w : World} {a : Addr} {m : Mode} (k : FloatKind) (x y : Nat) : (store a (.complex k x y) m).run P w = stored P w a (.complex k x y) m := run_store P w a _ m rfl
attribute [local go_sem] run_store_complex
/-- a window in block g: all that it has lies in block base or behind it -/
def IsW (w : World) (base g : Nat) (l : List UInt8) : Prop :=
  base ≤ g ∧ ∃ v, Blk w g 58 #[v, C (ha l) (hb l)] ∧ OwnO w base 5 v l ∧ v.ownBlock ≠ some g
theorem IsW.lt {w : World} {base g : Nat} {l : List UInt8} (h : IsW w base g l) : g < w.heap.size := by
  obtain ⟨_, v, h, _⟩ := h
  exact h.lt
theorem IsW.below {w w' : World} {base g : Nat} {l : List UInt8} (h : IsW w base g l) (hb : Below w.heap.size w w') : IsW w' base g l := by
  obtain ⟨h0, v, h1, h2, h3⟩ := h
  exact ⟨h0, v, h1.below hb h1.lt, h2.keptB hb, h3⟩
theorem IsW.base_le {w : World} {base g : Nat} {l : List UInt8} (h : IsW w base g l) : base ≤ w.heap.size := Nat.le_trans h.1 (Nat.le_of_lt h.lt)
set_option maxRecDepth 100000 in
set_option maxHeartbeats 1000000 in
theorem new_calls {l : List UInt8} {A : Option Addr} {n c : Nat} {w : World} (hn : n = l.length) (hc : l.length ≤ c) (hr : ReadB w w.heap.size A l) (hm : l.length ≤ 140737488355328) : Calls Try.prog 16 #[.slice A n c] w
    fun e w' => ∃ g, e = .returned (.pointer (some ⟨g, 0, none⟩)) ∧ IsW w' w.heap.size g l ∧ Below w.heap.size w w' := by
  have Hr := Lib.hid hr
  have Hn := Lib.hid hn
  clear hr hn
  go_enter Try.func16, Try.ntmps16
  go_wp2_with fail
  refine (Cl.cloneN Hn.out hc hm Hr.out).mono ?_
  rintro e w1 ⟨v, rfl, ho, hb⟩
  obtain ⟨A1, c1, rfl, t1, t2, t3, t4⟩ := ho.opens
  have Ho := Lib.hid ho
  clear t3 t4
  have Hb := Lib.hid hb
  have Hr1 := Lib.hid (Hr.out.below hb)
  clear ho hb
  go_wp2_with fail
  have hp := pair_calls (c := c) Hn.out Hr1.out (by omega)
  unfold C at hp
  obtain ⟨X, hX⟩ : ∃ X, X = FL (ha l) := ⟨_, rfl⟩
  obtain ⟨Y, hY⟩ : ∃ Y, Y = FL (hb l) := ⟨_, rfl⟩
  rw [← hX, ← hY] at hp
  have HX := Lib.hid hX
  have HY := Lib.hid hY
  clear hX hY
  refine hp.mono ?_
  clear hp
  rintro e w2 ⟨rfl, rfl⟩
  go_wp2_with fail
  go_ret
  refine ⟨w1.heap.size, rfl, ⟨Hb.out.size, _, by unfold C; rw [← HX.out, ← HY.out]; exact heap_alloc_new w1 _, OwnO.keptB (OwnO.of_own Ho.out) ((Below.refl _ _).alloc (Nat.le_refl _) _), fun e => ?_⟩, Hb.out.alloc Hb.out.size _⟩
  have := (World.ownsRow.lt Ho.out _ e).2
  omega
set_option maxRecDepth 100000 in
set_option maxHeartbeats 1000000 in
theorem wsum_calls {w : World} {base g : Nat} {l : List UInt8} (h : IsW w base g l) : Calls Try.prog 17 #[.pointer (some ⟨g, 0, none⟩)] w fun e w' => e = .returned (.int .u32 (rsum l : Nat)) ∧ w = w' := by
  obtain ⟨h0, v, hB, ho, hne⟩ := h
  have h1 := ha_lt l
  have h2 := hb_lt l
  have Hp := Lib.hid (pack_calls (ha l) (hb l) (by omega) (by omega) (by omega) (by omega) w)
  have he : ((hb l : Int) % 65536 * 65536 + (ha l : Int) % 65536) = ((rsum l : Nat) : Int) := by unfold rsum; omega
  rw [he] at Hp
  have hc : w.cell? ⟨g, 1, none⟩ = some (C (ha l) (hb l)) := Blk.cell hB 1
  generalize (ha l : Int) = a at *
  generalize (hb l : Int) = b at *
  clear he h1 h2 hB ho
  go_enter Try.func17, Try.ntmps17
  go_wp2_with fail
  refine Hp.out.mono ?_
  rintro e w1 ⟨rfl, rfl⟩
  go_wp2_with fail
  go_ret
  exact ⟨rfl, rfl⟩
set_option maxRecDepth 100000 in
set_option maxHeartbeats 1000000 in
theorem wlen_calls {w : World} {base g : Nat} {l : List UInt8} (h : IsW w base g l) : Calls Try.prog 18 #[.pointer (some ⟨g, 0, none⟩)] w fun e w' => e = .returned (.int .i64 (l.length : Nat)) ∧ w = w' := by
  obtain ⟨h0, v, hB, ho, hne⟩ := h
  obtain ⟨A, c, rfl, h1, h2, h3⟩ := ho.opens
  have hc : w.cell? ⟨g, 0, none⟩ = some (.slice A l.length c) := Blk.cell hB 0
  clear hB ho hne h3
  go_enter Try.func18, Try.ntmps18
  go_wp2_with fail
  go_ret
  exact ⟨rfl, rfl⟩
theorem in_facts {w w1 w2 : World} {base g X Y : Nat} {l' : List UInt8} {v v2 : Value} {t E : TypeId} (hb0 : base ≤ g) (hB : Blk w1 g t #[v, .complex .f64 X Y]) (hne : v.ownBlock ≠ some g) (ho : OwnO w2 base E v2 l') (hg : w1.grownBy w2 v.ownBlock) (hor : v2.ownBlock = v.ownBlock ∨ v2.ownBlock = some w1.heap.size) (hb1 : Below base w w1) (hb2 : Below base w1 w2) :
    ∃ A2 n2 c2, v2 = .slice A2 n2 c2 ∧ w2.cell? ⟨g, 0, none⟩ = some v ∧ w2.frozen? ⟨g, 0, none⟩ = false ∧ (w2.setCell ⟨g, 0, none⟩ v2).cell? ⟨g, 1, none⟩ = some (.complex .f64 X Y) ∧ (w2.setCell ⟨g, 0, none⟩ v2).frozen? ⟨g, 1, none⟩ = false ∧
      ∀ X2 Y2, Blk ((w2.setCell ⟨g, 0, none⟩ v2).setCell ⟨g, 1, none⟩ (.complex .f64 X2 Y2)) g t #[v2, .complex .f64 X2 Y2] ∧ OwnO ((w2.setCell ⟨g, 0, none⟩ v2).setCell ⟨g, 1, none⟩ (.complex .f64 X2 Y2)) base E v2 l' ∧ v2.ownBlock ≠ some g ∧ Below base w ((w2.setCell ⟨g, 0, none⟩ v2).setCell ⟨g, 1, none⟩ (.complex .f64 X2 Y2)) := by
  have hB2 : Blk w2 g t #[v, .complex .f64 X Y] := hB.grown hg (fun e => hne e.symm)
  have hne2 : v2.ownBlock ≠ some g := by
    rcases hor with e | e
    · rw [e]; exact hne
    · rw [e]
      intro e2
      injection e2 with e2
      have := hB.lt
      omega
  obtain ⟨A2, c2, e, _, _, _⟩ := ho.opens
  have hB3 : Blk (w2.setCell ⟨g, 0, none⟩ v2) g t #[v2, .complex .f64 X Y] := Blk.set_ hB2 0 v2
  refine ⟨A2, _, c2, e, Blk.cell hB2 0, Blk.frozen hB2 0, Blk.cell hB3 1, Blk.frozen hB3 1, fun X2 Y2 => ⟨Blk.set_ hB3 1 _, (ho.far (p := ⟨g, 0, none⟩) hne2 v2).far (p := ⟨g, 1, none⟩) hne2 _, hne2, ((hb1.trans hb2).setCell (p := ⟨g, 0, none⟩) hb0 v2).setCell (p := ⟨g, 1, none⟩) hb0 _⟩⟩
set_option maxRecDepth 100000 in
set_option maxHeartbeats 1000000 in
theorem in_calls {w : World} {base g : Nat} {l : List UInt8} (h : IsW w base g l) (x : UInt8) (hm : l.length ≤ 140737488355320) : Calls Try.prog 20 #[.pointer (some ⟨g, 0, none⟩), .int .u8 (x.toNat : Int)] w
    fun e w' => e = .returned (.tuple #[]) ∧ IsW w' base g (l ++ [x]) ∧ Below base w w' := by
  have hgl := h.lt
  have hbl := h.base_le
  obtain ⟨h0, v, hB, ho, hne⟩ := h
  obtain ⟨A0, c0, rfl, t1, t2, t3⟩ := ho.opens
  obtain ⟨i0, hi0⟩ := isByte_of info5
  have Hi := Lib.hid hi0
  have hc : w.cell? ⟨g, 0, none⟩ = some (.slice A0 l.length c0) := Blk.cell hB 0
  have HB := Lib.hid hB
  have Ho := Lib.hid (ho.keptB ((Below.refl _ _).alloc (Nat.le_refl _) (.cells #[.int .u8 (x.toNat : Int)] 5)))
  have Hlit := Lib.hid (ReadB.litN w 5 [.int .u8 (x.toNat : Int)] [x] w.heap.size rfl rfl)
  have Hne := Lib.hid hne
  have Hb := Lib.hid h0
  have Hgl := Lib.hid hgl
  have hadd := fun w => add_calls l x w
  unfold C at hadd
  obtain ⟨X, e1⟩ : ∃ X, X = FL (ha l) := ⟨_, rfl⟩
  obtain ⟨Y, e2⟩ : ∃ Y, Y = FL (hb l) := ⟨_, rfl⟩
  obtain ⟨X2, e3⟩ : ∃ X, X = FL (ha (l ++ [x])) := ⟨_, rfl⟩
  obtain ⟨Y2, e4⟩ : ∃ Y, Y = FL (hb (l ++ [x])) := ⟨_, rfl⟩
  rw [← e1, ← e2, ← e3, ← e4] at hadd
  have Hadd := Lib.hid hadd
  unfold C at HB
  rw [← e1, ← e2] at HB
  have E3 := Lib.hid e3
  have E4 := Lib.hid e4
  clear hadd
  clear hi0 hB ho hne h0 hgl e1 e2 e3 e4
  go_enter Try.func20, Try.ntmps20
  have HBl := Lib.hid ((Below.refl base w).alloc hbl (.cells #[.int .u8 (x.toNat : Int)] 5))
  go_wp2_with (at_builtin; refine wpList_appO _ rfl (.tmp 10) (.tmp 12) 22 rfl base 5 i0 Try.underlying22 Hi.out (.slice A0 l.length c0) l rfl Ho.out (w.heap.size + 1) _ 1 1 [x] rfl rfl Hlit.out (by simp; omega) (by simp; omega) ?_; intro v2 w2 ho2 hg2 hor2 hb2; obtain ⟨A2, n2, c2, rfl, k1, k2, k3, k4, k5⟩ := in_facts Hb.out (HB.out.alloc _) Hne.out ho2 hg2 hor2 HBl.out hb2; have K5 := Lib.hid k5; clear k5 ho2 hg2 hor2 hb2)
  refine (Hadd.out _).mono ?_
  rintro e w3 ⟨rfl, rfl⟩
  go_wp2_with fail
  obtain ⟨j1, j2, j3, j4⟩ := K5.out X2 Y2
  refine bodyPost_end (results_none rfl _ _ _) rfl ⟨rfl, ⟨Hb.out, _, ?_, j2, j3⟩, j4⟩
  unfold C
  rw [← E3.out, ← E4.out]
  exact j1
theorem out_fin {V : World} {base g X Y : Nat} {l : List UInt8} {u0 u : Value} (hb0 : base ≤ g) (hB : Blk V g 58 #[u0, .complex .f64 X Y]) (hO : OwnO V base 5 u l) (hne : u.ownBlock ≠ some g) (hX : X = FL (ha l)) (hY : Y = FL (hb l)) : IsW (V.setCell ⟨g, 0, none⟩ u) base g l := by
  refine ⟨hb0, u, ?_, hO.far (p := ⟨g, 0, none⟩) hne u, hne⟩
  have := Blk.set_ hB 0 u
  unfold C
  rw [← hX, ← hY]
  exact this
theorem ok53_nat {a : Int} (h1 : 0 ≤ a) (h2 : a ≤ 4294967296) : ok53 a := ok53_of (by omega) (by omega)
set_option maxRecDepth 100000 in
set_option maxHeartbeats 1000000 in
theorem out_none {w : World} {base g : Nat} (h : IsW w base g []) : Calls Try.prog 21 #[.pointer (some ⟨g, 0, none⟩)] w fun e w' => e = .returned (.tuple #[.int .u8 0, .bool false]) ∧ w = w' := by
  have Hl := Lib.hid (wlen_calls h)
  clear h
  go_enter Try.func21, Try.ntmps21
  go_wp2_with fail
  refine Hl.out.mono ?_
  rintro e w1 ⟨rfl, rfl⟩
  go_wp2_with fail
  go_ret2
  exact ⟨rfl, rfl⟩
set_option maxRecDepth 100000 in
set_option maxHeartbeats 2000000 in
theorem out_calls {w : World} {base g : Nat} {x : UInt8} {l : List UInt8} (h : IsW w base g (x :: l)) (hm : l.length ≤ 140737488355320) : Calls Try.prog 21 #[.pointer (some ⟨g, 0, none⟩)] w
    fun e w' => e = .returned (.tuple #[.int .u8 (x.toNat : Int), .bool true]) ∧ IsW w' base g l ∧ Below base w w' := by
  have Hl := Lib.hid (wlen_calls h)
  have hgl := h.lt
  obtain ⟨h0, v, hB, ho, hne⟩ := h
  obtain ⟨A0, c0, rfl, t1, t2, t3⟩ := ho.opens
  obtain ⟨gb, ob, rfl, hgb, hcs⟩ := t3 (by simp)
  have Hgb := Lib.hid hgb
  clear hgb
  have hb0 := hcs 0 (by simp)
  simp only [Nat.add_zero, List.getD_cons_zero] at hb0
  have hc : w.cell? ⟨g, 0, none⟩ = some (.slice (some ⟨gb, ob, none⟩) (x :: l).length c0) := Blk.cell hB 0
  have hc1 : w.cell? ⟨g, 1, none⟩ = some (C (ha (x :: l)) (hb (x :: l))) := Blk.cell hB 1
  have q1 := ha_lt (x :: l)
  have q2 := hb_lt (x :: l)
  have q3 := ha_out x l
  have q4 := hb_out x l
  have q5 := x.toNat_lt
  generalize ha (x :: l) = a at *
  generalize hb (x :: l) = b at *
  generalize x.toNat = c at *
  have q6 : (((l.length + 1) % 65536 : Nat) : Int) < 65536 := by omega
  have q7 : ((l.length : Int) + 1) % 65536 = (((l.length + 1) % 65536 : Nat) : Int) := by omega
  obtain ⟨n, hn⟩ : ∃ n : Nat, n = (l.length + 1) % 65536 := ⟨_, rfl⟩
  rw [← hn] at q4 q6 q7
  have q8 : c * n < 256 * 65536 := Nat.mul_lt_mul_of_lt_of_lt q5 (by omega)
  have q9 : (c : Int) * (n : Int) = ((c * n : Nat) : Int) := by rw [Int.natCast_mul]
  obtain ⟨p, hp⟩ : ∃ p : Nat, p = c * n := ⟨_, rfl⟩
  rw [← hp] at q8 q9
  rw [q9] at q4
  have n1 : ∀ w, (binOp .mul 26 (C (c : Int) 0) (C 1 (n : Int))).run Try.prog w = .ok (C (c : Int) (p : Int)) w := fun w => by
    have := c_mul1 26 (c : Int) (n : Int) (ok53_nat (by omega) (by omega)) (ok53_nat (by omega) (by omega)) (by omega) (by omega) (by rw [q9]; exact ok53_nat (by omega) (by omega))
    rw [this, q9]
    rfl
  have n2 : ∀ w, (binOp .sub 26 (C (a : Int) (b : Int)) (C (c : Int) (p : Int))).run Try.prog w = .ok (C ((a : Int) - c) ((b : Int) - p)) w := fun w => by
    rw [c_sub _ _ _ _ _ (ok53_nat (by omega) (by omega)) (ok53_nat (by omega) (by omega)) (ok53_nat (by omega) (by omega)) (ok53_nat (by omega) (by omega)) (ok53_of (by omega) (by omega)) (ok53_of (by omega) (by omega))]
    rfl
  have Hred := Lib.hid (fun w => reduce_calls ((a : Int) - c) ((b : Int) - p) (by omega) (by omega) (by omega) (by omega) w)
  rw [q3, q4] at Hred
  have Ho := Lib.hid ho
  have HB := Lib.hid hB
  have Hne := Lib.hid hne
  have Hb := Lib.hid h0
  have hN : (x :: l).length = l.length + 1 := rfl
  rw [hN] at Hl hc t1
  obtain ⟨N, hN2⟩ : ∃ N, N = l.length + 1 := ⟨_, rfl⟩
  rw [← hN2] at Hl hc t1
  have hNp : 0 < N := by omega
  have hNb : N ≤ 140737488355321 := by omega
  have q7 : (N : Int) % 65536 = (n : Int) := by omega
  have HN := Lib.hid hN2
  have hN0 : ((N : Int) == 0) = false := by rw [beq_eq_false_iff_ne]; omega
  have Q7 := Lib.hid q7
  clear hN hN2 hm
  have Hc1' := Lib.hid hc1
  have N1 := Lib.hid n1
  have N2 := Lib.hid n2
  clear q3 q4 q9 hn hp hcs t3 ho hB hne h0 q7 hc1 n1 n2
  go_enter Try.func21, Try.ntmps21
  go_wp2_with fail
  refine Hl.out.mono ?_
  rintro e w1 ⟨rfl, rfl⟩
  go_wp2_with fail
  refine CanB.region 1000 (.op 0 2 (.op 1 2 (.op 2 2 (.op 3 1 (.op 4 2 (.op 5 1 (.op 6 2 (.op 7 2 (.op 8 2 (.op 9 1 (.op 10 2 (.op 11 2 (.op 12 2 (.op 13 2 (.nil))))))))))))))) (by kernel_rfl) (by kernel_rfl) ?_
  have Hc0 : Hid (w.drew.cell? ⟨g, 0, none⟩ = some (.slice (some ⟨gb, ob, none⟩) N c0)) := Lib.hid hc
  have Hc1 : Hid (w.drew.cell? ⟨gb, ob, none⟩ = some (.int .u8 (c : Int))) := Lib.hid hb0
  have Hg1 : Hid (g < w.drew.heap.size) := Lib.hid hgl
  have Hg2 : Hid (gb < w.drew.heap.size) := Hgb
  clear hc hb0
  have HBW : Hid (Blk w.drew g 58 _) := HB
  have HoW : Hid (OwnO w.drew base 5 _ _) := Ho
  have HwW := Lib.hid ((Below.refl base w).drew)
  have Hc3 : Hid (w.drew.cell? ⟨g, 1, none⟩ = some (C (a : Int) (b : Int))) := Hc1'
  clear HB Ho Hc1'
  generalize w.drew = W at *
  repeat (first | (refine CanT.skip rfl ?_ (fun K hK => ?_); (focus (go_simp; done)); go_simp; refine hK _ ?_; clear hK K) | (refine CanT.pur rfl ?_ ?_; (focus (go_simp; done)); refine ⟨?_, ?_, ?_⟩; rotate_left; (focus (intro w'; go_simp; rfl)); (focus (intro K hK; go_simp; refine hK _ ?_; clear hK K))) | (refine CanB.cell rfl ?_ (.slice (some ⟨gb, ob, none⟩) N c0) (.slice (some ⟨gb, ob, none⟩) N c0) ⟨g, 0, none⟩ Hc0.out Hg1.out ?_ (fun K hK => ?_); (focus (go_simp; done)); (focus (intro w' hc'; go_simp; (try rfl))); go_simp; refine hK _ ?_; clear hK K) | (refine CanB.cell rfl ?_ (.int .u8 (c : Int)) (.int .u8 (c : Int)) ⟨gb, ob, none⟩ Hc1.out Hg2.out ?_ (fun K hK => ?_); (focus (go_simp; done)); (focus (intro w' hc'; go_simp; (try rfl))); go_simp; refine hK _ ?_; clear hK K))
  have htm : (N : Int).tmod 65536 = (n : Int) := by rw [Int.tmod_eq_emod_of_nonneg (by omega)]; exact Q7.out
  rw [htm]
  refine CanT.done ?_
  have hred := Hred.out
  unfold C at hred
  obtain ⟨X, e1⟩ : ∃ X, X = FL (ha l) := ⟨_, rfl⟩
  obtain ⟨Y, e2⟩ : ∃ Y, Y = FL (hb l) := ⟨_, rfl⟩
  rw [← e1, ← e2] at hred
  have E1 := Lib.hid e1
  have E2 := Lib.hid e2
  have Hred2 : Hid (∀ w, Calls Try.prog 28 #[C ((a : Int) - c) ((b : Int) - p)] w fun e w' => e = .returned (.complex .f64 X Y) ∧ w = w') := Lib.hid hred
  clear hred e1 e2 htm Hred q7 Hl Hgb Hc1 Hg2
  go_wp2_with fail
  refine CanB.region 15 (.op 0 2 (.op 1 2 (.op 2 2 (.op 3 2 (.op 4 1 (.op 5 2 (.op 7 2 (.op 8 2 (.op 9 2 (.op 6 0 (.op 10 2 (.op 11 2 (.op 12 0 (.op 13 2 (.op 14 2 (.op 15 0 (.nil))))))))))))))))) (by kernel_rfl) (by kernel_rfl) ?_
  have Hc4 : Hid (W.drew.cell? ⟨g, 1, none⟩ = some (C (a : Int) (b : Int))) := Hc3
  have HBV : Hid (Blk W.drew g 58 _) := HBW
  have HoV : Hid (OwnO W.drew base 5 _ _) := HoW
  have Hg3 : Hid (g < W.drew.heap.size) := Hg1
  have HwV := Lib.hid (HwW.out.drew)
  clear Hc3 HBW HoW Hg1 HwW Hc0
  generalize W.drew = V at *
  repeat (first | (refine CanT.skip rfl ?_ (fun K hK => ?_); (focus (go_simp; done)); go_simp; refine hK _ ?_; clear hK K) | (refine CanT.pur rfl ?_ ?_; (focus (go_simp; done)); refine ⟨?_, ?_, ?_⟩; rotate_left; (focus (intro w'; go_simp; rfl)); (focus (intro K hK; go_simp; refine hK _ ?_; clear hK K))) | (refine CanB.cell rfl ?_ (C (a : Int) (b : Int)) (C (a : Int) (b : Int)) ⟨g, 1, none⟩ Hc4.out Hg3.out ?_ (fun K hK => ?_); (focus (go_simp; done)); (focus (intro w' hc'; go_simp; (try rfl))); go_simp; refine hK _ ?_; clear hK K))
  refine CanT.imp rfl (fun J hJ => ?_)
  go_simp
  refine (one_calls _ _).mono ?_
  rintro e w3 ⟨rfl, rfl⟩
  go_simp
  refine hJ.out _ _ (Below.refl _ _) ?_
  clear hJ J
  have n1 := N1.out
  have n2 := N2.out
  repeat (first | (refine CanT.skip rfl ?_ (fun K hK => ?_); (focus (go_simp; done)); go_simp; refine hK _ ?_; clear hK K) | (refine CanT.pur rfl ?_ ?_; (focus (go_simp; done)); refine ⟨?_, ?_, ?_⟩; rotate_left; (focus (intro w'; go_simp; rfl)); (focus (intro K hK; go_simp; refine hK _ ?_; clear hK K))))
  clear n1 n2
  refine CanT.imp rfl (fun J hJ => ?_)
  go_simp
  refine (Hred2.out _).mono ?_
  rintro e w3 ⟨rfl, rfl⟩
  go_simp
  refine hJ.out _ _ (Below.refl _ _) ?_
  clear hJ J
  repeat (first | (refine CanT.skip rfl ?_ (fun K hK => ?_); (focus (go_simp; done)); go_simp; refine hK _ ?_; clear hK K) | (refine CanT.pur rfl ?_ ?_; (focus (go_simp; done)); refine ⟨?_, ?_, ?_⟩; rotate_left; (focus (intro w'; go_simp; rfl)); (focus (intro K hK; go_simp; refine hK _ ?_; clear hK K))))
  have hc5 := Hc4.out
  have hf5 := Blk.frozen HBV.out 1
  refine CanT.last rfl (fun J hJ => ?_)
  go_simp
  refine hJ.out _ _ ?_
  clear hJ J hc5 hf5
  have hB6 : Blk (V.setCell ⟨g, 1, none⟩ (.complex .f64 X Y)) g 58 #[.slice (some ⟨gb, ob, none⟩) N c0, .complex .f64 X Y] := by
    have := Blk.set_ HBV.out 1 (.complex .f64 X Y)
    rw [show (x :: l).length = N by rw [HN.out]; rfl] at this
    exact this
  have hO6 := HoV.out.far (p := ⟨g, 1, none⟩) Hne.out (.complex .f64 X Y)
  have hO7 := hO6.drop 1 (by simp)
  have hne := Hne.out
  rw [show (x :: l).length = N by rw [HN.out]; rfl] at hO7
  simp only [List.drop_succ_cons, List.drop_zero] at hO7
  have hc5 : (V.setCell ⟨g, 1, none⟩ (.complex .f64 X Y)).cell? ⟨g, 0, none⟩ = some (.slice (some ⟨gb, ob, none⟩) N c0) := Blk.cell hB6 0
  have hf5 := Blk.frozen hB6 0
  have HB6 := Lib.hid hB6
  have HO7 := Lib.hid hO7
  have HB7 := Lib.hid (HwV.out.setCell (p := ⟨g, 1, none⟩) Hb.out (.complex .f64 X Y))
  have Hgne : Hid (gb ≠ g) := Lib.hid (fun e => hne (by rw [← e]; rfl))
  clear hB6 hO6 hO7 hne
  generalize V.setCell ⟨g, 1, none⟩ (.complex .f64 X Y) = V2 at *
  have z1 : (1 : Int) ≤ (N : Int) := by omega
  have z2 : (1 : Int) ≤ (c0 : Int) := by omega
  refine CanT.done ?_
  have HNN := Lib.hid (show N - 1 = l.length by rw [HN.out]; omega)
  clear HN hN0
  by_cases hc1 : c0 = 1
  · rw [if_pos hc1] at HO7
    go_wp2_with fail
    go_ret2
    subst hc1
    exact ⟨rfl, out_fin Hb.out HB6.out HO7.out (by intro e; injection e with e; exact Hgne.out e) E1.out E2.out, HB7.out.setCell (p := ⟨g, 0, none⟩) Hb.out _⟩
  · rw [if_neg hc1] at HO7
    go_wp2_with fail
    go_ret2
    simp only [Option.map_some, add_lit_] at HO7
    exact ⟨rfl, out_fin Hb.out HB6.out HO7.out (by intro e; injection e with e; exact Hgne.out e) E1.out E2.out, HB7.out.setCell (p := ⟨g, 0, none⟩) Hb.out _⟩
set_option maxRecDepth 100000 in
set_option maxHeartbeats 1000000 in
theorem roll_none {w : World} {base g : Nat} (h : IsW w base g []) (y : Int) : Calls Try.prog 19 #[.pointer (some ⟨g, 0, none⟩), .int .u8 y] w fun e w' => e = .returned (.bool false) ∧ w = w' := by
  have H := Lib.hid (out_none h)
  clear h
  go_enter Try.func19, Try.ntmps19
  go_wp2_with fail
  refine H.out.mono ?_
  rintro e w1 ⟨rfl, rfl⟩
  go_wp2_with fail
  go_ret
  exact ⟨rfl, rfl⟩
set_option maxRecDepth 100000 in
set_option maxHeartbeats 1000000 in
theorem roll_calls {w : World} {base g : Nat} {x : UInt8} {l : List UInt8} (h : IsW w base g (x :: l)) (y : UInt8) (hm : l.length ≤ 140737488355320) : Calls Try.prog 19 #[.pointer (some ⟨g, 0, none⟩), .int .u8 (y.toNat : Int)] w
    fun e w' => e = .returned (.bool true) ∧ IsW w' base g (l ++ [y]) ∧ Below base w w' := by
  have H := Lib.hid (out_calls h hm)
  clear h
  go_enter Try.func19, Try.ntmps19
  go_wp2_with fail
  refine H.out.mono ?_
  rintro e w1 ⟨rfl, h1, hb1⟩
  have H1 := Lib.hid (in_calls h1 y hm)
  have HB1 := Lib.hid hb1
  clear h1 hb1
  go_wp2_with fail
  refine H1.out.mono ?_
  rintro e w2 ⟨rfl, h2, hb2⟩
  have H2 := Lib.hid h2
  have HB2 := Lib.hid (HB1.out.trans hb2)
  clear h2 hb2
  go_wp2_with fail
  go_ret
  exact ⟨rfl, H2.out, HB2.out⟩
set_option maxRecDepth 100000 in
set_option maxHeartbeats 1000000 in
theorem bytes_calls {w : World} {base g : Nat} {l : List UInt8} (h : IsW w base g l) (hm : l.length ≤ 140737488355320) : Calls Try.prog 22 #[.pointer (some ⟨g, 0, none⟩)] w
    fun e w' => ∃ v, e = .returned v ∧ OwnB w' w.heap.size 5 v l ∧ Below w.heap.size w w' := by
  obtain ⟨h0, v, hB, ho, hne⟩ := h
  obtain ⟨A, c, rfl, h1, h2, h3⟩ := ho.opens
  have hc : w.cell? ⟨g, 0, none⟩ = some (.slice A l.length c) := Blk.cell hB 0
  have H3 := Lib.hid h3
  clear hB ho hne h3
  go_enter Try.func22, Try.ntmps22
  go_wp2_with fail
  refine (Cl.cloneN rfl h1 (by omega) H3.out).mono ?_
  rintro e w1 ⟨v, rfl, ho, hb⟩
  have Ho := Lib.hid ho
  have Hb := Lib.hid hb
  clear ho hb
  go_wp2_with fail
  go_ret
  exact ⟨v, rfl, Ho.out, Hb.out⟩
set_option maxRecDepth 100000 in
set_option maxHeartbeats 1000000 in
theorem fork_calls {w : World} {base g : Nat} {l : List UInt8} (h : IsW w base g l) (hm : l.length ≤ 140737488355320) : Calls Try.prog 23 #[.pointer (some ⟨g, 0, none⟩)] w
    fun e w' => ∃ g', e = .returned (.pointer (some ⟨g', 0, none⟩)) ∧ IsW w' w.heap.size g' l ∧ Below w.heap.size w w' := by
  have hgl := h.lt
  obtain ⟨h0, v, hB, ho, hne⟩ := h
  obtain ⟨A0, c0, rfl, h1, h2, h3⟩ := ho.opens
  unfold C at hB
  obtain ⟨X, e1⟩ : ∃ X, X = FL (ha l) := ⟨_, rfl⟩
  obtain ⟨Y, e2⟩ : ∃ Y, Y = FL (hb l) := ⟨_, rfl⟩
  rw [← e1, ← e2] at hB
  have E1 := Lib.hid e1
  have E2 := Lib.hid e2
  have Hc0 : Hid (w.drew.cell? ⟨g, 0, none⟩ = some (.slice A0 l.length c0)) := Lib.hid (Blk.cell hB 0)
  have Hc1 : Hid (w.drew.cell? ⟨g, 1, none⟩ = some (.complex .f64 X Y)) := Lib.hid (Blk.cell hB 1)
  have H3 : Hid (ReadB w.drew w.drew.heap.size A0 l) := Lib.hid h3
  have Hg1 : Hid (g < w.drew.heap.size) := Lib.hid hgl
  have HW := Lib.hid ((Below.refl w.heap.size w).drew)
  have Hs : Hid (w.drew.heap.size = w.heap.size) := Lib.hid rfl
  clear hB ho hne h3 e1 e2 hgl
  go_enter Try.func23, Try.ntmps23
  go_wp2_with fail
  refine CanB.region 1000 (.op 0 2 (.op 1 2 (.op 2 2 (.op 3 1 (.op 5 2 (.op 6 2 (.op 7 2 (.op 8 1 (.op 4 0 (.op 9 2 (.op 10 0 (.op 11 2 (.nil))))))))))))) (by kernel_rfl) (by kernel_rfl) ?_
  generalize w.drew = W at *
  repeat (first | (refine CanT.skip rfl ?_ (fun K hK => ?_); (focus (go_simp; done)); go_simp; refine hK _ ?_; clear hK K) | (refine CanT.pur rfl ?_ ?_; (focus (go_simp; done)); refine ⟨?_, ?_, ?_⟩; rotate_left; (focus (intro w'; go_simp; rfl)); (focus (intro K hK; go_simp; refine hK _ ?_; clear hK K))) | (refine CanB.cell rfl ?_ (.slice A0 l.length c0) (.slice A0 l.length c0) ⟨g, 0, none⟩ Hc0.out Hg1.out ?_ (fun K hK => ?_); (focus (go_simp; done)); (focus (intro w' hc'; go_simp; (try rfl))); go_simp; refine hK _ ?_; clear hK K) | (refine CanB.cell rfl ?_ (Value.complex .f64 X Y) (Value.complex .f64 X Y) ⟨g, 1, none⟩ Hc1.out Hg1.out ?_ (fun K hK => ?_); (focus (go_simp; done)); (focus (intro w' hc'; go_simp; (try rfl))); go_simp; refine hK _ ?_; clear hK K))
  refine CanT.imp rfl (fun J hJ => ?_)
  go_simp
  refine (Cl.cloneN rfl h1 (by omega) H3.out).mono ?_
  rintro e w1 ⟨v1, rfl, ho, hb⟩
  obtain ⟨A1, c1, rfl, t1, t2, t3, t4⟩ := ho.opens
  have Ho := Lib.hid ho
  have Hb := Lib.hid hb
  clear ho t3 t4
  go_simp
  refine hJ.out _ _ hb ?_
  clear hJ J hb
  repeat (first | (refine CanT.skip rfl ?_ (fun K hK => ?_); (focus (go_simp; done)); go_simp; refine hK _ ?_; clear hK K) | (refine CanT.pur rfl ?_ ?_; (focus (go_simp; done)); refine ⟨?_, ?_, ?_⟩; rotate_left; (focus (intro w'; go_simp; rfl)); (focus (intro K hK; go_simp; refine hK _ ?_; clear hK K))))
  have Hb2 := Lib.hid (Hb.out.alloc Hb.out.size (.cells #[.slice A1 l.length c1, .complex .f64 X Y] 58))
  refine CanT.imp rfl (fun J hJ => ?_)
  go_simp
  refine hJ.out _ _ Hb2.out ?_
  clear hJ J
  repeat (first | (refine CanT.skip rfl ?_ (fun K hK => ?_); (focus (go_simp; done)); go_simp; refine hK _ ?_; clear hK K) | (refine CanT.pur rfl ?_ ?_; (focus (go_simp; done)); refine ⟨?_, ?_, ?_⟩; rotate_left; (focus (intro w'; go_simp; rfl)); (focus (intro K hK; go_simp; refine hK _ ?_; clear hK K))))
  refine CanT.done ?_
  go_wp2_with fail
  go_ret
  refine ⟨w1.heap.size, rfl, ⟨by rw [← Hs.out]; exact Hb.out.size, _, by unfold C; rw [← E1.out, ← E2.out]; exact heap_alloc_new w1 _, by rw [← Hs.out]; exact OwnO.keptB (OwnO.of_own Ho.out) ((Below.refl _ _).alloc (Nat.le_refl _) _), fun e => ?_⟩, HW.out.trans (Hb2.out.mono (by rw [Hs.out]; exact Nat.le_refl _))⟩
  have := (World.ownsRow.lt Ho.out _ e).2
  omega
section
variable (w : World)
set_option maxHeartbeats 400000 in
theorem in_nil (y : Int) : Calls Try.prog 20 #[.pointer none, .int .u8 y] w fun e w' => e = .returned (.tuple #[]) ∧ w = w' := by
  go_enter Try.func20, Try.ntmps20
  go_wp2_with fail
  exact bodyPost_ret (results_none rfl _ _ _) rfl ⟨rfl, rfl⟩
set_option maxHeartbeats 400000 in
theorem sum_nil : Calls Try.prog 17 #[.pointer none] w fun e w' => e = .returned (.int .u32 0) ∧ w = w' := by
  go_enter Try.func17, Try.ntmps17
  go_wp2_with fail
  go_ret
  exact ⟨rfl, rfl⟩
set_option maxHeartbeats 400000 in
theorem len_nil : Calls Try.prog 18 #[.pointer none] w fun e w' => e = .returned (.int .i64 0) ∧ w = w' := by
  go_enter Try.func18, Try.ntmps18
  go_wp2_with fail
  go_ret
  exact ⟨rfl, rfl⟩
set_option maxHeartbeats 400000 in
theorem bytes_nil : Calls Try.prog 22 #[.pointer none] w fun e w' => e = .returned (.slice none 0 0) ∧ w = w' := by
  go_enter Try.func22, Try.ntmps22
  go_wp2_with fail
  go_ret
  exact ⟨rfl, rfl⟩
set_option maxHeartbeats 400000 in
theorem fork_nil : Calls Try.prog 23 #[.pointer none] w fun e w' => e = .returned (.pointer none) ∧ w = w' := by
  go_enter Try.func23, Try.ntmps23
  go_wp2_with fail
  go_ret
  exact ⟨rfl, rfl⟩
set_option maxRecDepth 100000 in
set_option maxHeartbeats 400000 in
theorem out_nil : Calls Try.prog 21 #[.pointer none] w fun e w' => e = .returned (.tuple #[.int .u8 0, .bool false]) ∧ w = w' := by
  go_enter Try.func21, Try.ntmps21
  go_wp2_with fail
  refine (len_nil _).mono ?_
  rintro e w1 ⟨rfl, rfl⟩
  go_wp2_with fail
  go_ret2
  exact ⟨rfl, rfl⟩
set_option maxRecDepth 100000 in
set_option maxHeartbeats 400000 in
theorem roll_nil (y : Int) : Calls Try.prog 19 #[.pointer none, .int .u8 y] w fun e w' => e = .returned (.bool false) ∧ w = w' := by
  go_enter Try.func19, Try.ntmps19
  go_wp2_with fail
  refine (out_nil _).mono ?_
  rintro e w1 ⟨rfl, rfl⟩
  go_wp2_with fail
  go_ret
  exact ⟨rfl, rfl⟩
end
end Ro
end Go.Proofs.Ytcbkhbnemhkheaa
