/- The sum, of the document's answer. -/
import Derived.Test.YtiofkhjpknfkgaaDoorM01
import Derived.Test.YtiofkhjpknfkgaaDoorM02
import Derived.Test.YtiofkhjpknfkgaaDoorM03
import Derived.Test.YtiofkhjpknfkgaaDoorM04
import Derived.Test.YtiofkhjpknfkgaaDoorM05
import Derived.Test.YtiofkhjpknfkgaaDoorM06
import Derived.Test.YtiofkhjpknfkgaaDoorM07
import Derived.Test.YtiofkhjpknfkgaaDoorM08
import Derived.Test.YtiofkhjpknfkgaaDoorM09
import Derived.Test.YtiofkhjpknfkgaaDoorM10
import Derived.Test.YtiofkhjpknfkgaaDoorM11
namespace Go.Proofs.YtiofkhjpknfkgaaDoor
namespace Sm
open Go.RowKit Ba
set_option linter.unusedVariables false
attribute [local go_sem] U_add U_add' U_xor U_and U_or U_of_u8
theorem shr8 (n m : Nat) : (8 : Int) * (n : Int) / (2 : Int) ^ (8 * m) % 256 = ((UInt8.ofNat (8 * n / 2 ^ (8 * m))).toNat : Int) := by
  rw [UInt8.toNat_ofNat']
  have e : ((2 : Int) ^ (8 * m)) = ((2 ^ (8 * m) : Nat) : Int) := by rw [Int.natCast_pow]; rfl
  rw [e]
  generalize 2 ^ (8 * m) = m
  have e2 : (8 * (n : Int)) / (m : Int) = ((8 * n / m : Nat) : Int) := by rw [Int.natCast_ediv]; rfl
  rw [e2]
  omega
set_option maxRecDepth 100000 in
set_option maxHeartbeats 2000000 in
theorem rof_calls (l : List UInt8) (A : Option Addr) (c : Nat) (w : World) (hr : ReadB w w.heap.size A l) (hlc : l.length ≤ c) (hll : l.length ≤ 140737488351232) :
    Calls Tryd.prog 28 #[.slice A l.length c] w fun e w' => e = .returned (.agg (bvs (sha l)).toArray) ∧ Below w.heap.size w w' := by
  obtain ⟨i0, hi0⟩ := isByte_of info5
  have Hi := Lib.hid hi0
  have Hr := Lib.hid hr
  clear hi0 hr
  go_enter Tryd.func28, Tryd.ntmps28
  go_wp2_with fail
  refine (rfirst_calls _).mono ?_
  rintro e w1 ⟨rfl, hb1⟩
  have hs0 : ∀ o, (w.alloc o).heap.size = w.heap.size + 1 := fun o => by simp
  rw [hs0] at hb1
  have hbw : Below w.heap.size w w1 := ((Below.refl _ _).alloc (Nat.le_refl _) _).trans (hb1.mono (by omega))
  have hR : Blk w1 w.heap.size 42 (bvs (List.replicate 32 0)).toArray := Blk.below (by rw [bvs_rep32]; exact heap_alloc_new _ _) hb1 (by omega)
  have Hbw := Lib.hid hbw
  have HR := Lib.hid hR
  clear hbw hR hs0 hb1
  generalize hf : first = fs
  have hfl : fs.length = 8 := by rw [← hf]; rfl
  have Hf := Lib.hid hf
  have Hfl := Lib.hid hfl
  clear hf hfl
  go_wp2_with (first
    | (refine wpList_storeW rfl 105 (.tmp 3) (.tmp 11) rfl w1.heap.size 105 (List.replicate 8 0) fs rfl rfl (BlkW.new_ _ _ _ _ _ (by rfl) (by rfl)) (by rw [Hfl.out]; rfl) (by rw [Hfl.out]; kernel_rfl) ?_; intro w2 hS2 hg2; have HS2 := Lib.hid hS2; have HR2 := Lib.hid (Blk.grown (Blk.alloc HR.out _) hg2 (by simp; have := HR.out.lt; omega)); have Hb2 := Lib.hid (Hbw.out.trans ((only_after ((Below.refl _ _).alloc (Nat.le_refl _) _) hg2 (Nat.le_refl _)).mono Hbw.out.size)); have Hr2 := Lib.hid (Hr.out.below Hb2.out); clear hS2 hg2)
    | (at_builtin; (refine wpList_appB _ rfl (.tmp 12) (.tmp 13) 22 rfl w2.heap.size 5 i0 Tryd.underlying22 Hi.out _ [] rfl (OwnB.lit0 w2 5 w2.heap.size w2.heap.size rfl (Nat.le_refl _)) w.heap.size A _ c l rfl rfl (Hr2.out.alloc Hb2.out.size _) (by simp; omega) (by simp) ?_); intro v3 w3 ho3 _ _ hb3; rw [List.nil_append] at ho3; have Ho3 := Lib.hid ho3; have Hb3 := Lib.hid (((Below.refl w2.heap.size w2).alloc (Nat.le_refl _) _).trans hb3); clear ho3 hb3)
    | (at_builtin; (refine wpList_appB _ rfl (.tmp 14) (.tmp 15) 22 rfl w2.heap.size 5 i0 Tryd.underlying22 Hi.out v3 l rfl (Ho3.out.alloc _) _ _ _ 1 [128] rfl rfl (ReadB.lit1 _ _ 128 128 rfl) (by simp; omega) (by have := Hb3.out.size; simp; omega) ?_); intro v5 w5 ho5 _ _ hb5; have Ho5 := Lib.hid ho5; have Hb5 := Lib.hid ((Hb3.out.alloc Hb3.out.size _).trans hb5); clear ho5 hb5))
  clear Ho3 Hb3
  obtain ⟨n, hn⟩ : ∃ n, n = l.length := ⟨_, rfl⟩
  have hnm : n ≤ 140737488351232 := by rw [hn]; exact hll
  have Hn := Lib.hid hn
  clear hn
  have hz := zeros_lt n
  have Hz := Lib.hid hz
  clear hz
  go_loopg [4] (zeros n) (fun m v wr => ∃ j : Nat, j ≤ zeros n ∧ m = zeros n - j ∧ OwnB wr w2.heap.size 5 v (l ++ 128 :: List.replicate j 0) ∧ Below w2.heap.size w2 wr)
  case atStart => exact ⟨0, Nat.zero_le _, rfl, Ho5.out, Hb5.out⟩
  case round =>
    obtain ⟨j, hj, hm, ho, hb⟩ := hrel
    obtain ⟨q, hq⟩ : ∃ q, q = l ++ 128 :: List.replicate j 0 := ⟨_, rfl⟩
    rw [← hq] at ho
    have hql : q.length = n + 1 + j := by rw [hq, List.length_append, ← Hn.out]; simp; omega
    have Hq := Lib.hid hq
    have Hm := Lib.hid hm
    obtain ⟨A5, c5, rfl, p1, p2, p3, p4⟩ := ho.opens
    have Ho := Lib.hid ho
    have Hb := Lib.hid hb
    have Hql := Lib.hid hql
    have hlt : q.length < 140737488351332 := by have := Hz.out; omega
    clear p3 p4 hb ho hm hq
    by_cases hjz : j < zeros n
    · have t1 : ((q.length : Int) % 64 == 56) = false := by
        have : ¬ (q.length : Int) % 64 = 56 := by unfold zeros at hjz; omega
        simpa using this
      have t2 : ((q.length : Int) % 64 != 56) = true := by rw [bne, t1]; rfl
      clear hql
      go_wp2_with ((at_builtin; go_loud (refine wpList_appB _ rfl (.tmp 21) (.tmp 22) 22 rfl w2.heap.size 5 i0 Tryd.underlying22 Hi.out _ q rfl (Ho.out.alloc _) _ _ _ 1 [0] rfl rfl (ReadB.lit1 _ _ 0 0 rfl) (by simp; omega) (by have := Hb.out.size; simp; omega) ?_); intro v6 w6 ho6 _ _ hb6; have Ho6 := Lib.hid ho6; have Hb6 := Lib.hid ((Hb.out.alloc Hb.out.size _).trans hb6); clear ho6 hb6))
      go_roundg (zeros n - (j + 1))
      case rel =>
        refine ⟨j + 1, by omega, rfl, ?_, Hb6.out⟩
        have e : l ++ 128 :: List.replicate (j + 1) 0 = q ++ [0] := by rw [Hq.out, List.replicate_succ']; simp
        rw [e]
        exact Ho6.out
      case measure => have := Hm.out; omega
    · have hjz2 : j = zeros n := by omega
      have t1 : ((q.length : Int) % 64 == 56) = true := by
        have : (q.length : Int) % 64 = 56 := by unfold zeros at hjz2; omega
        simpa using this
      have t2 : ((q.length : Int) % 64 != 56) = false := by rw [bne, t1]; rfl
      have hq2 := Hq.out
      rw [hjz2] at hq2
      have Hq2 := Lib.hid hq2
      clear hql hjz hjz2 hq2
      have hn0 : (l.length : Int) = (n : Int) := by rw [Hn.out]
      rw [← Hn.out]
      clear hn0
      go_wp2
      clear t1 t2
      go_loopw [4, 6] (fun v i wx => ∃ k : Nat, k ≤ 8 ∧ i = .int .i64 (7 - (k : Int)) ∧ OwnB wx w2.heap.size 5 v (q ++ (bytes8 (8 * n)).take k) ∧ Below w2.heap.size w2 wx) (fun _ i _ => (intOf i + 1).toNat)
      case atStart => exact ⟨0, Nat.zero_le _, rfl, by rw [List.take_zero, List.append_nil]; exact Ho.out, Hb.out⟩
      case round =>
        obtain ⟨k, hk, rfl, ho, hb⟩ := hrel
        obtain ⟨p, hp⟩ : ∃ p, p = q ++ (bytes8 (8 * n)).take k := ⟨_, rfl⟩
        rw [← hp] at ho
        have Hp := Lib.hid hp
        have hpl : p.length ≤ 140737488351400 := by rw [hp, List.length_append, List.length_take]; omega
        clear hp
        obtain ⟨A7, c7, rfl, p5, p6, p7, p8⟩ := ho.opens
        have Ho7 := Lib.hid ho
        have Hb7 := Lib.hid hb
        clear p7 p8 hb ho
        by_cases hk8 : k < 8
        · obtain ⟨m, hm⟩ : ∃ m : Nat, m + k = 7 := ⟨7 - k, by omega⟩
          rw [show (7 - (k : Int)) = (m : Int) by omega]
          have hu8 := shr8 n m
          generalize hz : UInt8.ofNat (8 * n / 2 ^ (8 * m)) = z at hu8
          have Hz8 := Lib.hid hz
          clear hz
          have Hmk := Lib.hid hm
          have hm7 : m ≤ 7 := by omega
          clear hm hk8
          go_wp2_with ((at_builtin; go_loud (refine wpList_appB _ rfl (.tmp 32) (.tmp 38) 22 rfl w2.heap.size 5 i0 Tryd.underlying22 Hi.out _ p rfl (Ho7.out.alloc _) _ _ _ 1 [z] rfl rfl (ReadB.lit1 _ _ _ _ (by first | rfl | exact hu8)) (by simp; omega) (by have := Hb7.out.size; simp; omega) ?_); intro v8 w8 ho8 _ _ hb8; have Ho8 := Lib.hid ho8; have Hb8 := Lib.hid ((Hb7.out.alloc Hb7.out.size _).trans hb8); clear ho8 hb8))
          have hmk := Hmk.out
          go_roundw
          case rel =>
            refine ⟨k + 1, by omega, by rw [show ((m : Int) - 1) = 7 - ((k + 1 : Nat) : Int) by omega], ?_, Hb8.out⟩
            rw [bytes8_succ _ _ (by omega), ← List.append_assoc, ← Hp.out, show 56 - 8 * k = 8 * m by omega, Hz8.out]
            exact Ho8.out
          case measure => first | (simp [intOf]; done) | (simp [intOf]; omega)
        · have hk8' : k = 8 := by omega
          obtain ⟨P, hP⟩ : ∃ P, P = l ++ pad n := ⟨_, rfl⟩
          have hpP : p = P := by
            rw [Hp.out, hk8', Hq2.out, hP, pad_eq, List.append_assoc]
            rfl
          rw [hpP] at Ho7 p5 hpl ⊢
          have hPl : P.length % 64 = 0 := by
            rw [hP, List.length_append, pad_len, Hn.out]
            exact zeros_mod _
          have hT7 : ReadT wr 5 A7 P := ReadT.of_own Ho7.out
          have HP := Lib.hid hP
          have HPl := Lib.hid hPl
          have HT7 := Lib.hid hT7
          clear hP hPl hT7 Ho7 hpP Hp
          go_wp2_with fail
          refine (rwords_calls _).mono ?_
          rintro e w9 ⟨rfl, hb9⟩
          have Hb9 := Lib.hid ((Hb7.out).trans (hb9.mono Hb7.out.size))
          have HT9 := Lib.hid (HT7.out.below hb9)
          clear hb9
          generalize hrt : rounds = rt
          have hrtl : rt.length = 64 := by rw [← hrt]; rfl
          have Hrt := Lib.hid hrt
          have Hrtl := Lib.hid hrtl
          clear hrt hrtl
          go_wp2_with (refine wpList_storeW rfl 108 (.tmp 7) (.tmp 40) rfl w9.heap.size 108 (List.replicate 64 0) rt rfl rfl (BlkW.new_ _ _ _ _ _ (by rfl) (by rfl)) (by rw [Hrtl.out]; rfl) (by rw [Hrtl.out]; kernel_rfl) ?_; intro w10 hK10 hg10)
          have hlt3 := HS2.out.lt
          have q3 := BlkW.grown (BlkW.alloc (HS2.out.below Hb9.out hlt3) (.cells (wvs (List.replicate 64 0)).toArray 108)) hg10 (by have := Hb9.out.size; simp; omega)
          have q2 := Blk.grown (Blk.alloc (HR2.out.below Hb9.out HR2.out.lt) (.cells (wvs (List.replicate 64 0)).toArray 108)) hg10 (by have := Hb9.out.size; have := HR2.out.lt; simp; omega)
          have qT : ReadT w10 5 A7 P := (HT9.out.below ((Below.refl _ _).alloc (Nat.le_refl _) (.cells (wvs (List.replicate 64 0)).toArray 108))).grown hg10 (heap_alloc_new _ _) (by decide)
          have qb : Below w.heap.size w w10 := ((Hb2.out.trans (Hb9.out.mono Hb2.out.size)).alloc (by have := Hb9.out.size; have := Hb2.out.size; omega) (.cells (wvs (List.replicate 64 0)).toArray 108)).trans (below_of_only hg10 (by have := Hb9.out.size; have := Hb2.out.size; omega) (by have := Hb9.out.size; have := Hb2.out.size; simp; omega))
          have hg37 : w1.heap.size < w9.heap.size := Nat.lt_of_lt_of_le hlt3 Hb9.out.size
          have hg03 : w.heap.size < w1.heap.size := HR.out.lt
          clear hg10
          generalize hg3 : w1.heap.size = g3 at *
          generalize hg7 : w9.heap.size = g7 at *
          have Hq3 := Lib.hid q3
          have Hq2' := Lib.hid q2
          have HqT := Lib.hid qT
          have Hqb := Lib.hid qb
          have HK := Lib.hid hK10
          have Hg37 := Lib.hid hg37
          have Hg03 := Lib.hid hg03
          clear q3 q2 qT qb hK10 hlt3 hg3 hg7 hg37 hg03
          go_loopw [8] (fun i wx => ∃ j q : Nat, q = 64 * j ∧ q ≤ P.length ∧ i = .int .i64 q ∧ BlkW wx g3 105 (stk P j) ∧ BlkW wx g7 108 rt ∧ ReadT wx 5 A7 P ∧ Blk wx w.heap.size 42 (bvs (List.replicate 32 0)).toArray ∧ Below w.heap.size w wx) (fun i _ => P.length - (intOf i).toNat)
          case atStart => exact ⟨0, 0, rfl, Nat.zero_le _, rfl, by rw [show stk P 0 = first from rfl, Hf.out]; exact Hq3.out, HK.out, HqT.out, Hq2'.out, Hqb.out⟩
          case round =>
            obtain ⟨j, q, hqj, hq, rfl, hS, hK, hT, hR2, hbel⟩ := hrel
            have HS := Lib.hid hS
            have HK := Lib.hid hK
            have HT := Lib.hid hT
            have HR2 := Lib.hid hR2
            have Hbel := Lib.hid hbel
            have Hqj := Lib.hid hqj
            clear hS hK hT hR2 hbel hqj
            by_cases hlt : q < P.length
            · have h64 : q + 64 ≤ P.length := by have := HPl.out; have := Hqj.out; omega
              obtain ⟨b5, o5, cs5, rfl, hb5, hc5⟩ := HT.out (by omega)
              clear hb5 hc5
              obtain ⟨S, hS⟩ : ∃ S, S = stk P j := ⟨_, rfl⟩
              have hSl : S.length = 8 := by rw [hS]; exact stk_len _ _
              have HSS := Lib.hid hS
              have HSl := Lib.hid hSl
              have HS1 : Hid (BlkW wr g3 105 S) := Lib.hid (by rw [hS]; exact HS.out)
              clear hS hSl
              have hblk : Calls Tryd.prog 64 #[.agg (wvs S).toArray, .slice (some ⟨b5, o5 + q, none⟩) 64 (c7 - q), .agg (wvs rt).toArray] wr.drew
                  fun e w' => e = .returned (.agg (wvs (stk P (j + 1))).toArray) ∧ Below wr.heap.size wr w' := by
                have hrd : ReadB wr.drew wr.drew.heap.size (some ⟨b5, o5 + q, none⟩) ((P.drop q).take 64) := (HT.out.readB.drop q).take 64
                rw [← Hrt.out]
                refine (rblock_calls S HSl.out ((P.drop q).take 64) (by rw [List.length_take, List.length_drop]; omega) _ _ wr.drew hrd).mono ?_
                rintro e w' ⟨h1, h2⟩
                have hd : Below wr.heap.size wr wr.drew := (Below.refl _ _).drew
                refine ⟨?_, hd.trans h2⟩
                rw [h1, HSS.out, Hqj.out]
                rfl
              have Hblk := Lib.hid hblk
              clear hblk
              have a0 : (0 : Int) ≤ (q : Int) := by omega
              have a1 : (q : Int) < (P.length : Int) := by omega
              have a2 : (q : Int) + 64 ≤ (P.length : Int) := by omega
              have a3 : ((q : Int) + 64).toNat = q + 64 := by omega
              have a4 : (0 : Int) ≤ (q : Int) + 64 := by omega
              have a5 : (q : Int) + 64 ≤ (c7 : Int) := by omega
              have a6 : (q : Int) ≤ (q : Int) + 64 := by omega
              have a7 : ¬ (c7 = q) := by omega
              have a8 : IntKind.i64.wrap ((q : Int) + 64) = (q : Int) + 64 := IntWalk.i64_in _ (by omega)
              go_wp2_with fail
              refine CanL.region (fun w' => BlkW w' g3 105 S ∧ BlkW w' g7 108 rt) 8 [(0, 1), (1, 2), (2, 2), (3, 2), (4, 2), (5, 2), (6, 1), (7, 0), (8, 0)] (by kernel_rfl) (by kernel_rfl) ⟨HS1.out, HK.out⟩ ?_
              refine CanL.heldW rfl ?_ 105 (.tmp 3) rfl g3 105 S rfl (fun w' h => h.1) _ Tryd.underlying105 rfl (by rw [HSl.out]; kernel_rfl) (fun K hK => ?_)
              · go_simp
              · go_simp
                refine hK _ ?_
                clear hK K
                iterate 5 (first | (refine CanL.pur rfl ?_ ?_; (focus (go_simp; done)); refine ⟨?_, ?_, ?_⟩; rotate_left; (focus (intro w'; go_simp; rfl)); (focus (intro K hK; go_simp; refine hK _ ?_; clear hK K))))
                refine CanL.heldW rfl ?_ 108 (.tmp 7) rfl g7 108 rt rfl (fun w' h => h.2) _ Tryd.underlying108 rfl (by rw [Hrtl.out]; kernel_rfl) (fun K hK => ?_)
                · go_simp
                · go_simp
                  refine hK _ ?_
                  clear hK K
                  refine CanL.imp rfl (fun K hK => ?_)
                  go_simp
                  refine Hblk.out.mono ?_
                  rintro e w11 ⟨rfl, hb11⟩
                  go_simp
                  refine hK.out _ _ ⟨HS1.out.below hb11 HS1.out.lt, HK.out.below hb11 HK.out.lt⟩ ?_
                  clear hK K
                  have hsl : (stk P (j + 1)).length = 8 := stk_len _ _
                  obtain ⟨S', hS'⟩ : ∃ S', S' = stk P (j + 1) := ⟨_, rfl⟩
                  rw [← hS'] at hsl ⊢
                  have HSl' := Lib.hid hsl
                  have HSS' := Lib.hid hS'
                  clear hsl hS'
                  refine CanL.lastW rfl ?_ 105 (.tmp 3) (.tmp 54) rfl g3 105 S S' rfl rfl (HS1.out.below hb11 HS1.out.lt) (by rw [HSl.out, HSl'.out]) (by rw [HSl'.out]; kernel_rfl) ?_
                  · go_simp
                  · intro w12 hS12 hg12
                    have hg12' : wr.grownBy w12 (some g3) := only_trans (only_of_below hb11 _) hg12
                    refine CanL.done ?_
                    have hK12 := HK.out.grown hg12' (by have := Hg37.out; simp; omega)
                    have hT12 := HT.out.grown hg12' HS1.out (by decide)
                    have hR12 := HR2.out.grown hg12' (by have := Hg03.out; simp; omega)
                    have hb12 := Hbel.out.trans (below_of_only hg12' (by have := Hg03.out; omega) Hbel.out.size)
                    have HK12 := Lib.hid hK12
                    have HT12 := Lib.hid hT12
                    have HR12 := Lib.hid hR12
                    have Hb12 := Lib.hid hb12
                    have HS12 := Lib.hid hS12
                    clear hK12 hT12 hR12 hb12 hS12 hg12 hg12' hb11 a0 a1 a2 a3 a4 a5 a6 a7 a8
                    go_wp2
                    go_roundw
                    case rel => exact ⟨j + 1, q + 64, by have := Hqj.out; omega, h64, by go_num, by rw [← HSS'.out]; exact HS12.out, HK12.out, HT12.out, HR12.out, Hb12.out⟩
                    case measure => simp [intOf]; omega
            · have hqP : j = P.length / 64 := by have := HPl.out; have := Hqj.out; omega
              have hS8 := HS.out
              rw [hqP] at hS8
              have e : stk P (P.length / 64) = st P := rfl
              rw [e] at hS8
              have hsl : (st P).length = 8 := stk_len _ _
              have ho : out (st P) = sha l := by rw [HP.out, Hn.out]; rfl
              obtain ⟨S, hSS⟩ : ∃ S, S = st P := ⟨_, rfl⟩
              rw [← hSS] at hS8 hsl ho
              have Ho := Lib.hid ho
              have HS8 := Lib.hid hS8
              have Hsl := Lib.hid hsl
              clear ho hS8 hsl hSS hqP e
              have hR3 : Blk (wr.alloc (.cells (bvs (List.replicate 32 0)).toArray 42)) wr.heap.size 42 (bvs (List.replicate 32 0)).toArray := heap_alloc_new _ _
              rw [← bvs_rep32] at hR3
              have HR3' := Lib.hid hR3
              have hltS := HS8.out.lt
              have hltR := HR2.out.lt
              have HltS := Lib.hid hltS
              have HltR := Lib.hid hltR
              clear hR3 hltS hltR
              go_wp2
              have hS9 := HS8.out.alloc (.cells (bvs (List.replicate 32 0)).toArray 42)
              have hR9 := HR2.out.alloc (.cells (bvs (List.replicate 32 0)).toArray 42)
              have hb9 := Hbel.out.alloc (Nat.le_of_lt HltR.out) (.cells (bvs (List.replicate 32 0)).toArray 42)
              rw [← bvs_rep32] at hS9 hR9 hb9
              have hR9' := HR3'.out
              generalize wr.alloc (.cells #[Value.int .u8 0, .int .u8 0, .int .u8 0, .int .u8 0, .int .u8 0, .int .u8 0, .int .u8 0, .int .u8 0, .int .u8 0, .int .u8 0, .int .u8 0, .int .u8 0, .int .u8 0, .int .u8 0, .int .u8 0, .int .u8 0, .int .u8 0, .int .u8 0, .int .u8 0, .int .u8 0, .int .u8 0, .int .u8 0, .int .u8 0, .int .u8 0, .int .u8 0, .int .u8 0, .int .u8 0, .int .u8 0, .int .u8 0, .int .u8 0, .int .u8 0, .int .u8 0] 42) = wL at hS9 hR9 hb9 hR9' ⊢
              rw [bvs_rep32] at hR9 hR9'
              generalize hg9 : wr.heap.size = g9 at hR9' HltS HltR ⊢
              have HS9 := Lib.hid hS9
              have HR9 := Lib.hid hR9
              have Hb9 := Lib.hid hb9
              have HR9' := Lib.hid hR9'
              clear hS9 hR9 hb9 hR9' HR3' hg9
              go_loopw [10] (fun i wx => ∃ k : Nat, k ≤ 32 ∧ i = .int .i64 k ∧ Blk wx g9 42 (bvs (oo S k)).toArray ∧ BlkW wx g3 105 S ∧ Blk wx w.heap.size 42 (bvs (List.replicate 32 0)).toArray ∧ Below w.heap.size w wx) (fun i _ => 32 - (intOf i).toNat)
              case atStart => exact ⟨0, Nat.zero_le _, rfl, HR9'.out, HS9.out, HR9.out, Hb9.out⟩
              case round =>
                obtain ⟨i, hi, rfl, hR3, hS8, hR2, hbw⟩ := hrel
                by_cases hil : i < 32
                · have hcs := hS8.cell (i / 4) (by rw [Hsl.out]; omega)
                  have hco := Blk.cell hR3 i
                  rw [List.getElem?_toArray, bvs_get _ _ (by rw [oo_len _ _ hi]; omega)] at hco
                  have hfo := Blk.frozen hR3 i
                  have hs4 := sh4 (Sm.g S (i / 4)) i
                  generalize hz : (Sm.g S (i / 4) >>> UInt32.ofNat (24 - 8 * (i % 4))).toUInt8 = z at hs4
                  have Hz9 := Lib.hid hz
                  clear hz
                  have HR3 := Lib.hid hR3
                  have HS8 := Lib.hid hS8
                  have HR2 := Lib.hid hR2
                  have Hbw := Lib.hid hbw
                  clear hR3 hS8 hR2 hbw
                  go_wp2
                  go_roundw
                  case rel =>
                    have u1 := HltS.out
                    have u2 := HltR.out
                    refine ⟨i + 1, by omega, by go_num, ?_, HS8.out.far (by simp; omega) _, HR2.out.far (by simp; omega) _, Hbw.out.setCell (by simp; omega) _⟩
                    have := Blk.set_ HR3.out i (.int .u8 (z.toNat : Int))
                    rw [toArray_set] at this
                    have e : (bvs (oo S i)).set i (.int .u8 (z.toNat : Int)) = bvs (oo S (i + 1)) := by
                      rw [← oo_set S i hil, Hz9.out]
                      simp [bvs, List.map_set, bv]
                    rw [e] at this
                    exact this
                  case measure => simp [intOf]; omega
                · have hi32 : i = 32 := by omega
                  rw [hi32, oo_32, Ho.out] at hR3
                  have hlo : (sha l).length = 32 := by rw [← Ho.out]; exact out_len _
                  obtain ⟨H, hH⟩ : ∃ H, H = sha l := ⟨_, rfl⟩
                  rw [← hH] at hR3 hlo
                  have HH := Lib.hid hH
                  have HR3 := Lib.hid hR3
                  have HR2 := Lib.hid hR2
                  have Hbw := Lib.hid hbw
                  have Hlo := Lib.hid hlo
                  clear hR3 hS8 hR2 hbw hi32 hi hlo hH
                  go_wp2_with (first
                    | (refine wpList_load_blk rfl 42 (.tmp 9) rfl g9 0 42 [] (bvs H) [] rfl (by simpa using HR3.out) rfl _ Tryd.underlying42 rfl (by rw [bvs_length, Hlo.out]; kernel_rfl) ?_)
                    | (refine wpList_store_blk rfl 42 (.tmp 2) (.tmp 71) rfl w.heap.size 0 42 [] (bvs (List.replicate 32 0)) [] (bvs H) rfl rfl (by simpa using HR2.out) rfl (by rw [bvs_length, bvs_length, Hlo.out]; rfl) (by rw [bvs_length, Hlo.out]; kernel_rfl) (bvs_one _) ?_; intro w9 hR9 hg9))
                  refine bodyPost_ret (results_cell_row (p := 2) (ty := 42) (by kernel_rfl) _ w9 w.heap.size 42 (bvs H).toArray (0, 0) _ rfl (by simp only [List.nil_append, List.append_nil] at hR9; exact hR9) Tryd.underlying42 rfl (by rw [List.size_toArray, bvs_length, Hlo.out]; kernel_rfl)) rfl ⟨by rw [HH.out], Hbw.out.trans (below_of_only hg9 (Nat.le_refl _) Hbw.out.size)⟩
end Sm
end Go.Proofs.YtiofkhjpknfkgaaDoor
/- Where a block is, of the document's answer. -/
namespace Go.Proofs.YtiofkhjpknfkgaaDoor
namespace Bk
open Go.RowKit Ba Sm Ro
set_option linter.unusedVariables false
theorem sgv_row {w : World} {b o : Nat} {x1 : Nat} {x2 : List UInt8} (h : w.rangeAt b o (sgv (x1, x2))) : w.cell? ⟨b, o, none⟩ = some (.int .u32 (x1 : Int)) ∧ w.rangeAt b (o + 1) (bvs x2) :=
  ⟨h 0 _ rfl, fun j u hu => by have := h (j + 1) u (by simpa [sgv] using hu); rwa [show o + (j + 1) = o + 1 + j by omega] at this⟩
theorem range_getD (n k : Nat) (hk : k < n) (d : Nat) : (List.range n).getD k d = k := by simp [List.getD, hk]
set_option maxRecDepth 100000 in
set_option maxHeartbeats 4000000 in
theorem rfind_calls (w : World) (z : Nat) (l : List Sg) (hz : z ≤ 4096) (hl : l.length ≤ 4096) (L : Option Addr) (d : Nat) (hL : ReadRow sgv 33 w w.heap.size L l) (b : List UInt8) (A : Option Addr) (c : Nat) (hr : ReadB w w.heap.size A b) (hbc : b.length ≤ c) (hbl : b.length ≤ 140737488351232) :
    Calls Tryd.prog 38 #[.int .i64 (z : Int), .slice L l.length d, .slice A b.length c] w
      fun e w' => e = .returned (.tuple #[.int .i64 (findB z l b).1, .bool (findB z l b).2]) ∧ Below w.heap.size w w' := by
  by_cases hbz : b.length = z
  · have hfb : findB z l b = tellIx z (findIx l (sgOf b)) := by unfold findB; rw [if_pos hbz]
    rw [hfb]
    obtain ⟨x1, hx1⟩ : ∃ x1, rsum b = x1 := ⟨_, rfl⟩
    obtain ⟨x2, hx2⟩ : ∃ x2, sha b = x2 := ⟨_, rfl⟩
    have hl2 : x2.length = 32 := by rw [← hx2]; exact hash_len b
    have hsum := fun w' B h => rsum_calls (w := w') (B := B) (l := b) (A := A) (n := b.length) (c := c) rfl h (by omega)
    have hof := fun w' h => rof_calls b A c w' h hbc (by omega)
    rw [hx1] at hsum
    rw [hx2] at hof
    have hsg : sgOf b = (x1, x2) := by unfold sgOf; rw [hx1, hx2]
    rw [hsg]
    obtain ⟨r, hr0⟩ : ∃ r, findIx l (x1, x2) = r := ⟨_, rfl⟩
    rw [hr0]
    obtain ⟨N, hN⟩ : ∃ N, N = l.length := ⟨_, rfl⟩
    unfold findIx at hr0
    rw [← hN] at hr0 hl ⊢
    rw [hbz] at hsum hof hbc hbl ⊢
    have Hr0 := Lib.hid hr0
    have HN := Lib.hid hN
    have Hsum := Lib.hid hsum
    have Hof := Lib.hid hof
    have Hl2 := Lib.hid hl2
    have Hr := Lib.hid hr
    have HL := Lib.hid hL
    clear hr0 hN hsum hof hl2 hr hL hsg hx1 hx2 hfb hbz
    go_enter Tryd.func38, Tryd.ntmps38
    go_wp2_with (first
      | (go_at_call 27; refine (Hsum.out _ _ Hr.out).mono ?_; rintro e w1 ⟨rfl, rfl⟩)
      | (go_at_call 28; refine (Hof.out _ Hr.out).mono ?_; rintro e w2 ⟨rfl, hb2⟩; have HB2 := Lib.hid hb2; clear hb2)
      | (refine wpList_store_blk rfl 42 (.tmp 9) (.tmp 18) rfl w2.heap.size 0 42 [] (List.replicate 32 (Value.int .u8 0)) [] (bvs x2) rfl rfl (by exact heap_alloc_new _ _) rfl (by rw [bvs_length, Hl2.out]; rfl) (by rw [bvs_length, Hl2.out]; kernel_rfl) (bvs_one _) ?_; intro w3 hS3 hg3))
    have hb3 : Below w2.heap.size w2 w3 := only_after ((Below.refl _ _).alloc (Nat.le_refl _) _) hg3 (Nat.le_refl _)
    have HS3 : Hid (Blk w3 w2.heap.size 42 (bvs x2).toArray) := Lib.hid (by simpa using hS3)
    have HB3 := Lib.hid (HB2.out.trans (hb3.mono HB2.out.size))
    have HL3 : Hid (ReadRow sgv 33 w3 w.heap.size L l) := Lib.hid (HL.out.below HB3.out)
    generalize w2.heap.size = gh at *
    clear hS3 hg3 hb3 HB2 Hsum Hof
    go_loopg [10] N (fun q v10 wr => ∃ k : Nat, k ≤ N ∧ q = N - k ∧ v10 = .int .i64 (k : Int) ∧ ((List.range N).take k).find? (fun i => sg l i == (x1, x2)) = none ∧ Below w3.heap.size w3 wr)
    case atStart => exact ⟨0, by omega, rfl, rfl, by simp, Below.refl _ _⟩
    case round =>
      obtain ⟨k, hk, hq, rfl, hf, hB⟩ := hrel
      have Hq := Lib.hid hq
      have Hf := Lib.hid hf
      have HB := Lib.hid hB
      clear hq hf hB
      by_cases hkn : k < N
      · have t1 : decide ((k : Int) < (N : Int)) = true := by rw [decide_eq_true_eq]; omega
        have hkl : k < l.length := by rw [← HN.out]; exact hkn
        obtain ⟨b1, o1, rfl, hb1, hc1⟩ := HL3.out.at_ (sg_get hkl)
        have hy1 := rw_len HL3.out.1 hkl
        obtain ⟨y1, y2, hy⟩ : ∃ y1 y2, sg l k = (y1, y2) := ⟨_, _, rfl⟩
        rw [hy] at hc1 hy1
        obtain ⟨hca, hcb⟩ := sgv_row hc1
        have hB3s := Nat.lt_of_lt_of_le hb1 HB3.out.size
        have HCa : Hid (wr.drew.cell? ⟨b1, o1 + k * 33, none⟩ = some (.int .u32 (y1 : Int))) := Lib.hid ((HB.out.cell (p := ⟨b1, o1 + k * 33, none⟩) hB3s).trans hca)
        have HCb : Hid (wr.drew.rangeAt b1 (o1 + k * 33 + 1) (bvs y2)) := Lib.hid fun j u hu => (HB.out.cell (p := ⟨b1, o1 + k * 33 + 1 + j, none⟩) hB3s).trans (hcb j u hu)
        have HSr : Hid (wr.drew.rangeAt gh 0 (bvs x2)) := Lib.hid (show wr.rangeAt gh 0 (bvs x2) from Blk.range [] (bvs x2) [] (by rw [List.append_nil, List.nil_append]; exact HS3.out.below HB.out HS3.out.lt))
        have Hgr : Hid (gh < wr.drew.heap.size) := Lib.hid (Nat.lt_of_lt_of_le HS3.out.lt HB.out.size)
        have Hb1 : Hid (b1 < wr.drew.heap.size) := Lib.hid (Nat.lt_of_lt_of_le hB3s HB.out.size)
        have HL1 : Hid (y2.length = 32) := Lib.hid hy1
        obtain ⟨ew, hew⟩ : ∃ ew, ew = decide (y1 = x1) := ⟨_, rfl⟩
        have hwe : ((y1 : Int) == (x1 : Int)) = ew := by
          rw [hew, Bool.eq_iff_iff, beq_iff_eq, decide_eq_true_eq]
          omega
        have hwe2 : decide ((y1 : Int) = (x1 : Int)) = ew := by
          rw [hew, Bool.eq_iff_iff, decide_eq_true_eq, decide_eq_true_eq]
          omega
        obtain ⟨eb, heb⟩ : ∃ eb, eb = (y2 == x2) := ⟨_, rfl⟩
        have heq : ∀ w', (binOp .eql 42 (.agg (bvs y2).toArray) (.agg (bvs x2).toArray)).run Tryd.prog w' = .ok (.bool eb) w' := fun w' => by rw [heb]; exact run_eqB y2 x2 HL1.out Hl2.out w'
        have hkz : (k : Int) * (z : Int) = ((k * z : Nat) : Int) := by rw [Int.natCast_mul]
        have hzk : (z : Int) * (k : Int) = ((k * z : Nat) : Int) := by rw [Int.natCast_mul, Int.mul_comm]
        have hkz2 : k * z ≤ 16777216 := Nat.mul_le_mul (show k ≤ 4096 by omega) hz
        obtain ⟨m, hm⟩ : ∃ m, m = k * z := ⟨_, rfl⟩
        rw [← hm] at hzk hkz2
        have hmw : IntKind.i64.wrap (m : Int) = (m : Int) := by rw [IntKind.wrap_i64]; omega
        have hres : (sg l k == (x1, x2)) = (ew && eb) := by
          rw [hy, hew, heb, Bool.eq_iff_iff]
          simp [Prod.ext_iff]
        have Hres := Lib.hid hres
        have Hm := Lib.hid hm
        clear hc1 hb1 hy1 hca hcb hB3s hy hew heb hkz hm hres hkl
        cases ew with
        | true =>
          cases eb with
          | true =>
            go_wp2_with fail
            refine CanB.region 1000 (.op 0 2 (.op 1 2 (.op 2 2 (.op 3 2 (.op 4 1 (.op 5 2 (.op 6 2 (.op 7 2 (.op 8 2 (.op 9 2 (.op 10 2 (.op 11 2 (.op 12 1 (.op 13 1 (.op 14 2 (.op 15 2 (.nil))))))))))))))))) (by kernel_rfl) (by kernel_rfl) ?_
            repeat (first | (refine CanT.skip rfl ?_ (fun K hK => ?_); (focus (go_simp; done)); go_simp; refine hK _ ?_; clear hK K) | (refine CanT.pur rfl ?_ ?_; (focus (go_simp; done)); refine ⟨?_, ?_, ?_⟩; rotate_left; (focus (intro w'; go_simp; rfl)); (focus (intro K hK; go_simp; refine hK _ ?_; clear hK K))) | (refine CanB.cell rfl ?_ (.int .u32 (y1 : Int)) (.int .u32 (y1 : Int)) ⟨b1, o1 + k * 33, none⟩ HCa.out Hb1.out ?_ (fun K hK => ?_); (focus (go_simp; done)); (focus (intro w' hc'; go_simp; (try rfl))); go_simp; refine hK _ ?_; clear hK K) | (refine CanB.row rfl ?_ 42 _ rfl b1 (o1 + k * 33 + 1) (bvs y2) rfl HCb.out Hb1.out _ Tryd.underlying42 rfl (by rw [bvs_length, HL1.out]; kernel_rfl) (fun K hK => ?_); (focus (go_simp; done)); go_simp; refine hK _ ?_; clear hK K) | (refine CanB.row rfl ?_ 42 _ rfl gh (0) (bvs x2) rfl HSr.out Hgr.out _ Tryd.underlying42 rfl (by rw [bvs_length, Hl2.out]; kernel_rfl) (fun K hK => ?_); (focus (go_simp; done)); go_simp; refine hK _ ?_; clear hK K))
            refine CanT.done ?_
            go_wp2_with fail
            go_ret2
            refine ⟨?_, HB3.out.trans (HB.out.drew.mono HB3.out.size)⟩
            have hr1 : r = some k := by
              rw [← Hr0.out]
              have := find_take_none (fun i => sg l i == (x1, x2)) (List.range N) k 0 Hf.out (by simpa using hkn) (by rw [range_getD N k hkn]; exact Hres.out)
              rw [range_getD N k hkn] at this
              exact this
            have e : tellIx z (some k) = ((m : Int), true) := by rw [Hm.out]; rfl
            rw [hr1, e]
            rfl
          | false =>
            go_wp2_with fail
            refine CanB.region 1000 (.op 0 2 (.op 1 2 (.op 2 2 (.op 3 2 (.op 4 1 (.op 5 2 (.op 6 2 (.op 7 2 (.op 8 2 (.op 9 2 (.op 10 2 (.op 11 2 (.op 12 1 (.op 13 1 (.op 14 2 (.op 15 2 (.nil))))))))))))))))) (by kernel_rfl) (by kernel_rfl) ?_
            repeat (first | (refine CanT.skip rfl ?_ (fun K hK => ?_); (focus (go_simp; done)); go_simp; refine hK _ ?_; clear hK K) | (refine CanT.pur rfl ?_ ?_; (focus (go_simp; done)); refine ⟨?_, ?_, ?_⟩; rotate_left; (focus (intro w'; go_simp; rfl)); (focus (intro K hK; go_simp; refine hK _ ?_; clear hK K))) | (refine CanB.cell rfl ?_ (.int .u32 (y1 : Int)) (.int .u32 (y1 : Int)) ⟨b1, o1 + k * 33, none⟩ HCa.out Hb1.out ?_ (fun K hK => ?_); (focus (go_simp; done)); (focus (intro w' hc'; go_simp; (try rfl))); go_simp; refine hK _ ?_; clear hK K) | (refine CanB.row rfl ?_ 42 _ rfl b1 (o1 + k * 33 + 1) (bvs y2) rfl HCb.out Hb1.out _ Tryd.underlying42 rfl (by rw [bvs_length, HL1.out]; kernel_rfl) (fun K hK => ?_); (focus (go_simp; done)); go_simp; refine hK _ ?_; clear hK K) | (refine CanB.row rfl ?_ 42 _ rfl gh (0) (bvs x2) rfl HSr.out Hgr.out _ Tryd.underlying42 rfl (by rw [bvs_length, Hl2.out]; kernel_rfl) (fun K hK => ?_); (focus (go_simp; done)); go_simp; refine hK _ ?_; clear hK K))
            refine CanT.done ?_
            go_wp2_with fail
            go_roundg (N - (k + 1))
            case rel => exact ⟨k + 1, by omega, rfl, rfl, find_take_succ (fun i => sg l i == (x1, x2)) (List.range N) k 0 Hf.out (by simpa using hkn) (by rw [range_getD N k hkn]; exact Hres.out), HB.out.drew⟩
            case measure => have := Hq.out; omega
        | false =>
          go_wp2_with fail
          refine CanB.region 1000 (.op 0 2 (.op 1 2 (.op 2 2 (.op 3 2 (.op 4 1 (.op 5 2 (.op 6 2 (.op 7 2 (.op 8 2 (.op 9 2 (.op 10 2 (.op 11 2 (.op 12 1 (.op 13 1 (.op 14 2 (.op 15 2 (.nil))))))))))))))))) (by kernel_rfl) (by kernel_rfl) ?_
          repeat (first | (refine CanT.skip rfl ?_ (fun K hK => ?_); (focus (go_simp; done)); go_simp; refine hK _ ?_; clear hK K) | (refine CanT.pur rfl ?_ ?_; (focus (go_simp; done)); refine ⟨?_, ?_, ?_⟩; rotate_left; (focus (intro w'; go_simp; rfl)); (focus (intro K hK; go_simp; refine hK _ ?_; clear hK K))) | (refine CanB.cell rfl ?_ (.int .u32 (y1 : Int)) (.int .u32 (y1 : Int)) ⟨b1, o1 + k * 33, none⟩ HCa.out Hb1.out ?_ (fun K hK => ?_); (focus (go_simp; done)); (focus (intro w' hc'; go_simp; (try rfl))); go_simp; refine hK _ ?_; clear hK K) | (refine CanB.row rfl ?_ 42 _ rfl b1 (o1 + k * 33 + 1) (bvs y2) rfl HCb.out Hb1.out _ Tryd.underlying42 rfl (by rw [bvs_length, HL1.out]; kernel_rfl) (fun K hK => ?_); (focus (go_simp; done)); go_simp; refine hK _ ?_; clear hK K) | (refine CanB.row rfl ?_ 42 _ rfl gh (0) (bvs x2) rfl HSr.out Hgr.out _ Tryd.underlying42 rfl (by rw [bvs_length, Hl2.out]; kernel_rfl) (fun K hK => ?_); (focus (go_simp; done)); go_simp; refine hK _ ?_; clear hK K))
          refine CanT.done ?_
          go_wp2_with fail
          go_roundg (N - (k + 1))
          case rel => exact ⟨k + 1, by omega, rfl, rfl, find_take_succ (fun i => sg l i == (x1, x2)) (List.range N) k 0 Hf.out (by simpa using hkn) (by rw [range_getD N k hkn]; exact Hres.out), HB.out.drew⟩
          case measure => have := Hq.out; omega
      · have hkn2 : k = N := by omega
        have t1 : decide ((k : Int) < (N : Int)) = false := by rw [decide_eq_false_iff_not]; omega
        have t2 : ¬ k < N := by omega
        go_wp2_with fail
        go_ret2
        refine ⟨?_, HB3.out.trans (HB.out.mono HB3.out.size)⟩
        have hr1 : r = none := by
          have hf := Hf.out
          rw [hkn2, List.take_of_length_le (by simp)] at hf
          rw [← Hr0.out, hf]
        rw [hr1]
        rfl
  · have hf : findB z l b = (0, false) := by unfold findB; rw [if_neg hbz]
    rw [hf]
    have h3 : ¬ (b.length : Int) = (z : Int) := by omega
    clear hr hf hL
    go_enter Tryd.func38, Tryd.ntmps38
    go_wp2_with fail
    go_ret2
    exact ⟨rfl, Below.refl _ _⟩
end Bk
end Go.Proofs.YtiofkhjpknfkgaaDoor
