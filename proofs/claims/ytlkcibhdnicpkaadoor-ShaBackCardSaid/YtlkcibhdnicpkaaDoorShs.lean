/- The sum that a hasher tells. -/
import Derived.Test.YtlkcibhdnicpkaaDoorShw
namespace Go.Proofs.YtlkcibhdnicpkaaDoor
namespace Sm
open Go.RowKit Ba
set_option linter.unusedVariables false
attribute [local go_sem] U_add U_add' U_xor U_and U_or U_of_u8
theorem sh8 (n k : Nat) : (n : Int) * 8 / (2 : Int) ^ (56 - 8 * k) % 256 = ((UInt8.ofNat (8 * n / 2 ^ (56 - 8 * k))).toNat : Int) := by
  rw [UInt8.toNat_ofNat', Int.mul_comm]
  have e : ((2 : Int) ^ (56 - 8 * k)) = ((2 ^ (56 - 8 * k) : Nat) : Int) := by rw [Int.natCast_pow]; rfl
  rw [e]
  generalize 2 ^ (56 - 8 * k) = m
  have e2 : (8 * (n : Int)) / (m : Int) = ((8 * n / m : Nat) : Int) := by rw [Int.natCast_ediv]; rfl
  rw [e2]
  omega
theorem sh4 (x : UInt32) (k : Nat) : U x / (2 : Int) ^ (24 - 8 * (k % 4)) % 256 = (((x >>> UInt32.ofNat (24 - 8 * (k % 4))).toUInt8).toNat : Int) := by
  rw [U_shr x _ (by omega)]
  unfold U
  rw [UInt32.toNat_toUInt8]
  omega
theorem three_start {w w3 : World} {C1 C2 C3 : Array Value} {t1 t2 t3 : TypeId} (h : (((w.alloc (.cells C1 t1)).alloc (.cells C2 t2)).alloc (.cells C3 t3)).grownBy w3 (some (w.heap.size + 2))) :
    Below w.heap.size w w3 ∧ Blk w3 w.heap.size t1 C1 ∧ Blk w3 (w.heap.size + 1) t2 C2 := by
  have hb : Below w.heap.size w (((w.alloc (.cells C1 t1)).alloc (.cells C2 t2)).alloc (.cells C3 t3)) := (((Below.refl _ _).alloc (Nat.le_refl _) _).alloc (by simp) _).alloc (by simp; omega) _
  have h1 : Blk (((w.alloc (.cells C1 t1)).alloc (.cells C2 t2)).alloc (.cells C3 t3)) w.heap.size t1 C1 := Blk.alloc (Blk.alloc (heap_alloc_new _ _) _) _
  have h2 : Blk (((w.alloc (.cells C1 t1)).alloc (.cells C2 t2)).alloc (.cells C3 t3)) (w.heap.size + 1) t2 C2 := Blk.alloc (heap_alloc2_new _ _ _) _
  exact ⟨only_after hb h (by omega), h1.grown h (by simp), h2.grown h (by simp)⟩
theorem bvs_rep32 : #[Value.int .u8 0, .int .u8 0, .int .u8 0, .int .u8 0, .int .u8 0, .int .u8 0, .int .u8 0, .int .u8 0, .int .u8 0, .int .u8 0, .int .u8 0, .int .u8 0, .int .u8 0, .int .u8 0, .int .u8 0, .int .u8 0, .int .u8 0, .int .u8 0, .int .u8 0, .int .u8 0, .int .u8 0, .int .u8 0, .int .u8 0, .int .u8 0, .int .u8 0, .int .u8 0, .int .u8 0, .int .u8 0, .int .u8 0, .int .u8 0, .int .u8 0, .int .u8 0] = (bvs (List.replicate 32 0)).toArray := rfl
set_option maxRecDepth 100000 in
set_option maxHeartbeats 2000000 in
theorem sum_calls (w : World) (g : Nat) (l : List UInt8) (h : IsH w g l) (hg : 0 < g) (htab : Tab w) (hll : l.length ≤ 1152921504606846975) :
    Calls Tryd.prog 18 #[.pointer (some ⟨g, 0, none⟩)] w fun e w' => e = .returned (.agg (bvs (sha l)).toArray) ∧ Below w.heap.size w w' := by
  obtain ⟨i0, hi0⟩ := isByte_of info5
  have Hi := Lib.hid hi0
  have hgl := h.lt
  obtain ⟨A0, c0, h1, h2, h3, h4, h5⟩ := h
  have hc9 := cell9 h1 h2
  have hc8 := cell8 h1 h2
  have hrl := rs_len l
  have Hrl := Lib.hid hrl
  have H1 := Lib.hid h1
  have H2 := Lib.hid h2
  have H5 := Lib.hid h5
  have Htab := Lib.hid htab
  have Hgl := Lib.hid hgl
  have hlen : (rs l).length ≤ 63 := by omega
  clear hrl h1 h2 h5 htab hgl hi0
  go_enter Tryd.func18, Tryd.ntmps18
  go_wp2_with (first
    | (refine wpList_load_blk rfl 68 (.tmp 13) rfl g 0 71 [] (wvs (st l)) _ rfl (Blk.alloc (Blk.alloc H1.out _) _) rfl _ Tryd.underlying68 rfl (by rw [wvs_len, H2.out]; kernel_rfl) ?_)
    | (refine wpList_storeW rfl 68 (.tmp 4) (.tmp 14) rfl (w.heap.size + 2) 68 (List.replicate 8 0) (st l) rfl rfl (BlkW.new_ _ _ _ _ _ (by simp) (by rfl)) (by rw [H2.out]; rfl) (by rw [H2.out]; kernel_rfl) ?_; intro w3 hS3 hg3; obtain ⟨hb3, hR2, hR3⟩ := three_start hg3; have hB3 := H1.out.below hb3 Hgl.out; have hc8 := cell8 hB3 H2.out; have hc9 := cell9 hB3 H2.out; have HB3 := Lib.hid hB3; have HS3 := Lib.hid hS3; have HR2 := Lib.hid hR2; have HR3 := Lib.hid hR3; have HT3 := Lib.hid (H5.out.below hb3); have Htab3 := Lib.hid (Htab.out.below hb3); have Hb3 := Lib.hid hb3; clear hS3 hg3 hb3 hR2 hR3 hB3)
    | (go_at_call 43; refine (clone_calls (rs l) A0 c0 h3 (by omega) _ HT3.out.readB).mono ?_; rintro e w4 ⟨v4, rfl, ho4, hb4⟩; have Ho4 := Lib.hid ho4; have Hb4 := Lib.hid hb4; clear ho4 hb4)
    | (at_builtin; go_loud (refine wpList_appB _ rfl (.tmp 19) (.tmp 20) 22 rfl w3.heap.size 5 i0 Tryd.underlying22 Hi.out v4 (rs l) rfl (Ho4.out.alloc _) _ _ _ 1 [128] rfl rfl (ReadB.lit1 _ _ 128 128 rfl) (by simp; omega) (by have := Hb4.out.size; simp; omega) ?_); intro v5 w5 ho5 _ _ hb5; have Ho5 := Lib.hid ho5; have Hb5 := Lib.hid ((Hb4.out.alloc Hb4.out.size _).trans hb5); clear ho5 hb5))
  rw [bvs_rep32] at HR2 HR3
  clear hc8 HT3 Ho4 Hb4
  obtain ⟨n, hn⟩ : ∃ n, n = l.length := ⟨_, rfl⟩
  have Hn := Lib.hid hn
  clear hn
  have hz := zeros_lt n
  have Hz := Lib.hid hz
  clear hz
  go_loopg [5] (zeros n) (fun m v wr => ∃ j : Nat, j ≤ zeros n ∧ m = zeros n - j ∧ OwnB wr w3.heap.size 5 v (rs l ++ 128 :: List.replicate j 0) ∧ Below w3.heap.size w3 wr)
  case atStart => exact ⟨0, Nat.zero_le _, rfl, Ho5.out, Hb5.out⟩
  case round =>
    obtain ⟨j, hj, hm, ho, hb⟩ := hrel
    obtain ⟨q, hq⟩ : ∃ q, q = rs l ++ 128 :: List.replicate j 0 := ⟨_, rfl⟩
    rw [← hq] at ho
    have hql : q.length = n % 64 + 1 + j := by rw [hq, List.length_append, Hrl.out, ← Hn.out]; simp; omega
    have Hq := Lib.hid hq
    have Hm := Lib.hid hm
    obtain ⟨A5, c5, rfl, p1, p2, p3, p4⟩ := ho.opens
    have Ho := Lib.hid ho
    have Hb := Lib.hid hb
    have Hql := Lib.hid hql
    have hlt : q.length < 200 := by have := Hz.out; omega
    clear p3 p4 hb ho hm hq
    by_cases hjz : j < zeros n
    · have t1 : ((q.length : Int) % 64 == 56) = false := by
        have : ¬ (q.length : Int) % 64 = 56 := by unfold zeros at hjz; omega
        simpa using this
      have t2 : ((q.length : Int) % 64 != 56) = true := by rw [bne, t1]; rfl
      clear hql
      go_wp2_with ((at_builtin; go_loud (refine wpList_appB _ rfl (.tmp 26) (.tmp 27) 22 rfl w3.heap.size 5 i0 Tryd.underlying22 Hi.out _ q rfl (Ho.out.alloc _) _ _ _ 1 [0] rfl rfl (ReadB.lit1 _ _ 0 0 rfl) (by simp; omega) (by have := Hb.out.size; simp; omega) ?_); intro v6 w6 ho6 _ _ hb6; have Ho6 := Lib.hid ho6; have Hb6 := Lib.hid ((Hb.out.alloc Hb.out.size _).trans hb6); clear ho6 hb6))
      go_roundg (zeros n - (j + 1))
      case rel =>
        refine ⟨j + 1, by omega, rfl, ?_, Hb6.out⟩
        have e : rs l ++ 128 :: List.replicate (j + 1) 0 = q ++ [0] := by rw [Hq.out, List.replicate_succ']; simp
        rw [e]
        exact Ho6.out
      case measure => have := Hm.out; omega
    · have hjz2 : j = zeros n := by omega
      have t1 : ((q.length : Int) % 64 == 56) = true := by
        have : (q.length : Int) % 64 = 56 := by unfold zeros at hjz2; omega
        simpa using this
      have t2 : ((q.length : Int) % 64 != 56) = false := by rw [bne, t1]; rfl
      have hq2 := Hq.out
      rw [hjz2] at hq2
      have Hq2 := Lib.hid hq2
      have Hjz2 := Lib.hid hjz2
      clear hql hjz hjz2 hq2
      go_wp2
      clear t1 t2
      have hn60 : n ≤ 1152921504606846975 := by rw [Hn.out]; exact hll
      rw [← Hn.out] at HB3
      go_loopw [5, 6] (fun v i wx => ∃ k : Nat, k ≤ 8 ∧ i = .int .i64 (56 - 8 * (k : Int)) ∧ OwnB wx w3.heap.size 5 v (q ++ (bytes8 (8 * n)).take k) ∧ Below w3.heap.size w3 wx) (fun _ i _ => (intOf i + 8).toNat)
      case atStart => exact ⟨0, Nat.zero_le _, rfl, by rw [List.take_zero, List.append_nil]; exact Ho.out, Hb.out⟩
      case round =>
        obtain ⟨k, hk, rfl, ho, hb⟩ := hrel
        obtain ⟨p, hp⟩ : ∃ p, p = q ++ (bytes8 (8 * n)).take k := ⟨_, rfl⟩
        rw [← hp] at ho
        have Hp := Lib.hid hp
        have hpl : p.length ≤ 300 := by rw [hp, List.length_append, List.length_take]; omega
        clear hp
        obtain ⟨A7, c7, rfl, p5, p6, p7, p8⟩ := ho.opens
        have hc9 := cell9 (HB3.out.below hb HB3.out.lt) H2.out
        have Ho7 := Lib.hid ho
        have Hb7 := Lib.hid hb
        clear p7 p8 hb ho
        by_cases hk8 : k < 8
        · have hu8 := sh8 n k
          generalize hz : UInt8.ofNat (8 * n / 2 ^ (56 - 8 * k)) = z at hu8
          have Hz8 := Lib.hid hz
          clear hz
          go_wp2_with ((at_builtin; go_loud (refine wpList_appB _ rfl (.tmp 33) (.tmp 43) 22 rfl w3.heap.size 5 i0 Tryd.underlying22 Hi.out _ p rfl (Ho7.out.alloc _) _ _ _ 1 [z] rfl rfl (ReadB.lit1 _ _ _ _ (by first | rfl | exact hu8)) (by simp; omega) (by have := Hb7.out.size; simp; omega) ?_); intro v8 w8 ho8 _ _ hb8; have Ho8 := Lib.hid ho8; have Hb8 := Lib.hid ((Hb7.out.alloc Hb7.out.size _).trans hb8); clear ho8 hb8))
          go_roundw
          case rel =>
            refine ⟨k + 1, by omega, by rw [show (56 - 8 * (k : Int) - 8) = 56 - 8 * ((k + 1 : Nat) : Int) by omega], ?_, Hb8.out⟩
            rw [bytes8_succ _ _ hk8, ← List.append_assoc, ← Hp.out, Hz8.out]
            exact Ho8.out
          case measure => simp [intOf]; omega
        · have hk8' : k = 8 := by omega
          obtain ⟨P, hP⟩ : ∃ P, P = l ++ pad n := ⟨_, rfl⟩
          have hpP : p = P.drop (64 * (l.length / 64)) := by
            rw [Hp.out, hk8', Hq2.out, hP, ← rs_append, pad_eq, List.append_assoc]
            rfl
          have hPl : P.length % 64 = 0 := by
            rw [hP, List.length_append, pad_len, Hn.out]
            exact zeros_mod _
          have hPle : 64 * (l.length / 64) ≤ P.length := by rw [hP, List.length_append]; omega
          have hPst : st l = stk P (l.length / 64) := by rw [hP]; exact st_append _ _
          have hPm : P.length ≤ 2305843009213693952 := by rw [hP, List.length_append, pad_len, ← Hn.out]; have := Hz.out; omega
          have hT7 : ReadT wr 5 A7 p := ReadT.of_own Ho7.out
          rw [hPst] at HS3
          have hHb3s := Hb3.out.size
          have HP := Lib.hid hP
          have HpP := Lib.hid hpP
          have HPl := Lib.hid hPl
          have HT7 := Lib.hid hT7
          clear hP hpP hPl hPst hT7 hc9 Ho7
          obtain ⟨g4, hg4⟩ : ∃ g4, g4 = w.heap.size + 2 := ⟨_, rfl⟩
          rw [← hg4] at HS3
          have Hg4 := Lib.hid hg4
          clear hg4
          go_wp2
          have hS7 := HS3.out.below Hb7.out HS3.out.lt
          have hw7 := only_of_below Hb7.out (some g4)
          have HS7 := Lib.hid hS7
          have Hw7 := Lib.hid hw7
          have hg40 : 0 < g4 := by rw [Hg4.out]; omega
          rw [show (w.heap.size + 1 + 1) = g4 from by rw [Hg4.out]]
          have HpS : Hid (.slice A7 p.length c7 = Value.slice A7 (P.drop (64 * (l.length / 64))).length c7) := Lib.hid (by rw [← HpP.out])
          rw [HpP.out] at HT7 p5
          clear hk8' hk8 hk Hp hS7 hw7
          go_loopg [5] (P.length - 64 * (l.length / 64)) (fun m v wx => ∃ (j : Nat) (A : Option Addr) (c : Nat), 64 * j ≤ P.length ∧ m = P.length - 64 * j ∧ v = .slice A (P.drop (64 * j)).length c ∧ (P.drop (64 * j)).length ≤ c ∧ c ≤ 9223372036854775807 ∧ ReadT wx 5 A (P.drop (64 * j)) ∧ BlkW wx g4 68 (stk P j) ∧ w3.grownBy wx (some g4))
          case atStart => exact ⟨_, A7, c7, hPle, rfl, HpS.out, p5, p6, HT7.out, HS7.out, Hw7.out⟩
          case round =>
            obtain ⟨j, A, c, hj, hm, hv, hrc, hcc, hT, hS, hgw⟩ := hrel
            obtain ⟨r, hr⟩ : ∃ r, r = P.drop (64 * j) := ⟨_, rfl⟩
            rw [← hr] at hv hrc hT
            subst hv
            have hrlen : r.length = P.length - 64 * j := by rw [hr, List.length_drop]
            have HS := Lib.hid hS
            have HT := Lib.hid hT
            have Hgw := Lib.hid hgw
            have Hm := Lib.hid hm
            have Hrr := Lib.hid hr
            have Hrlen := Lib.hid hrlen
            have hrm : r.length ≤ 9223372036854775807 := Nat.le_trans hrc hcc
            clear hS hT hgw hm hr hrlen
            by_cases h0 : 0 < r.length
            · have h64 : 64 ≤ r.length := by have := Hrlen.out; have := HPl.out; omega
              obtain ⟨b5, o5, cs5, rfl, hb5, hcl5⟩ := HT.out (by omega)
              have hwk : Calls Tryd.prog 44 #[.pointer (some ⟨g4, 0, none⟩), .slice (some ⟨b5, o5, none⟩) 64 c] wr
                  fun e w' => e = .returned (.tuple #[]) ∧ BlkW w' g4 68 (stk P (j + 1)) ∧ wr.grownBy w' (some g4) := by
                have hr64 : ReadB wr wr.heap.size (some ⟨b5, o5, none⟩) (r.take 64) := HT.out.readB.take 64
                refine (work_calls (stk P j) (stk_len _ _) g4 68 [] (r.take 64) (by rw [List.length_take]; omega) (some ⟨b5, o5, none⟩) c (by omega) hcc wr hr64 (by rw [List.append_nil]; exact HS.out) hg40 (Htab3.out.grown Hgw.out hg40)).mono ?_
                rintro e w' ⟨h1, h2, h3⟩
                refine ⟨h1, ?_, h3⟩
                rw [Hrr.out, List.append_nil] at h2
                exact h2
              have Hwk := Lib.hid hwk
              clear hwk hb5 hcl5
              have i1 : (0 : Int) ≤ 64 := by omega
              have i2 : (64 : Int) ≤ (c : Int) := by omega
              go_wp2_with fail
              refine Hwk.out.mono ?_
              rintro e w5 ⟨rfl, hS5, hg5⟩
              have hT5 := HT.out.grown hg5 HS.out (by decide)
              have hfin : ∀ A' c', A' = (if c = 64 then (some ⟨b5, o5, none⟩) else (some ⟨b5, o5 + 64, none⟩)) → c' = c - 64 →
                  (Value.slice A' (r.length - 64) c' = .slice A' (P.drop (64 * (j + 1))).length c' ∧ (P.drop (64 * (j + 1))).length ≤ c' ∧ c' ≤ 9223372036854775807 ∧ ReadT w5 5 A' (P.drop (64 * (j + 1))) ∧ BlkW w5 g4 68 (stk P (j + 1)) ∧ w3.grownBy w5 (some g4)) := by
                intro A' c' hA hc'
                have e : P.drop (64 * (j + 1)) = r.drop 64 := by rw [Hrr.out, drop_drop64]
                have hT6 : ReadT w5 5 A' (r.drop 64) := by
                  subst hA
                  by_cases hc : c = 64
                  · have : r.drop 64 = [] := by rw [List.drop_eq_nil_iff]; omega
                    rw [this]
                    exact ReadT.nil
                  · rw [if_neg hc]
                    exact hT5.drop 64
                rw [e, List.length_drop]
                exact ⟨rfl, by omega, by omega, hT6, hS5, only_trans Hgw.out hg5⟩
              have Hfin := Lib.hid hfin
              clear hS5 hT5 hg5 hfin
              by_cases hc64 : c = 64
              all_goals
                go_wp2
                go_roundg (P.length - 64 * (j + 1))
                case rel =>
                  have := Hrlen.out
                  exact ⟨j + 1, _, _, by omega, rfl, Hfin.out _ _ (by simp [hc64]) (by omega)⟩
                case measure =>
                  have := Hm.out
                  have := Hrlen.out
                  omega
            · have hjj : j = P.length / 64 := by have := Hrlen.out; have := HPl.out; omega
              have hS8 := HS.out
              rw [hjj] at hS8
              have e : stk P (P.length / 64) = st P := rfl
              rw [e] at hS8
              have hsl : (st P).length = 8 := stk_len _ _
              have ho : out (st P) = sha l := by rw [HP.out, Hn.out]; rfl
              obtain ⟨S, hSS⟩ : ∃ S, S = st P := ⟨_, rfl⟩
              rw [← hSS] at hS8 hsl ho
              have hlt4 := HS3.out.lt
              have hR2 := Blk.grown (HR2.out) Hgw.out (by rw [Hg4.out]; simp)
              have hR3 := Blk.grown (HR3.out) Hgw.out (by rw [Hg4.out]; simp)
              have hbw : Below w.heap.size w wr := Hb3.out.trans (below_of_only Hgw.out (by rw [Hg4.out]; omega) hHb3s)
              have Ho := Lib.hid ho
              have HS8 := Lib.hid hS8
              have Hsl := Lib.hid hsl
              have HR2' := Lib.hid hR2
              have HR3' := Lib.hid hR3
              have Hbw := Lib.hid hbw
              clear ho hS8 hsl hR2 hR3 hbw hSS hjj e hlt4
              go_wp2
              go_loopw [7, 53] (fun _ i wx => ∃ k : Nat, k ≤ 32 ∧ i = .int .i64 k ∧ Blk wx (w.heap.size + 1) 26 (bvs (oo S k)).toArray ∧ BlkW wx g4 68 S ∧ Blk wx w.heap.size 26 (bvs (List.replicate 32 0)).toArray ∧ Below w.heap.size w wx) (fun _ i _ => 32 - (intOf i).toNat)
              case atStart => exact ⟨0, Nat.zero_le _, rfl, HR3'.out, HS8.out, HR2'.out, Hbw.out⟩
              case round =>
                obtain ⟨i, hi, rfl, hR3, hS8, hR2, hbw⟩ := hrel
                by_cases hil : i < 32
                · have hcs := hS8.cell (i / 4) (by rw [Hsl.out]; omega)
                  have hco := Blk.cell hR3 i
                  rw [List.getElem?_toArray, bvs_get _ _ (by rw [oo_len _ _ hi]; omega)] at hco
                  have hfo := Blk.frozen hR3 i
                  have hs4 := sh4 (Sm.g S (i / 4)) i
                  generalize hz : (Sm.g S (i / 4) >>> UInt32.ofNat (24 - 8 * (i % 4))).toUInt8 = z at hs4
                  have Hz9 := Lib.hid hz
                  clear hz
                  have HR3 := Lib.hid hR3
                  have HS8 := Lib.hid hS8
                  have HR2 := Lib.hid hR2
                  have Hbw := Lib.hid hbw
                  clear hR3 hS8 hR2 hbw
                  go_wp2
                  go_roundw
                  case rel =>
                    refine ⟨i + 1, by omega, by go_num, ?_, HS8.out.far (by rw [Hg4.out]; simp) _, HR2.out.far (by simp) _, Hbw.out.setCell (by simp) _⟩
                    have := Blk.set_ HR3.out i (.int .u8 (z.toNat : Int))
                    rw [toArray_set] at this
                    have e : (bvs (oo S i)).set i (.int .u8 (z.toNat : Int)) = bvs (oo S (i + 1)) := by
                      rw [← oo_set S i hil, Hz9.out]
                      simp [bvs, List.map_set, bv]
                    rw [e] at this
                    exact this
                  case measure => simp [intOf]; omega
                · have hi32 : i = 32 := by omega
                  rw [hi32, oo_32, Ho.out] at hR3
                  have hlo : (sha l).length = 32 := by rw [← Ho.out]; exact out_len _
                  have HR3 := Lib.hid hR3
                  have HR2 := Lib.hid hR2
                  have Hbw := Lib.hid hbw
                  have Hlo := Lib.hid hlo
                  clear hR3 hS8 hR2 hbw hi32 hi hlo
                  go_wp2_with (first
                    | (refine wpList_load_blk rfl 26 (.tmp 3) rfl (w.heap.size + 1) 0 26 [] (bvs (sha l)) [] rfl (by simpa using HR3.out) rfl _ Tryd.underlying26 rfl (by rw [bvs_length, Hlo.out]; kernel_rfl) ?_)
                    | (refine wpList_store_blk rfl 26 (.tmp 2) (.tmp 69) rfl w.heap.size 0 26 [] (bvs (List.replicate 32 0)) [] (bvs (sha l)) rfl rfl (by simpa using HR2.out) rfl (by rw [bvs_length, bvs_length, Hlo.out]; rfl) (by rw [bvs_length, Hlo.out]; kernel_rfl) (bvs_one _) ?_; intro w9 hR9 hg9))
                  refine bodyPost_ret (results_cell_row (p := 2) (ty := 26) (by kernel_rfl) _ w9 w.heap.size 26 (bvs (sha l)).toArray (0, 0) _ rfl (by simp only [List.nil_append, List.append_nil] at hR9; exact hR9) Tryd.underlying26 rfl (by rw [List.size_toArray, bvs_length, Hlo.out]; kernel_rfl)) rfl ⟨rfl, Hbw.out.trans (below_of_only hg9 (Nat.le_refl _) Hbw.out.size)⟩
end Sm
end Go.Proofs.YtlkcibhdnicpkaaDoor
