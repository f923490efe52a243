/- Operations that are put and fed come as they were: the walk of the statement. -/
import Derived.Test.YtiofkhjpknfkgaaB01
import Derived.Test.YtiofkhjpknfkgaaB02
import Derived.Test.YtiofkhjpknfkgaaB03
import Derived.Test.YtiofkhjpknfkgaaB04
import Derived.Test.YtiofkhjpknfkgaaB05
import Derived.Test.YtiofkhjpknfkgaaB06
import Derived.Test.YtiofkhjpknfkgaaB07
import Derived.Test.YtiofkhjpknfkgaaB08
import Derived.Test.YtiofkhjpknfkgaaB09
import Derived.ProofKit
import Derived.OpenShut
import Derived.ShutString
import Derived.ChangeOld
import Derived.SizedLaws
import Derived.ChangeSlices
import Derived.Deep.Slices
import Derived.Test.YtiofkhjpknfkgaaProg
namespace Go.Proofs.Ytiofkhjpknfkgaa
namespace Dl
open Go.RowKit Ba Tm Dm Os_
set_option linter.unusedVariables false
set_option maxRecDepth 100000 in
set_option maxHeartbeats 16000000 in
theorem back_calls (O : List UInt8) (A : Option Addr) (c : Nat) (L : List Ow) (A2 : Option Addr) (c2 : Nat) (C : List UInt8) (A3 : Option Addr) (c3 : Nat) (hOc : O.length ≤ c) (hcm : c ≤ 9223372036854775807) (hlm : L.length ≤ 9223372036854775807) (hCl : C.length ≤ 140737488351232) (w : World) (hO : ReadB w w.heap.size A O) (hL : ReadO w w.heap.size A2 L) (hC : ReadB w w.heap.size A3 C) :
    Calls Try.prog 7 #[.slice A O.length c, .slice A2 L.length c2, .slice A3 C.length c3] w fun e w' => e = .returned (.bool true) ∧ Below w.heap.size w w' := by
  obtain ⟨m, hm⟩ : ∃ m, m = O.length := ⟨_, rfl⟩
  obtain ⟨n, hn⟩ : ∃ n, n = L.length := ⟨_, rfl⟩
  obtain ⟨K, hK⟩ : ∃ K, K = C.length := ⟨_, rfl⟩
  have hlt := light_calls L A2 n c2 60 3000 hn (by omega) (by omega) (by omega) w hL
  have hck := check_calls L A2 n c2 (m : Int) hn (by omega) (by omega) w hL
  rw [← hm, ← hn, ← hK]
  have HL := Lib.hid hL
  have HC := Lib.hid hC
  have Hm := Lib.hid hm
  have Hn := Lib.hid hn
  have HK := Lib.hid hK
  have Hlt := Lib.hid hlt
  have Hck := Lib.hid hck
  have hmc : m ≤ c := by omega
  have hnl : n ≤ 9223372036854775807 := by omega
  have hKl : K ≤ 140737488351232 := by omega
  have Haw := Lib.hid (fun w => awake_calls w)
  clear hO hL hC hm hn hK hlt hck hOc hlm hCl
  by_cases h1 : 3000 < m
  · go_enter Try.func7, Try.ntmps7
    go_wp2_with fail
    refine Calls.mono (Haw.out _) ?_
    rintro e9 w9 ⟨rfl, hb9⟩
    go_wp2_with fail
    go_ret
    exact ⟨rfl, hb9⟩
  by_cases h2 : light (ops L) 60 3000 = true
  case neg =>
    have h2' : light (ops L) 60 3000 = false := by simpa using h2
    rw [h2'] at Hlt
    clear h2 h2'
    go_enter Try.func7, Try.ntmps7
    go_wp2_with fail
    refine Calls.mono Hlt.out ?_
    rintro e9 w9 ⟨rfl, rfl⟩
    go_wp2_with fail
    refine Calls.mono (Haw.out _) ?_
    rintro e9 w9 ⟨rfl, hb9⟩
    go_wp2_with fail
    go_ret
    exact ⟨rfl, hb9⟩
  rw [h2] at Hlt
  have H2 := Lib.hid h2
  clear h2
  by_cases h3 : check (ops L) (m : Int) = 0
  case neg =>
    have t1 : (check (ops L) (m : Int) != 0) = true := by simpa using h3
    generalize check (ops L) (m : Int) = q at *
    clear h3
    go_enter Try.func7, Try.ntmps7
    go_wp2_with fail
    refine Calls.mono Hlt.out ?_
    rintro e9 w9 ⟨rfl, rfl⟩
    go_wp2_with fail
    refine Calls.mono Hck.out ?_
    rintro e8 w8 ⟨rfl, hb8⟩
    have HB8 := Lib.hid hb8
    clear hb8
    go_wp2_with fail
    refine Calls.mono (Haw.out _) ?_
    rintro e9 w9 ⟨rfl, hb9⟩
    have HB9 := Lib.hid (HB8.out.trans (hb9.mono HB8.out.size))
    clear hb9
    go_wp2_with fail
    go_ret
    exact ⟨rfl, HB9.out⟩
  rw [h3] at Hck
  obtain ⟨c4a, c4b, c4c⟩ := check_ok h3
  have hwf := light_wf H2.out (by omega) (by omega) c4b
  have hrt := room_total (ops L) 65536 (by omega) c4c
  have hlf := (light_facts H2.out).1
  rw [ops_len, ← Hn.out] at hlf
  have hmm : ∀ x ∈ ops L, may x (m : Int) = true ∧ makes x ≤ 65536 := fun x hx => by
    refine ⟨c4b x hx, ?_⟩
    have h4 := (light_facts H2.out).2.2 x hx
    have h5 := c4b x hx
    unfold makes
    split
    · rename_i hc
      have := may_copy hc h5
      omega
    · omega
  have hst := fun l1 l2 r b h n => mid_step (old := (m : Int)) (l := ops L) (l1 := l1) (l2 := l2) (r := r) (b := b) (by omega) h hmm hrt n
  have hct := cl_total (m : Int) (ops L) c4b
  have hctk := fun k => cl_total (m : Int) ((ops L).take k) (fun x hx => c4b x (List.mem_of_mem_take hx))
  have hrtk := fun k => room_total ((ops L).take k) 65536 (by omega) (room_take (ops L) k 65536 c4c)
  have hpl := put_len (ops L) (fun x hx => (hwf x hx).2.1)
  rw [ops_len, ← Hn.out] at hpl
  have hpl2 : (put (ops L)).length ≤ 3933600 := by omega
  have hpt := fun w h => put_calls L A2 n c2 Hn.out (by omega) (fun x hx => (hwf x hx).2.1) w h
  have Hst := Lib.hid hst
  have Hct := Lib.hid hct
  have Hctk := Lib.hid hctk
  have Hrtk := Lib.hid hrtk
  have Hrt := Lib.hid hrt
  have Hpl := Lib.hid hpl2
  have Hpt := Lib.hid hpt
  have Hc4b := Lib.hid c4b
  clear hst hct hctk hrtk hrt hpl hpl2 hpt hmm hwf c4a c4b c4c h3 H2
  obtain ⟨i0, hi0⟩ := isByte_of Vi.info5
  obtain ⟨iO, hiO⟩ := isOp
  have Hi0 := Lib.hid hi0
  have HiO := Lib.hid hiO
  clear hi0 hiO
  go_enter Try.func7, Try.ntmps7
  go_wp2_with fail
  refine Calls.mono Hlt.out ?_
  rintro e9 w9 ⟨rfl, rfl⟩
  go_wp2_with fail
  refine Calls.mono Hck.out ?_
  rintro e1 w1 ⟨rfl, hb1⟩
  have HB1 := Lib.hid hb1
  have hpt1 := Hpt.out w1 ((HL.out.below hb1).more hb1.size)
  have Hpt1 := Lib.hid hpt1
  clear hb1 hpt1 Hpt
  go_wp2_with fail
  refine Calls.mono Hpt1.out ?_
  rintro e2 w2 ⟨v2, rfl, ho2, hb2⟩
  obtain ⟨Ab, cb, hv2, hpb, hmb, -, -⟩ := ho2.opens
  subst hv2
  have HR2 := Lib.hid (RT.of_own ho2)
  have HB2 := Lib.hid (HB1.out.trans (hb2.mono HB1.out.size))
  have Hpb := Lib.hid hpb
  clear ho2 hb2 hpb Hpt1
  go_wp2_with fail
  refine (new_calls (m : Int) _).mono ?_
  rintro e4 w4 ⟨g, rfl, hg4, hD4, hb4⟩
  have HR4 := Lib.hid (HR2.out.below hb4)
  have HD4 := Lib.hid hD4
  have HB4 := Lib.hid (HB2.out.trans (hb4.mono HB2.out.size))
  have Hg : Hid (w.heap.size ≤ g) := Lib.hid (Nat.le_trans HB2.out.size hg4)
  clear hg4 hD4 hb4 HR2
  go_wp2_with fail
  go_loopg [7, 9, 10] (K + (put (ops L)).length) (fun q v7 v9 v10 wr => ∃ (r b' : List UInt8) (A' : Option Addr) (c' : Nat) (l1 l2 : List Tm.O) (i : Nat) (M : List Ow), q = (K - i) + b'.length ∧ v7 = .slice A' b'.length c' ∧ b'.length ≤ c' ∧ c' ≤ 9223372036854775807 ∧ RT wr A' b' ∧ OwnO wr w.heap.size v9 M ∧ ops M = l1 ∧ v10 = .int .i64 (i : Int) ∧ (i ≤ K ∨ (i = K + 1 ∧ b' = [])) ∧ IsD wr g (m : Int) (total l1) r 0 ∧ Mid (ops L) l1 l2 r b' ∧ Below w.heap.size w wr)
  case atStart => exact ⟨[], put (ops L), Ab, cb, [], ops L, 0, [], by omega, rfl, Hpb.out, hmb, HR4.out, OwnO.nil, rfl, rfl, .inl (Nat.zero_le _), HD4.out, mid_start _, HB4.out⟩
  case round =>
    obtain ⟨r, b', A', c', l1, l2, i, M, hq, rfl, hbc, hcc, hrt, ho, hops, rfl, hi, hD, hmid, hbw⟩ := hrel
    obtain ⟨bl, hbl⟩ : ∃ bl, bl = b'.length := ⟨_, rfl⟩
    rw [← hbl] at hq hbc ⊢
    have Hq := Lib.hid hq
    have HRt := Lib.hid hrt
    have HO := Lib.hid ho
    have Hops := Lib.hid hops
    have Hi := Lib.hid hi
    have HD := Lib.hid hD
    have Hmid := Lib.hid hmid
    have HW := Lib.hid hbw
    have Hbl := Lib.hid hbl
    clear hq hrt ho hops hi hD hmid hbw hbl HR4 HD4 HB4
    by_cases hb0 : 0 < bl
    · have hiK : i ≤ K := by
        rcases Hi.out with h | ⟨_, h⟩
        · exact h
        · have := Hbl.out; rw [h] at this; simp at this; omega
      by_cases hik : i < K
      · obtain ⟨b3, o3, hA3, hb3, hc3⟩ := HC.out (by rw [← HK.out]; omega)
        subst hA3
        have hx3 := hc3 i (by rw [← HK.out]; exact hik)
        obtain ⟨x, hx⟩ : ∃ x : UInt8, x = C.getD i 0 := ⟨_, rfl⟩
        rw [← hx] at hx3
        have xb : wr.cell? ⟨b3, o3 + i, none⟩ = some (.int .u8 (x.toNat : Int)) := (HW.out.cell (p := ⟨b3, o3 + i, none⟩) hb3).trans hx3
        have hx255 := x.toNat_lt
        clear hc3 hx3 hx
        by_cases hxb : x.toNat < bl
        · obtain ⟨nn, hnx⟩ : ∃ nn, nn = x.toNat := ⟨_, rfl⟩
          have hnn : nn ≤ bl := by omega
          rw [← hnx] at xb
          have hmi : nn < bl := by omega
          have hmi2 : ¬ bl < nn := by omega
          have hmi3 : ¬ bl ≤ nn := by omega
          clear hnx hxb hx255
          have hsl1 := fun w' => sl_h (P := Try.prog) 22 5 i0 Try.underlying22 Hi0.out A' bl c' (nn : Int) nn rfl (by omega) w'
          have hsl2 := fun w' => sl_l (P := Try.prog) 22 5 i0 Try.underlying22 Hi0.out A' bl c' (nn : Int) nn rfl hnn w'
          obtain ⟨A6, hA6⟩ : ∃ A6, A6 = if c' = nn then A' else A'.map (·.add nn) := ⟨_, rfl⟩
          obtain ⟨n6, hn6⟩ : ∃ n6, n6 = bl - nn := ⟨_, rfl⟩
          obtain ⟨c6, hc6⟩ : ∃ c6, c6 = c' - nn := ⟨_, rfl⟩
          rw [← hA6, ← hn6, ← hc6] at hsl2
          have hcut := fun (W : World) (h : RT W A' b') => rt_cut h (k := nn) (cap := c') (by rw [← Hbl.out]; exact hbc)
          rw [← hA6] at hcut
          have Hcut := Lib.hid hcut
          have Hn6 := Lib.hid hn6
          have Hc6 := Lib.hid hc6
          obtain ⟨l3, l4, r2, hfe, hmid2⟩ := Hst.out l1 l2 r b' Hmid.out nn
          have Hmid2 := Lib.hid hmid2
          have hl1 : ops L = l1 ++ l2 := Hmid.out.1
          have ht1 : 0 ≤ total l1 := total_nonneg (m : Int) l1 (fun x hx => Hc4b.out x (by rw [hl1]; simp [hx]))
          have ht2 : 0 ≤ total l2 := total_nonneg (m : Int) l2 (fun x hx => Hc4b.out x (by rw [hl1]; simp [hx]))
          have ht3 : total l1 + total l2 ≤ 65536 := by have := Hrt.out; rw [hl1, total_append] at this; exact this
          have hrb : r.length + bl ≤ 3933600 := by
            have h5 := congrArg List.length Hmid.out.2.1
            have h6 := congrArg (fun l => (put l).length) hl1
            simp only [put_append, List.length_append] at h5 h6
            have := Hpl.out
            have := Hbl.out
            omega
          have htk : (b'.take nn).length = nn := by rw [List.length_take, ← Hbl.out]; omega
          have hfd := feed_calls g (m : Int) (total l1) r 0 (b'.take nn) A' nn c' htk.symm (by omega) hcc (by omega) (by omega) (by omega) wr HD.out (HRt.out.readB.take nn)
          have Hfd := Lib.hid hfd
          have Hfe := Lib.hid hfe
          clear hcut hn6 hc6 hA6 hmid2 hl1 ht1 ht2 ht3 hrb htk hfd hfe
          go_wp2_with fail
          refine Calls.mono Hfd.out ?_
          rintro e5 w5 ⟨v5, M5, rfl, hO5, hop5, hD5, hg5⟩
          rw [Hfe.out] at hop5 hD5 ⊢
          simp only at hop5 hD5 ⊢
          obtain ⟨A5, c5, hv5, -, -, hL5, -⟩ := hO5.opens
          subst hv5
          obtain ⟨_, _, hBd, _⟩ := HD.out
          have hneg : ∀ g', some g = some g' → ∃ t cs, Blk wr g' t cs ∧ 5 ≠ t := fun g' hg' => by injection hg' with hg'; subst hg'; exact ⟨_, _, hBd, dec_ne⟩
          have hrt5 := HRt.out.row hg5 hneg
          have hne : u9.ownBlock = none ∨ u9.ownBlock ≠ some g := .inr fun hh => by
            obtain ⟨cs, hcs⟩ := own_blk HO.out.1 g hh
            exact hBd.ne_ hcs (fun e => decop_ne e.symm) rfl
          have hO5' := HO.out.grown hg5 hne hneg
          have hW5 : Below w.heap.size w w5 := HW.out.trans (below_of_only hg5 Hg.out HW.out.size)
          have HRt5 := Lib.hid hrt5
          have HO5 := Lib.hid hO5'
          have HW5 := Lib.hid hW5
          have HD5 := Lib.hid hD5
          have HL5 := Lib.hid hL5
          have HO55 := Lib.hid hO5
          have Hop5 := Lib.hid hop5
          have hms : M.length + M5.length ≤ 60 := by
            have h5 := congrArg List.length (Hmid2.out.1)
            have h6 := ops_len M
            have h7 := ops_len M5
            rw [ops_len, List.length_append, List.length_append, ← Hn.out] at h5
            rw [Hops.out] at h6
            rw [Hop5.out] at h7
            omega
          have Hms := Lib.hid hms
          obtain ⟨n5, hn5⟩ : ∃ n5, n5 = M5.length := ⟨_, rfl⟩
          have Hn5 := Lib.hid hn5
          rw [← hn5] at ⊢
          clear hBd hneg hrt5 hne hO5' hW5 hD5 hL5 hO5 hop5 hg5 hms hn5 HRt HO HD HW Hfd
          go_wp2_with (at_builtin; go_loud (refine wpList_appR _ rfl (.tmp 63) (.tmp 64) 23 rfl w.heap.size 54 iO 48 Try.underlying23 HiO.out (by omega) _ _ rfl HO5.out.1 w5.heap.size A5 n5 c5 M5 rfl Hn5.out HL5.out.1 (by have := Hms.out; omega) (by have := Hms.out; omega) HW5.out.size ?_); intro v8 w8 ho8 hg8 _ hb8)
          have HO8 := Lib.hid (HO5.out.app ho8 hg8 HO55.out.2)
          have HW8 := Lib.hid (HW5.out.trans hb8)
          have hneg8 : ∀ g', u9.ownBlock = some g' → ∃ t cs, Blk w5 g' t cs ∧ 5 ≠ t := fun g' hg' => by obtain ⟨cs, hcs⟩ := own_blk HO5.out.1 g' hg'; exact ⟨_, cs, hcs, op_ne⟩
          have HRt8 := Lib.hid (Hcut.out w8 (HRt5.out.row hg8 hneg8))
          have HD8 := Lib.hid (HD5.out.row hg8 (fun hh => by
            obtain ⟨cs, hcs⟩ := own_blk HO5.out.1 g hh
            obtain ⟨_, _, hBd, _⟩ := HD5.out
            exact hBd.ne_ hcs (fun e => decop_ne e.symm) rfl) hneg8)
          clear ho8 hg8 hb8 hneg8 HO5 HO55 HRt5 HD5 HL5
          go_wp2_with fail
          go_roundg ((K - (i + 1)) + n6)
          case rel => exact ⟨r2, b'.drop nn, A6, c6, l1 ++ l3, l4, i + 1, M ++ M5, by rw [List.length_drop, Hn6.out, Hbl.out], by rw [List.length_drop, Hn6.out, Hbl.out], by rw [List.length_drop, ← Hbl.out, Hc6.out]; omega, by have := Hc6.out; omega, HRt8.out, HO8.out, by rw [ops, List.map_append]; exact congr (congrArg _ Hops.out) Hop5.out, rfl, .inl (by omega), HD8.out, Hmid2.out, HW8.out⟩
          case measure => have := Hq.out; have := Hn6.out; omega
        · have hnn : bl ≤ bl := Nat.le_refl _
          have hmi : ¬ x.toNat < bl := hxb
          have hmi2 : bl ≤ x.toNat := by omega
          have hsl1 := fun w' => sl_h (P := Try.prog) 22 5 i0 Try.underlying22 Hi0.out A' bl c' (bl : Int) bl rfl (by omega) w'
          have hsl2 := fun w' => sl_l (P := Try.prog) 22 5 i0 Try.underlying22 Hi0.out A' bl c' (bl : Int) bl rfl hnn w'
          obtain ⟨A6, hA6⟩ : ∃ A6, A6 = if c' = bl then A' else A'.map (·.add bl) := ⟨_, rfl⟩
          obtain ⟨n6, hn6⟩ : ∃ n6, n6 = bl - bl := ⟨_, rfl⟩
          obtain ⟨c6, hc6⟩ : ∃ c6, c6 = c' - bl := ⟨_, rfl⟩
          rw [← hA6, ← hn6, ← hc6] at hsl2
          have hcut := fun (W : World) (h : RT W A' b') => rt_cut h (k := bl) (cap := c') (by rw [← Hbl.out]; exact hbc)
          rw [← hA6] at hcut
          have Hcut := Lib.hid hcut
          have Hn6 := Lib.hid hn6
          have Hc6 := Lib.hid hc6
          obtain ⟨l3, l4, r2, hfe, hmid2⟩ := Hst.out l1 l2 r b' Hmid.out bl
          have Hmid2 := Lib.hid hmid2
          have hl1 : ops L = l1 ++ l2 := Hmid.out.1
          have ht1 : 0 ≤ total l1 := total_nonneg (m : Int) l1 (fun x hx => Hc4b.out x (by rw [hl1]; simp [hx]))
          have ht2 : 0 ≤ total l2 := total_nonneg (m : Int) l2 (fun x hx => Hc4b.out x (by rw [hl1]; simp [hx]))
          have ht3 : total l1 + total l2 ≤ 65536 := by have := Hrt.out; rw [hl1, total_append] at this; exact this
          have hrb : r.length + bl ≤ 3933600 := by
            have h5 := congrArg List.length Hmid.out.2.1
            have h6 := congrArg (fun l => (put l).length) hl1
            simp only [put_append, List.length_append] at h5 h6
            have := Hpl.out
            have := Hbl.out
            omega
          have htk : (b'.take bl).length = bl := by rw [List.length_take, ← Hbl.out]; omega
          have hfd := feed_calls g (m : Int) (total l1) r 0 (b'.take bl) A' bl c' htk.symm (by omega) hcc (by omega) (by omega) (by omega) wr HD.out (HRt.out.readB.take bl)
          have Hfd := Lib.hid hfd
          have Hfe := Lib.hid hfe
          clear hcut hn6 hc6 hA6 hmid2 hl1 ht1 ht2 ht3 hrb htk hfd hfe
          go_wp2_with fail
          refine Calls.mono Hfd.out ?_
          rintro e5 w5 ⟨v5, M5, rfl, hO5, hop5, hD5, hg5⟩
          rw [Hfe.out] at hop5 hD5 ⊢
          simp only at hop5 hD5 ⊢
          obtain ⟨A5, c5, hv5, -, -, hL5, -⟩ := hO5.opens
          subst hv5
          obtain ⟨_, _, hBd, _⟩ := HD.out
          have hneg : ∀ g', some g = some g' → ∃ t cs, Blk wr g' t cs ∧ 5 ≠ t := fun g' hg' => by injection hg' with hg'; subst hg'; exact ⟨_, _, hBd, dec_ne⟩
          have hrt5 := HRt.out.row hg5 hneg
          have hne : u9.ownBlock = none ∨ u9.ownBlock ≠ some g := .inr fun hh => by
            obtain ⟨cs, hcs⟩ := own_blk HO.out.1 g hh
            exact hBd.ne_ hcs (fun e => decop_ne e.symm) rfl
          have hO5' := HO.out.grown hg5 hne hneg
          have hW5 : Below w.heap.size w w5 := HW.out.trans (below_of_only hg5 Hg.out HW.out.size)
          have HRt5 := Lib.hid hrt5
          have HO5 := Lib.hid hO5'
          have HW5 := Lib.hid hW5
          have HD5 := Lib.hid hD5
          have HL5 := Lib.hid hL5
          have HO55 := Lib.hid hO5
          have Hop5 := Lib.hid hop5
          have hms : M.length + M5.length ≤ 60 := by
            have h5 := congrArg List.length (Hmid2.out.1)
            have h6 := ops_len M
            have h7 := ops_len M5
            rw [ops_len, List.length_append, List.length_append, ← Hn.out] at h5
            rw [Hops.out] at h6
            rw [Hop5.out] at h7
            omega
          have Hms := Lib.hid hms
          obtain ⟨n5, hn5⟩ : ∃ n5, n5 = M5.length := ⟨_, rfl⟩
          have Hn5 := Lib.hid hn5
          rw [← hn5] at ⊢
          clear hBd hneg hrt5 hne hO5' hW5 hD5 hL5 hO5 hop5 hg5 hms hn5 HRt HO HD HW Hfd
          go_wp2_with (at_builtin; go_loud (refine wpList_appR _ rfl (.tmp 63) (.tmp 64) 23 rfl w.heap.size 54 iO 48 Try.underlying23 HiO.out (by omega) _ _ rfl HO5.out.1 w5.heap.size A5 n5 c5 M5 rfl Hn5.out HL5.out.1 (by have := Hms.out; omega) (by have := Hms.out; omega) HW5.out.size ?_); intro v8 w8 ho8 hg8 _ hb8)
          have HO8 := Lib.hid (HO5.out.app ho8 hg8 HO55.out.2)
          have HW8 := Lib.hid (HW5.out.trans hb8)
          have hneg8 : ∀ g', u9.ownBlock = some g' → ∃ t cs, Blk w5 g' t cs ∧ 5 ≠ t := fun g' hg' => by obtain ⟨cs, hcs⟩ := own_blk HO5.out.1 g' hg'; exact ⟨_, cs, hcs, op_ne⟩
          have HRt8 := Lib.hid (Hcut.out w8 (HRt5.out.row hg8 hneg8))
          have HD8 := Lib.hid (HD5.out.row hg8 (fun hh => by
            obtain ⟨cs, hcs⟩ := own_blk HO5.out.1 g hh
            obtain ⟨_, _, hBd, _⟩ := HD5.out
            exact hBd.ne_ hcs (fun e => decop_ne e.symm) rfl) hneg8)
          clear ho8 hg8 hb8 hneg8 HO5 HO55 HRt5 HD5 HL5
          go_wp2_with fail
          go_roundg ((K - (i + 1)) + n6)
          case rel => exact ⟨r2, b'.drop bl, A6, c6, l1 ++ l3, l4, i + 1, M ++ M5, by rw [List.length_drop, Hn6.out, Hbl.out], by rw [List.length_drop, Hn6.out, Hbl.out], by rw [List.length_drop, ← Hbl.out, Hc6.out]; omega, by have := Hc6.out; omega, HRt8.out, HO8.out, by rw [ops, List.map_append]; exact congr (congrArg _ Hops.out) Hop5.out, rfl, .inl (by omega), HD8.out, Hmid2.out, HW8.out⟩
          case measure => have := Hq.out; have := Hn6.out; omega
      · have hnn : bl ≤ bl := Nat.le_refl _
        have hsl1 := fun w' => sl_h (P := Try.prog) 22 5 i0 Try.underlying22 Hi0.out A' bl c' (bl : Int) bl rfl (by omega) w'
        have hsl2 := fun w' => sl_l (P := Try.prog) 22 5 i0 Try.underlying22 Hi0.out A' bl c' (bl : Int) bl rfl hnn w'
        obtain ⟨A6, hA6⟩ : ∃ A6, A6 = if c' = bl then A' else A'.map (·.add bl) := ⟨_, rfl⟩
        obtain ⟨n6, hn6⟩ : ∃ n6, n6 = bl - bl := ⟨_, rfl⟩
        obtain ⟨c6, hc6⟩ : ∃ c6, c6 = c' - bl := ⟨_, rfl⟩
        rw [← hA6, ← hn6, ← hc6] at hsl2
        have hcut := fun (W : World) (h : RT W A' b') => rt_cut h (k := bl) (cap := c') (by rw [← Hbl.out]; exact hbc)
        rw [← hA6] at hcut
        have Hcut := Lib.hid hcut
        have Hn6 := Lib.hid hn6
        have Hc6 := Lib.hid hc6
        obtain ⟨l3, l4, r2, hfe, hmid2⟩ := Hst.out l1 l2 r b' Hmid.out bl
        have Hmid2 := Lib.hid hmid2
        have hl1 : ops L = l1 ++ l2 := Hmid.out.1
        have ht1 : 0 ≤ total l1 := total_nonneg (m : Int) l1 (fun x hx => Hc4b.out x (by rw [hl1]; simp [hx]))
        have ht2 : 0 ≤ total l2 := total_nonneg (m : Int) l2 (fun x hx => Hc4b.out x (by rw [hl1]; simp [hx]))
        have ht3 : total l1 + total l2 ≤ 65536 := by have := Hrt.out; rw [hl1, total_append] at this; exact this
        have hrb : r.length + bl ≤ 3933600 := by
          have h5 := congrArg List.length Hmid.out.2.1
          have h6 := congrArg (fun l => (put l).length) hl1
          simp only [put_append, List.length_append] at h5 h6
          have := Hpl.out
          have := Hbl.out
          omega
        have htk : (b'.take bl).length = bl := by rw [List.length_take, ← Hbl.out]; omega
        have hfd := feed_calls g (m : Int) (total l1) r 0 (b'.take bl) A' bl c' htk.symm (by omega) hcc (by omega) (by omega) (by omega) wr HD.out (HRt.out.readB.take bl)
        have Hfd := Lib.hid hfd
        have Hfe := Lib.hid hfe
        clear hcut hn6 hc6 hA6 hmid2 hl1 ht1 ht2 ht3 hrb htk hfd hfe
        go_wp2_with fail
        refine Calls.mono Hfd.out ?_
        rintro e5 w5 ⟨v5, M5, rfl, hO5, hop5, hD5, hg5⟩
        rw [Hfe.out] at hop5 hD5 ⊢
        simp only at hop5 hD5 ⊢
        obtain ⟨A5, c5, hv5, -, -, hL5, -⟩ := hO5.opens
        subst hv5
        obtain ⟨_, _, hBd, _⟩ := HD.out
        have hneg : ∀ g', some g = some g' → ∃ t cs, Blk wr g' t cs ∧ 5 ≠ t := fun g' hg' => by injection hg' with hg'; subst hg'; exact ⟨_, _, hBd, dec_ne⟩
        have hrt5 := HRt.out.row hg5 hneg
        have hne : u9.ownBlock = none ∨ u9.ownBlock ≠ some g := .inr fun hh => by
          obtain ⟨cs, hcs⟩ := own_blk HO.out.1 g hh
          exact hBd.ne_ hcs (fun e => decop_ne e.symm) rfl
        have hO5' := HO.out.grown hg5 hne hneg
        have hW5 : Below w.heap.size w w5 := HW.out.trans (below_of_only hg5 Hg.out HW.out.size)
        have HRt5 := Lib.hid hrt5
        have HO5 := Lib.hid hO5'
        have HW5 := Lib.hid hW5
        have HD5 := Lib.hid hD5
        have HL5 := Lib.hid hL5
        have HO55 := Lib.hid hO5
        have Hop5 := Lib.hid hop5
        have hms : M.length + M5.length ≤ 60 := by
          have h5 := congrArg List.length (Hmid2.out.1)
          have h6 := ops_len M
          have h7 := ops_len M5
          rw [ops_len, List.length_append, List.length_append, ← Hn.out] at h5
          rw [Hops.out] at h6
          rw [Hop5.out] at h7
          omega
        have Hms := Lib.hid hms
        obtain ⟨n5, hn5⟩ : ∃ n5, n5 = M5.length := ⟨_, rfl⟩
        have Hn5 := Lib.hid hn5
        rw [← hn5] at ⊢
        clear hBd hneg hrt5 hne hO5' hW5 hD5 hL5 hO5 hop5 hg5 hms hn5 HRt HO HD HW Hfd
        go_wp2_with (at_builtin; go_loud (refine wpList_appR _ rfl (.tmp 63) (.tmp 64) 23 rfl w.heap.size 54 iO 48 Try.underlying23 HiO.out (by omega) _ _ rfl HO5.out.1 w5.heap.size A5 n5 c5 M5 rfl Hn5.out HL5.out.1 (by have := Hms.out; omega) (by have := Hms.out; omega) HW5.out.size ?_); intro v8 w8 ho8 hg8 _ hb8)
        have HO8 := Lib.hid (HO5.out.app ho8 hg8 HO55.out.2)
        have HW8 := Lib.hid (HW5.out.trans hb8)
        have hneg8 : ∀ g', u9.ownBlock = some g' → ∃ t cs, Blk w5 g' t cs ∧ 5 ≠ t := fun g' hg' => by obtain ⟨cs, hcs⟩ := own_blk HO5.out.1 g' hg'; exact ⟨_, cs, hcs, op_ne⟩
        have HRt8 := Lib.hid (Hcut.out w8 (HRt5.out.row hg8 hneg8))
        have HD8 := Lib.hid (HD5.out.row hg8 (fun hh => by
          obtain ⟨cs, hcs⟩ := own_blk HO5.out.1 g hh
          obtain ⟨_, _, hBd, _⟩ := HD5.out
          exact hBd.ne_ hcs (fun e => decop_ne e.symm) rfl) hneg8)
        clear ho8 hg8 hb8 hneg8 HO5 HO55 HRt5 HD5 HL5
        go_wp2_with fail
        go_roundg ((K - (i + 1)) + n6)
        case rel => exact ⟨r2, b'.drop bl, A6, c6, l1 ++ l3, l4, i + 1, M ++ M5, by rw [List.length_drop, Hn6.out, Hbl.out], by rw [List.length_drop, Hn6.out, Hbl.out], by rw [List.length_drop, ← Hbl.out, Hc6.out]; omega, by have := Hc6.out; omega, HRt8.out, HO8.out, by rw [ops, List.map_append]; exact congr (congrArg _ Hops.out) Hop5.out, rfl, .inr ⟨by omega, List.drop_of_length_le (by rw [← Hbl.out]; omega)⟩, HD8.out, Hmid2.out, HW8.out⟩
        case measure => have := Hq.out; have := Hn6.out; omega
    · have hbe : b' = [] := List.eq_nil_of_length_eq_zero (by have := Hbl.out; omega)
      have hme := mid_end (by have := Hmid.out; rw [hbe] at this; exact this)
      obtain ⟨hl1, hr⟩ := hme
      subst hr
      have hD9 := HD.out
      rw [hl1] at hD9
      have hops := Hops.out
      rw [hl1] at hops
      obtain ⟨Ag, cg, hvg, hpg, hmg, hLg, -⟩ := HO.out.opens
      subst hvg
      have hMl : M.length = n := by rw [← ops_len, hops, ops_len, ← Hn.out]
      rw [hMl]
      have hms := msame_calls M L Ag n cg A2 n c2 hMl.symm Hn.out (by omega) (by omega) wr hLg ((HL.out.below HW.out).more HW.out.size)
      rw [hops, same_refl] at hms
      have Hms := Lib.hid hms
      have HD9 := Lib.hid hD9
      obtain ⟨hc1, hc2, hc3⟩ := Hct.out
      have Hc1 := Lib.hid hc1
      have hcp := fun w h => copied_calls L A2 n c2 Hn.out (by omega) (fun k => ⟨(Hctk.out k).2.1, by have := Hctk.out k; have := Hrtk.out k; omega⟩) w h
      have hlc := fun w h => literal_calls L A2 n c2 Hn.out (by omega) (fun k => ⟨(Hctk.out k).2.2, by have := Hctk.out k; have := Hrtk.out k; omega⟩) w h
      have Hcp := Lib.hid hcp
      have Hlc := Lib.hid hlc
      have hc4 : copied (ops L) ≤ 65536 := by have := Hrt.out; omega
      have hc5 : literal (ops L) ≤ 65536 := by have := Hrt.out; omega
      clear hl1 hD9 hops hpg hmg hLg hMl hms hc1 hcp hlc hbe Hi HRt HD Hmid HO Hops
      generalize hzc : copied (ops L) = zc at *
      generalize hzl : literal (ops L) = zl at *
      generalize hzt : total (ops L) = zt at *
      have heq : (zt == zc + zl) = true := by rw [Hc1.out]; simp
      have heq2 : zc + zl = zt := Hc1.out
      clear hzc hzl hzt
      have heq2 := Lib.hid heq2
      go_wp2_with fail
      refine Calls.mono Hms.out ?_
      rintro e5 w5 ⟨rfl, hb5⟩
      have HD5 := Lib.hid (HD9.out.below hb5)
      have HW5 := Lib.hid (HW.out.trans (hb5.mono HW.out.size))
      clear hb5 Hms
      go_wp2_with (first
        | (go_at_call 17; refine (made_calls HD5.out).mono ?_; rintro e12 w12 ⟨rfl, rfl⟩)
        | (go_at_call 18; refine (rest_calls HD5.out).mono ?_; rintro e12 w12 ⟨rfl, rfl⟩))
      refine Calls.mono (Hcp.out w5 ((HL.out.below HW5.out).more HW5.out.size)) ?_
      rintro e6 w6 ⟨rfl, hb6⟩
      have HW6 := Lib.hid (HW5.out.trans (hb6.mono HW5.out.size))
      clear hb6
      go_wp2_with fail
      refine Calls.mono (Hlc.out w6 ((HL.out.below HW6.out).more HW6.out.size)) ?_
      rintro e7 w7 ⟨rfl, hb7⟩
      have HW7 := Lib.hid (HW6.out.trans (hb7.mono HW6.out.size))
      clear hb7
      go_wp2_with fail
      refine Calls.mono (Haw.out _) ?_
      rintro e9 w9 ⟨rfl, hb9⟩
      have HW9 := Lib.hid (HW7.out.trans (hb9.mono HW7.out.size))
      clear hb9
      go_wp2_with fail
      go_ret
      exact ⟨rfl, HW9.out⟩
end Dl
end Go.Proofs.Ytiofkhjpknfkgaa
/- How a row's arguments are opened: bytes that came in, read as a list of bytes; how many there may be. -/
namespace Go.Proofs.Ytiofkhjpknfkgaa
namespace Rk
open Go.ChangeShapes Go.WideShapes Go.ChangeAt Go.RowKit Ba
set_option linter.unusedVariables false

theorem bd_i64 {n : Int} (h : (Lit.int .i64 n).wf = true) : -9223372036854775808 ≤ n ∧ n ≤ 9223372036854775807 := by
  simpa [Lit.wf, IntKind.min, IntKind.max, IntKind.signed, IntKind.bits] using h
theorem bd_u8 {n : Int} (h : (Lit.int .u8 n).wf = true) : 0 ≤ n ∧ n ≤ 255 := by
  simpa [Lit.wf, IntKind.min, IntKind.max, IntKind.signed, IntKind.bits] using h
theorem bd_u16 {n : Int} (h : (Lit.int .u16 n).wf = true) : 0 ≤ n ∧ n ≤ 65535 := by
  simpa [Lit.wf, IntKind.min, IntKind.max, IntKind.signed, IntKind.bits] using h
theorem bd_u32 {n : Int} (h : (Lit.int .u32 n).wf = true) : 0 ≤ n ∧ n ≤ 4294967295 := by
  simpa [Lit.wf, IntKind.min, IntKind.max, IntKind.signed, IntKind.bits] using h

theorem bytes_open {H : Type} {enc : TypeId × Value → H} {P : Program} {W : World} {base : Nat} {spare : Nat → Bool} {held : Bool} {t e : TypeId} {a : Option Addr} {len cap : Nat} {d : DataW H} {ps : List MemPlace}
    (hu : P.underlying t = some (.slice e)) (he : P.underlying e = some (.int .u8)) (hc : P.cellsOf e = 1) (h : DataW.Trod enc P W base spare held t (.slice a len cap) d ps) :
    ∃ l : List UInt8, len = l.length ∧ l.length ≤ cap ∧ cap ≤ 9223372036854775807 ∧ ReadB W W.heap.size a l := by
  obtain ⟨fuel, hf⟩ := h
  rcases open_ints hu he hc hf with ⟨hcs, _⟩ | ⟨x, l, c, zs, hcs, _, hl, hm, hz, hx, hcell, hwz⟩
  · simp [Value.cells] at hcs
    obtain ⟨rfl, rfl, rfl⟩ := hcs
    exact ⟨[], rfl, by simp, by omega, ReadB.nil⟩
  · simp [Value.cells] at hcs
    obtain ⟨rfl, rfl, rfl⟩ := hcs
    have hl2 : len ≤ zs.length := by
      rw [hz]
      split
      · exact hl
      · exact Nat.le_refl _
    have hb : ∀ k, k < zs.length → ((UInt8.ofNat (zs.getD k 0).toNat).toNat : Int) = zs.getD k 0 := fun k hk => by
      have hmem : zs.getD k 0 ∈ zs := by simp [List.getD, hk]
      have := bd_u8 (hwz _ hmem)
      rw [UInt8.toNat_ofNat']
      omega
    refine ⟨(zs.take len).map fun z => UInt8.ofNat z.toNat, by simp; omega, by simp; omega, by simpa [maxLen] using hm, ?_⟩
    intro hn
    have hn2 : 0 < len := by simp at hn; omega
    have h0 : W.cell? x = some (.int .u8 (zs.getD 0 0)) := by
      have := hcell 0 (by omega)
      rwa [add_zero_] at this
    have hs : x.spot = none := by
      unfold World.cell? at h0
      split at h0
      · split at h0
        · cases h0
        · rename_i hs; simpa using hs
      · cases h0
    have hblk := block_lt_of_cell h0
    obtain ⟨b, o, s⟩ := x
    simp only at hs
    subst hs
    refine ⟨b, o, rfl, hblk, fun k hk => ?_⟩
    have hk2 : k < len := by simp at hk; omega
    have := hcell k (by omega)
    rw [add_lit_] at this
    rw [this]
    have e : (((zs.take len).map fun z => UInt8.ofNat z.toNat).getD k 0) = UInt8.ofNat (zs.getD k 0).toNat := by
      simp [List.getD, hk2, show k < zs.length by omega]
    rw [e, hb k (by omega)]

theorem sized_ints {H : Type} {enc : TypeId × Value → H} {P : Program} {W : World} {base : Nat} {spare : Nat → Bool} {held : Bool} {t e : TypeId} {k : IntKind} {a : Option Addr} {len cap : Nat} {d : DataW H} {ps : List MemPlace} {ts : List TypeId} {ds : List (DataW H)} {j : Nat}
    (hsz : (DataW.weightsEach P ts ds).all (· ≤ reachBytes) = true) (ht : ts[j]? = some t) (hd : ds[j]? = some d) (hu : P.underlying t = some (.slice e)) (he : P.underlying e = some (.int k)) (hc : P.cellsOf e = 1) {B : Nat} (hB : P.bytesOf e = B)
    (h : DataW.Trod enc P W base spare held t (.slice a len cap) d ps) : len * B ≤ 140737488351232 := by
  obtain ⟨fuel, hf⟩ := h
  rcases open_ints hu he hc hf with ⟨hcs, _⟩ | ⟨x, l, c, zs, hcs, _, hl, _, hz, hx, _, _⟩
  · simp [Value.cells] at hcs
    obtain ⟨rfl, rfl, rfl⟩ := hcs
    simp
  · simp [Value.cells] at hcs
    obtain ⟨rfl, rfl, rfl⟩ := hcs
    obtain ⟨hx, _⟩ := Prod.mk.inj hx
    subst hx
    have z := sized_slice hsz ht hd hu
    rw [hB] at z
    have hl2 : len ≤ zs.length := by
      rw [hz]
      split
      · exact hl
      · exact Nat.le_refl _
    have h1 : (lits (H := H) k (zs.take len)).length + (lits (H := H) k (zs.drop len)).length = zs.length := by
      simp [lits]
      omega
    rw [h1] at z
    exact Nat.le_trans (Nat.mul_le_mul_right _ hl2) z
end Rk
end Go.Proofs.Ytiofkhjpknfkgaa
/- Arguments: slices of records, structs, arrays of bytes: opened from what they read as, cell by cell. -/
namespace Go.Proofs.Ytiofkhjpknfkgaa
namespace Rk
open Go.ChangeShapes Go.WideShapes Go.ChangeAt Go.RowKit Ba
set_option linter.unusedVariables false
section
variable {H : Type} {enc : TypeId × Value → H} {P : Program} {W : World} {base : Nat} {spare : Nat → Bool} {held : Bool}
theorem cells_plain {x : Addr} {v : Value} (h0 : W.cell? x = some v) : ∃ b o, x = ⟨b, o, none⟩ ∧ b < W.heap.size := by
  have hs : x.spot = none := by
    unfold World.cell? at h0
    split at h0
    · split at h0
      · cases h0
      · rename_i hs; simpa using hs
    · cases h0
  have hblk := block_lt_of_cell h0
  obtain ⟨b, o, s⟩ := x
  simp only at hs
  subst hs
  exact ⟨b, o, rfl, hblk⟩
/-- a slice of records -/
theorem open_rows {α : Type} {f : α → List Value} {sz : Nat} (Wf : α → Prop) {t e : TypeId} {fuel : Nat} {cs : List Value} {x : DataW H × List MemPlace} (hu : P.underlying t = some (.slice e)) (ce : P.cellsOf e = sz) (hsz : 0 < sz)
    (hel : ∀ fuel cs x, DataW.trod enc P W base spare held fuel e cs = some x → ∃ y, cs = f y ∧ Wf y) (h1 : ∀ y, Wf y → ∀ u ∈ f y, u.oneCell' = true) (hln : ∀ y, Wf y → (f y).length = sz)
    (h : DataW.trod enc P W base spare held fuel t cs = some x) :
    ∃ (A : Option Addr) (l : List α) (c : Nat), cs = [.slice A l.length c] ∧ l.length ≤ c ∧ c ≤ 9223372036854775807 ∧ ReadRow f sz W W.heap.size A l ∧ ∀ y ∈ l, Wf y := by
  rcases Deep.open_slice hu h with ⟨hcs, _⟩ | ⟨a, len, cap, m, n, D, Pl, hcs, _, hl, hm, hmm, hx0, hcell⟩
  · exact ⟨none, [], 0, hcs, by simp, by omega, ReadRow.nil, by simp⟩
  · have hl2 : len ≤ m := by rw [hmm]; split <;> omega
    have key : ∀ i, i < len → ∃ y, Wf y ∧ ∀ j u, (f y)[j]? = some u → W.cell? (a.add (i * sz + j)) = some u := fun i hi => by
      obtain ⟨cs', q1, q2⟩ := hcell i (by omega)
      obtain ⟨y, rfl, hy⟩ := hel _ _ _ q2
      obtain ⟨_, q3, q4⟩ := World.cells?_some q1
      rw [ce] at q3 q4
      refine ⟨y, hy, fun j u hj => ?_⟩
      have hjs : j < sz := by
        rcases Nat.lt_or_ge j sz with h | h
        · exact h
        · rw [List.getElem?_eq_none (by omega)] at hj; cases hj
      rw [← add_of_add, q4 j hjs]
      exact hj
    have hex : ∃ l : List α, l.length = len ∧ ∀ i y, l[i]? = some y → Wf y ∧ ∀ j u, (f y)[j]? = some u → W.cell? (a.add (i * sz + j)) = some u := by
      clear hcs hl hm hmm hcell hl2 hx0
      induction len with
      | zero => exact ⟨[], rfl, by simp⟩
      | succ k ih =>
        obtain ⟨l, h1, h2⟩ := ih (fun i hi => key i (by omega))
        obtain ⟨y, h3, h4⟩ := key k (by omega)
        refine ⟨l ++ [y], by simp [h1], fun i z hz => ?_⟩
        rcases Nat.lt_or_ge i l.length with h | h
        · rw [List.getElem?_append_left h] at hz
          exact h2 i z hz
        · rw [List.getElem?_append_right h] at hz
          have h0 : i - l.length = 0 := by
            rcases Nat.eq_zero_or_pos (i - l.length) with h | h
            · exact h
            · rw [List.getElem?_eq_none (by simp; omega)] at hz; cases hz
          rw [h0] at hz
          simp at hz
          subst hz
          have : i = k := by omega
          subst this
          exact ⟨h3, h4⟩
    obtain ⟨l, hl3, hl4⟩ := hex
    have hwf : ∀ y ∈ l, Wf y := fun y hy => by
      obtain ⟨i, hi⟩ := List.getElem?_of_mem hy
      exact (hl4 i y hi).1
    have hR : RWf f sz l := fun y hy => ⟨hln y (hwf y hy), h1 y (hwf y hy)⟩
    subst hl3
    refine ⟨some a, l, cap, hcs, hl, by simpa [maxLen] using hm, ⟨hR, fun hn => ?_⟩, hwf⟩
    have hc0 : ∀ j u, (rows f l)[j]? = some u → W.cell? (a.add j) = some u := fun j u hu => by
      have hj : j < l.length * sz := by
        rcases Nat.lt_or_ge j (l.length * sz) with h | h
        · exact h
        · rw [List.getElem?_eq_none (by rw [rows_len hR]; exact h)] at hu; cases hu
      have hd : j / sz < l.length := Nat.div_lt_of_lt_mul (by rw [Nat.mul_comm]; exact hj)
      have e : j = j / sz * sz + j % sz := by rw [Nat.mul_comm]; exact (Nat.div_add_mod j sz).symm
      have hg := rows_get hR (List.getElem?_eq_getElem hd) (j % sz) (Nat.mod_lt _ hsz)
      rw [← e, hu] at hg
      have := (hl4 _ _ (List.getElem?_eq_getElem hd)).2 (j % sz) u hg.symm
      rwa [← e] at this
    obtain ⟨u0, hu0⟩ : ∃ u, (rows f l)[0]? = some u := by
      have : 0 < (rows f l).length := by rw [rows_len hR]; exact Nat.mul_pos hn hsz
      exact ⟨_, List.getElem?_eq_getElem this⟩
    have h00 := hc0 0 u0 hu0
    rw [add_zero_] at h00
    obtain ⟨b, o, rfl, hb⟩ := cells_plain h00
    exact ⟨b, o, rfl, hb, fun j u hu => by rw [← add_lit_]; exact hc0 j u hu⟩
/-- an array of bytes -/
theorem open_arr {t e : TypeId} {n fuel : Nat} {cs : List Value} {x : DataW H × List MemPlace} (hu : P.underlying t = some (.array n e)) (he : P.underlying e = some (.int .u8)) (ce : P.cellsOf e = 1) (ct : P.cellsOf t = n)
    (h : DataW.trod enc P W base spare held fuel t cs = some x) : ∃ l : List UInt8, cs = bvs l ∧ l.length = n := by
  obtain ⟨xs, m, rfl, _, hl, hxs, hi⟩ := DataW.trod_array hu h
  have hcl : cs.length = n := by omega
  have key : ∀ i, i < n → ∃ b : UInt8, cs[i]? = some (bv b) := fun i hin => by
    have h1 := hi i hin
    rw [ce, Nat.mul_one, List.getElem?_eq_getElem (show i < xs.length by omega)] at h1
    obtain ⟨z, e0, _, w0⟩ := DataW.trod_int he h1
    have hb := bd_u8 w0
    have hil : i < cs.length := by omega
    have e1 : (cs.drop i).take 1 = [cs[i]] := by
      rw [List.drop_eq_getElem_cons hil]; rfl
    rw [e1] at e0
    injection e0 with e0
    refine ⟨UInt8.ofNat z.toNat, ?_⟩
    rw [List.getElem?_eq_getElem hil, e0]
    unfold bv
    rw [UInt8.toNat_ofNat']
    congr 2
    omega
  refine ⟨(List.range n).map fun i => if hin : i < n then (key i hin).choose else 0, ?_, by simp⟩
  refine List.ext_getElem? fun i => ?_
  by_cases hin : i < n
  · rw [(key i hin).choose_spec]
    simp [bvs, hin]
  · rw [List.getElem?_eq_none (by omega), List.getElem?_eq_none (by simp [bvs]; omega)]
/-- a struct's field -/
theorem open_field {t : TypeId} {fs : Array Field} {fuel : Nat} {cs : List Value} {x : DataW H × List MemPlace} (ht : P.underlying t = some (.struct fs)) (h : DataW.trod enc P W base spare held fuel t cs = some x) :
    cs.length = P.cellsOf t ∧ ∀ (i : Nat) (f : Field), fs[i]? = some f → ∃ m y, DataW.trod enc P W base spare held m f.type ((cs.drop f.offset).take (P.cellsOf f.type)) = some y := by
  obtain ⟨xs, m, rfl, _, hl, hxs, hi⟩ := DataW.trod_struct ht h
  refine ⟨hl, fun i f hf => ?_⟩
  have hil : i < xs.length := by
    rw [hxs]
    exact (Array.getElem?_eq_some_iff.1 hf).1
  have := hi i f hf
  rw [List.getElem?_eq_getElem hil] at this
  exact ⟨m, _, this⟩
/-- a struct by value has its cells -/
theorem agg_of {b2 : Nat} {t : TypeId} {fs : Array Field} {v : Value} (ht : P.underlying t = some (.struct fs)) (hv : Value.okWide P W .any b2 t v) : ∃ cs, v = .agg cs := by
  unfold Value.okWide at hv
  simp only [ht] at hv
  obtain ⟨cs, h1, _⟩ := hv
  exact ⟨cs, h1⟩
end
end Rk
end Go.Proofs.Ytiofkhjpknfkgaa
/- Arguments: operations; several pieces of bytes. -/
namespace Go.Proofs.Ytiofkhjpknfkgaa
namespace Rk
open Go.ChangeShapes Go.WideShapes Go.ChangeAt Go.RowKit Ba Os_
set_option linter.unusedVariables false
theorem opF : (Try.prog.fieldsOf 54).toList.map (fun f => (f.type, f.offset)) = [(4, 0), (3, 1), (3, 2), (22, 3)] := by kernel_rfl
theorem fields_at2 {P : Program} {t : TypeId} {l : List (TypeId × Nat)} (h : (P.fieldsOf t).toList.map (fun f => (f.type, f.offset)) = l) (i : Nat) (a : TypeId) (o : Nat) (hi : l[i]? = some (a, o)) : ∃ f, (P.fieldsOf t)[i]? = some f ∧ f.type = a ∧ f.offset = o := by
  subst h
  rw [List.getElem?_map] at hi
  obtain ⟨f, hf, e⟩ := Option.map_eq_some_iff.1 hi
  simp only [Prod.mk.injEq] at e
  exact ⟨f, by rw [← Array.getElem?_toList]; exact hf, e.1, e.2⟩
section
variable {H : Type} {enc : TypeId × Value → H} {P : Program} {W : World} {base : Nat} {spare : Nat → Bool} {held : Bool}
/-- bytes that came in, by their one cell -/
theorem bytes_cells {t e : TypeId} {fuel : Nat} {cs : List Value} {x : DataW H × List MemPlace} (hu : P.underlying t = some (.slice e)) (he : P.underlying e = some (.int .u8)) (hc : P.cellsOf e = 1) (h : DataW.trod enc P W base spare held fuel t cs = some x) :
    ∃ (A : Option Addr) (l : List UInt8) (c : Nat), cs = [.slice A l.length c] ∧ l.length ≤ c ∧ c ≤ 9223372036854775807 ∧ ReadB W W.heap.size A l := by
  rcases Deep.open_slice hu h with ⟨rfl, _⟩ | ⟨a, len, cap, m, n, D, Pl, rfl, _⟩
  · exact ⟨none, [], 0, rfl, by simp, by omega, ReadB.nil⟩
  · obtain ⟨l, rfl, h1, h2, h3⟩ := bytes_open (d := x.1) (ps := x.2) hu he hc ⟨fuel, h⟩
    exact ⟨_, l, cap, rfl, h1, h2, h3⟩
end
section
variable {H : Type} {enc : TypeId × Value → H} {W : World} {base : Nat} {spare : Nat → Bool} {held : Bool}
theorem open_op {fuel : Nat} {cs : List Value} {x : DataW H × List MemPlace} (h : DataW.trod enc Try.prog W base spare held fuel 54 cs = some x) : ∃ y : Ow, cs = opv y ∧ WfO W W.heap.size y := by
  obtain ⟨hl, hf⟩ := open_field (t := 54) (fs := Try.prog.fieldsOf 54) (by kernel_rfl) h
  obtain ⟨f0, g0, t0, o0⟩ := fields_at2 opF 0 4 0 rfl
  obtain ⟨f1, g1, t1, o1⟩ := fields_at2 opF 1 3 1 rfl
  obtain ⟨f2, g2, t2, o2⟩ := fields_at2 opF 2 3 2 rfl
  obtain ⟨f3, g3, t3, o3⟩ := fields_at2 opF 3 22 3 rfl
  obtain ⟨m0, y0, h0⟩ := hf 0 f0 g0
  obtain ⟨m1, y1, h1⟩ := hf 1 f1 g1
  obtain ⟨m2, y2, h2⟩ := hf 2 f2 g2
  obtain ⟨m3, y3, h3⟩ := hf 3 f3 g3
  rw [t0, o0, show Try.prog.cellsOf 4 = 1 by kernel_rfl] at h0
  rw [t1, o1, show Try.prog.cellsOf 3 = 1 by kernel_rfl] at h1
  rw [t2, o2, show Try.prog.cellsOf 3 = 1 by kernel_rfl] at h2
  rw [t3, o3, show Try.prog.cellsOf 22 = 1 by kernel_rfl] at h3
  rw [show Try.prog.cellsOf 54 = 4 by kernel_rfl] at hl
  obtain ⟨z0, e0, _⟩ := DataW.trod_bool Try.underlying4 h0
  obtain ⟨z1, e1, _, w1⟩ := DataW.trod_int Try.underlying3 h1
  obtain ⟨z2, e2, _, w2⟩ := DataW.trod_int Try.underlying3 h2
  obtain ⟨A, l, c, e3, q1, q2, q3⟩ := bytes_cells Try.underlying22 Try.underlying5 (by kernel_rfl) h3
  refine ⟨(⟨z0, z1, z2, l⟩, A, c), ?_, bd_i64 w1, bd_i64 w2, q1, q2, q3⟩
  unfold opv
  match cs, hl with
  | [x, y, z, u], _ =>
    simp at e0 e1 e2 e3
    rw [e0, e1, e2, e3]
/-- an argument of operations -/
theorem ops_open {a : Option Addr} {len cap : Nat} {d : DataW H} {ps : List MemPlace} (h : DataW.Trod enc Try.prog W base spare held 23 (.slice a len cap) d ps) :
    ∃ L : List Ow, len = L.length ∧ L.length ≤ cap ∧ cap ≤ 9223372036854775807 ∧ ReadO W W.heap.size a L := by
  obtain ⟨fuel, hf⟩ := h
  obtain ⟨A, l, c, e, q1, q2, q3, q4⟩ := open_rows (f := opv) (sz := 4) (WfO W W.heap.size) Try.underlying23 (by kernel_rfl) (by omega) (fun fuel cs x hx => open_op hx) (fun y _ => opv_one y) (fun y _ => opv_len y) hf
  simp [Value.cells] at e
  obtain ⟨rfl, rfl, rfl⟩ := e
  exact ⟨l, rfl, q1, q2, q3, q4⟩
end
end Rk
end Go.Proofs.Ytiofkhjpknfkgaa
