/- A new file that was searched, put, fed and applied is what it was; or two unlike texts have one sum: the walk of the statement. -/
import Derived.Test.YtiofkhjpknfkgaaDoorP01
import Derived.Test.YtiofkhjpknfkgaaDoorP02
import Derived.Test.YtiofkhjpknfkgaaDoorP03
import Derived.Test.YtiofkhjpknfkgaaDoorP04
import Derived.Test.YtiofkhjpknfkgaaDoorP05
import Derived.Test.YtiofkhjpknfkgaaDoorP06
import Derived.Test.YtiofkhjpknfkgaaDoorP07
import Derived.Test.YtiofkhjpknfkgaaDoorP08
import Derived.Test.YtiofkhjpknfkgaaDoorP09
import Derived.Test.YtiofkhjpknfkgaaDoorP10
import Derived.Test.YtiofkhjpknfkgaaDoorP11
import Derived.Test.YtiofkhjpknfkgaaDoorP12
import Derived.Test.YtiofkhjpknfkgaaDoorP13
import Derived.Test.YtiofkhjpknfkgaaDoorP14
import Derived.Test.YtiofkhjpknfkgaaDoorP15
import Derived.Test.YtiofkhjpknfkgaaDoorP16
import Derived.Test.YtiofkhjpknfkgaaDoorP17
namespace Go.Proofs.YtiofkhjpknfkgaaDoor
namespace Ms
open Go.RowKit Ba Tm Os_ Bk Ro Sm
set_option linter.unusedVariables false
theorem mStr (W : World) (B : Nat) (A : Option Addr) (c : Nat) (l : List UInt8) (n : Nat) (hn : n = l.length) (h : ReadB W B A l) : (convert 22 9 (.slice A n c)).run Tryd.prog W = .ok (.string (S l)) W := by
  subst hn
  exact run_strof W 22 5 Tryd.underlying22 Tryd.underlying5 A c B l h 9 Tryd.underlying9
theorem mBelowN {B : Nat} {a w : World} (h : Below B a w) (n : Nat) : Below B a (w.drewN n) := h.trans ⟨rfl, rfl, rfl, Nat.le_refl _, fun _ _ => rfl⟩
theorem mBeqS (l : List UInt8) : ((S l).toList == (S l).toList) = true := beq_self_eq_true _
theorem mBeqN {l r : List UInt8} (h : l ≠ r) : ((S l).toList == (S r).toList) = false := by rw [S_toList, S_toList, beq_eq_false_iff_ne]; exact h
theorem of_at {W V : World} {A : Option Addr} {B z c g : Nat} {T : List UInt8} (hV : Below W.heap.size W V) (hg : Blk V g 22 #[.slice A z c]) (hT : ReadB W B A T) (hB : B ≤ W.heap.size) (hz : z = T.length) (hzc : z ≤ c) (hcm : c ≤ 9223372036854775807) (htab : Tab W) (hzl : z ≤ 4096) :
    Calls Tryd.prog 16 #[.slice (some ⟨g, 0, none⟩) 1 1] V fun e w' => e = .returned (.agg (bvs (sha T)).toArray) ∧ Below V.heap.size V w' := by
  subst hz
  have hbb : ReadBB V V.heap.size (some ⟨g, 0, none⟩) [T] := fun _ => ⟨g, 0, rfl, hg.lt, fun k hk => by
    have : k = 0 := by simp at hk; omega
    subst this
    exact ⟨A, c, by rw [Blk.cell hg]; rfl, hzc, hcm, ((hT.below (hV.mono hB)).more (Nat.le_trans hB hV.size))⟩⟩
  have := of_calls [T] (some ⟨g, 0, none⟩) 1 V hbb (htab.below hV) (by simp) (by omega) (by intro x hx; simp at hx; subst hx; omega) (by simp; omega)
  rwa [show [T].flatten = T by simp] at this
/-- a pair of blocks is no pair of unlike texts with one sum -/
def Fine (old b : List UInt8) (z i k : Nat) : Prop := i + z ≤ old.length → k + z ≤ b.length → sha (cut old i (i + z)) = sha (cut b k (k + z)) → cut old i (i + z) = cut b k (k + z)
theorem blk2 (W : World) (o1 : Obj) (t : TypeId) (cs : Array Value) : Blk ((W.alloc o1).alloc (.cells cs t)) (W.heap.size + 1) t cs := by
  have := heap_alloc_new (W.alloc o1) (.cells cs t)
  simpa [Blk] using this
set_option maxRecDepth 100000 in
set_option maxHeartbeats 16000000 in
theorem deltaMirrors_calls (old : List UInt8) (A : Option Addr) (no c : Nat) (b : List UInt8) (A1 : Option Addr) (n c1 : Nat) (s : Int) (hno : no = old.length) (hn : n = b.length) (hc : no ≤ c) (hcm : c ≤ 9223372036854775807) (hc1 : n ≤ c1) (hcm1 : c1 ≤ 9223372036854775807) (hs : 0 ≤ s ∧ s < 256) (w : World) (htab : Tab w) (ho : ReadB w w.heap.size A old) (hr : ReadB w w.heap.size A1 b) :
    Calls Tryd.prog 8 #[.slice A no c, .slice A1 n c1, .int .u8 s] w fun e w' => e = .returned (.bool true) ∧ Below w.heap.size w w' := by
  have Htab := Lib.hid htab
  have Ho := Lib.hid ho
  have Hr := Lib.hid hr
  have Hn := Lib.hid hn
  have Hno := Lib.hid hno
  obtain ⟨q, hq, hq2⟩ : ∃ q : Nat, s.tmod 64 = (q : Int) ∧ q < 64 := ⟨(s.tmod 64).toNat, by rw [Int.tmod_eq_emod_of_nonneg hs.1]; omega, by rw [Int.tmod_eq_emod_of_nonneg hs.1]; omega⟩
  obtain ⟨z, hz⟩ : ∃ z, z = 1 + q := ⟨_, rfl⟩
  have hqz : (1 : Int) + (q : Int) = (z : Int) := by omega
  have hz1 : 1 ≤ z ∧ z ≤ 64 := by omega
  have hz2 : 1 ≤ z ∧ z ≤ 4096 := by omega
  have hwz : IntKind.i64.wrap (z : Int) = (z : Int) := by rw [IntKind.wrap_i64]; omega
  have Hz := Lib.hid hz
  clear hz htab ho hr hn hno
  by_cases h1 : 400 < no
  · have g1 : decide (400 < (no : Int)) = true := decide_eq_true (by omega)
    go_enter Tryd.func8, Tryd.ntmps8
    go_wp2_with (go_at_call 21; refine (Dl.awake_calls _).mono ?_; rintro e w5 ⟨rfl, hb5⟩)
    go_ret
    exact ⟨rfl, hb5⟩
  have g1 : decide (400 < (no : Int)) = false := decide_eq_false (by omega)
  by_cases h2 : 400 < n
  · have g2 : decide (400 < (n : Int)) = true := decide_eq_true (by omega)
    go_enter Tryd.func8, Tryd.ntmps8
    go_wp2_with (go_at_call 21; refine (Dl.awake_calls _).mono ?_; rintro e w5 ⟨rfl, hb5⟩)
    go_ret
    exact ⟨rfl, hb5⟩
  have g2 : decide (400 < (n : Int)) = false := decide_eq_false (by omega)
  obtain ⟨i0, hi0⟩ := isByte_of Cl.info5
  have Hi0 := Lib.hid hi0
  have hsg := sign_calls old (z : Int) A c w Ho.out (by have := Hno.out; omega) hcm (by omega) Htab.out
  rw [sign_good old z hz2 (by have := Hno.out; omega)] at hsg
  have hck := check_sign old z hz2 (by have := Hno.out; omega)
  have hwf := signK_wf z old (old.length / z)
  have hlL : (signK z old (old.length / z)).length ≤ 4096 := by rw [signK_len]; have := Nat.div_le_self old.length z; have := Hno.out; omega
  obtain ⟨f1, f2, f3, f4, ⟨dd, f5⟩, f6⟩ := mirror_facts z old b hz1.1 (by have := Hn.out; omega) (by have := Hno.out; omega)
  obtain ⟨L, hL⟩ : ∃ L, L = signK z old (old.length / z) := ⟨_, rfl⟩
  rw [← hL] at hsg hck hwf hlL f1 f2 f3 f4 f5 f6
  have hap : Dm.apply old (search (findB z L) z b) = (Dm.made old (search (findB z L) z b), 0) := by unfold Dm.apply; rw [if_neg (by rw [f1]; simp)]
  obtain ⟨R, hR⟩ : ∃ R, R = search (findB z L) z b := ⟨_, rfl⟩
  rw [← hR] at f1 f2 f3 f4 f5 f6 hap
  obtain ⟨md, hmd⟩ : ∃ md, md = Dm.made old R := ⟨_, rfl⟩
  rw [← hmd] at hap f4 f6
  rw [← Hno.out] at hsg hck f5
  rw [← Hn.out] at f4
  have hnew := fun w1 A1 c1 h => new_good z (no : Int) L A1 c1 (by omega) w1 hck h hwf
  obtain ⟨m, hm⟩ : ∃ m, m = L.length := ⟨_, rfl⟩
  rw [← hm] at hnew
  have Hm := Lib.hid hm
  have Hsg := Lib.hid hsg
  have Hnew := Lib.hid hnew
  have Hwf := Lib.hid hwf
  have HlL := Lib.hid hlL
  have HR := Lib.hid hR
  have F2 := Lib.hid f2
  have F3 := Lib.hid f3
  have F4 := Lib.hid f4
  have F5 := Lib.hid f5
  have F6 := Lib.hid f6
  have Hap := Lib.hid hap
  clear hsg hck hwf hlL hL hnew hm hR f1 f2 f3 f4 f5 f6 hap hi0 hmd
  go_enter Tryd.func8, Tryd.ntmps8
  go_wp2_with fail
  refine Calls.mono Hsg.out ?_
  rintro e1 w1 ⟨v1, rfl, ho1, hb1⟩
  obtain ⟨A2, c2, rfl, -, -, q1, -⟩ := ho1.opens
  have Hq1 := Lib.hid q1
  have Hb1 := Lib.hid hb1
  rw [← Hm.out]
  clear ho1 hb1 q1 Hsg
  go_wp2_with fail
  refine Calls.mono (Hnew.out w1 A2 c2 Hq1.out) ?_
  rintro e2 w2 ⟨gx, rfl, -, hX2, hb2⟩
  have HX2 := Lib.hid hX2
  have HB2 := Lib.hid (Hb1.out.trans (hb2.mono Hb1.out.size))
  clear hX2 hb2 Hnew Hb1 Hq1
  go_wp2_with fail
  refine Calls.mono (Dl.new_calls (no : Int) w2) ?_
  rintro e3 w3 ⟨g, rfl, hg3, hD3, hb3⟩
  have HX3 := Lib.hid (HX2.out.below hb3)
  have HD3 := Lib.hid hD3
  have HB3 := Lib.hid (HB2.out.trans (hb3.mono HB2.out.size))
  have Hg : Hid (w.heap.size ≤ g) := Lib.hid (Nat.le_trans HB2.out.size hg3)
  clear hD3 hb3 hg3 HB2 HX2
  have hsc := search_calls z L gx b A1 n c1 w3 HX3.out hz2 HlL.out Hwf.out ((Hr.out.below HB3.out).more HB3.out.size) Hn.out hc1 hcm1 (by omega) (Htab.out.below HB3.out)
  rw [← HR.out] at hsc
  have Hsc := Lib.hid hsc
  clear hsc
  go_wp2_with fail
  refine Calls.mono Hsc.out ?_
  rintro e4 w4 ⟨v4, M, rfl, ho4, hM4, hb4⟩
  obtain ⟨A4, c4, hv4, -, -, q4, -⟩ := ho4.opens
  obtain ⟨m4, hm4⟩ : ∃ m4, m4 = M.length := ⟨_, rfl⟩
  rw [← hm4] at hv4
  subst hv4
  have HB4 := Lib.hid (HB3.out.trans (hb4.mono HB3.out.size))
  have HD4 := Lib.hid (HD3.out.below hb4)
  have hm44 : m4 ≤ 4096 := by rw [hm4, ← ops_len, hM4]; exact F2.out
  have hpc := Dl.put_calls M A4 m4 c4 hm4 hm44 (by rw [hM4]; exact F3.out) w4 q4
  rw [hM4] at hpc
  have Hpc := Lib.hid hpc
  clear ho4 hM4 hb4 q4 hm4 hm44 hpc Hsc HX3 HD3
  go_wp2_with fail
  refine Calls.mono Hpc.out ?_
  rintro e5 w5 ⟨v5, rfl, ho5, hb5⟩
  obtain ⟨A5, c5, hv5, s1, s2, s3, -⟩ := ho5.opens
  obtain ⟨m5, hm5⟩ : ∃ m5, m5 = (Dm.put R).length := ⟨_, rfl⟩
  rw [← hm5] at hv5 s1
  subst hv5
  have HB5 := Lib.hid (HB4.out.trans (hb5.mono HB4.out.size))
  have HD5 := HD4.out.below hb5
  have hm5b : m5 ≤ 1099511627776 := by rw [hm5]; exact put_small R F2.out F3.out
  have hfc := Dl.feed_calls g (no : Int) 0 [] 0 (Dm.put R) A5 m5 c5 hm5 s1 s2 (by omega) (by omega) (by simpa using hm5b) w5 HD5 s3
  unfold Dl.FeedPost at hfc
  rw [F5.out] at hfc
  have Hfc := Lib.hid hfc
  clear ho5 hb5 s1 s2 s3 hm5 hm5b hfc HD5 HD4 Hpc
  go_wp2_with fail
  refine Calls.mono Hfc.out ?_
  rintro e6 w6 ⟨v6, M6, rfl, ho6, hM6, -, hg6⟩
  obtain ⟨A6, c6, hv6, -, -, q6, -⟩ := ho6.opens
  obtain ⟨m6, hm6⟩ : ∃ m6, m6 = M6.length := ⟨_, rfl⟩
  rw [← hm6] at hv6
  subst hv6
  have hk6 : m6 ≤ 9223372036854775807 := by obtain ⟨A', c', e', h1', h2', -⟩ := ho6.opens; omega
  have HB6 := Lib.hid (HB5.out.trans (below_of_only hg6 Hg.out HB5.out.size))
  have hac := Dl.apply_calls old A no c Hno.out hc hcm M6 A6 m6 c6 hm6 hk6 w6 ((Ho.out.below HB6.out).more HB6.out.size) q6
  (try simp only at hM6)
  rw [hM6, Hap.out] at hac
  have Hac := Lib.hid hac
  clear ho6 hM6 hg6 q6 hm6 hk6 hac Hfc
  go_wp2_with fail
  refine Calls.mono Hac.out ?_
  rintro e7 w7 ⟨v7, rfl, ho7, hb7⟩
  obtain ⟨A7, c7, hv7, -, -, q7, -⟩ := ho7.opens
  (try simp only at hv7)
  rw [F4.out] at hv7
  subst hv7
  have HB7 := Lib.hid (HB6.out.trans (hb7.mono HB6.out.size))
  have hst1 := mStr w7 _ A7 c7 md n F4.out.symm q7
  have hst2 := mStr w7 _ A1 c1 b n Hn.out (Hr.out.below HB7.out)
  clear ho7 hb7 q7 Hac
  by_cases hmb : md = b
  · subst hmb
    have hbq := mBeqS md
    go_wp2_with fail
    refine (Dl.awake_calls _).mono ?_
    rintro e9 w9 ⟨rfl, hb9⟩
    have HB9 := Lib.hid (HB7.out.trans (hb9.mono HB7.out.size))
    clear hb9
    go_wp2_with fail
    go_ret
    exact ⟨rfl, HB9.out⟩
  · have hbq := mBeqN hmb
    have hbq2 : (md == b) = false := by rw [beq_eq_false_iff_ne]; exact hmb
    have HF : Hid (∃ i k, i % z = 0 ∧ ¬ Fine old b z i k) := Lib.hid (Classical.byContradiction fun hno' => hmb (F6.out fun i k a1 a2 a3 a4 => Classical.byContradiction fun hne => hno' ⟨i, k, a1, fun hf => hne (hf a2 a3 a4)⟩))
    clear hmb
    go_wp2_with fail
    clear hst1 hst2 hbq hbq2
    go_loopg [16, 17] (no + 1) (fun q v16 v17 wr => ∃ i : Nat, q = no + 1 - i ∧ v16 = .int .i64 (i : Int) ∧ i ≤ no ∧ i % z = 0 ∧ (∀ i', i' < i → i' % z = 0 → ∀ k', Fine old b z i' k') ∧ Below w7.heap.size w7 wr)
    case atStart => exact ⟨0, by omega, rfl, by omega, Nat.zero_mod _, fun i' h => absurd h (by omega), Below.refl _ _⟩
    case round =>
      obtain ⟨i, hq, rfl, hio, hiz, hfi, hBi⟩ := hrel
      have Hq := Lib.hid hq
      have Hfi := Lib.hid hfi
      have HBi := Lib.hid hBi
      have Hiz := Lib.hid hiz
      clear hq hfi hBi hiz
      by_cases hi1 : i + z ≤ no
      · have t1 : decide ((i : Int) + (z : Int) ≤ (no : Int)) = true := decide_eq_true (by omega)
        obtain ⟨wo, rfl⟩ : ∃ wo : World, wo = wr := ⟨_, rfl⟩
        go_wp2_with fail
        go_loopg [17] (n + 1) (fun q v17 wx => ∃ k : Nat, q = n + 1 - k ∧ v17 = .int .i64 (k : Int) ∧ k ≤ n ∧ (∀ k', k' < k → Fine old b z i k') ∧ Below w7.heap.size w7 wx)
        case atStart => exact ⟨0, by omega, rfl, by omega, fun k' h => absurd h (by omega), HBi.out⟩
        case round =>
          obtain ⟨k, hq2, rfl, hkn, hfk, hBk⟩ := hrel
          have Hq2 := Lib.hid hq2
          have Hfk := Lib.hid hfk
          have HBk := Lib.hid hBk
          clear hq2 hfk hBk
          by_cases hk1 : k + z ≤ n
          · have t2 : decide ((k : Int) + (z : Int) ≤ (n : Int)) = true := decide_eq_true (by omega)
            obtain ⟨bb, oo, rfl, hbb, -⟩ := Hr.out (by rw [← Hn.out]; omega)
            obtain ⟨ob, ox, rfl, hob, -⟩ := Ho.out (by rw [← Hno.out]; omega)
            have hBw := HB7.out.trans (HBk.out.mono HB7.out.size)
            obtain ⟨T1, hT1⟩ : ∃ T1, T1 = cut old i (i + z) := ⟨_, rfl⟩
            obtain ⟨T2, hT2⟩ : ∃ T2, T2 = cut b k (k + z) := ⟨_, rfl⟩
            have hr1 : ReadB wr w.heap.size (some ⟨ob, ox + i, none⟩) T1 := by rw [hT1]; exact readB_cut (Ho.out.below hBw)
            have hr2 : ReadB wr w.heap.size (some ⟨bb, oo + k, none⟩) T2 := by rw [hT2]; exact readB_cut (Hr.out.below hBw)
            have Hl1 : Hid (z = T1.length) := Lib.hid (by rw [hT1, cut_len old _ _ (by omega) (by have := Hno.out; omega)]; omega)
            have Hl2 : Hid (z = T2.length) := Lib.hid (by rw [hT2, cut_len b _ _ (by omega) (by have := Hn.out; omega)]; omega)
            have hs1 := fun w' => sl_lh (P := Tryd.prog) 22 5 i0 Tryd.underlying22 Hi0.out ob ox no c (i : Int) ((i : Int) + (z : Int)) i z rfl rfl (by omega) (by omega) w'
            have hs2 := fun w' => sl_lh (P := Tryd.prog) 22 5 i0 Tryd.underlying22 Hi0.out bb oo n c1 (k : Int) ((k : Int) + (z : Int)) k z rfl rfl (by omega) (by omega) w'
            have u1 : IntKind.i64.wrap ((i : Int) + (z : Int)) = (i : Int) + (z : Int) := by rw [IntKind.wrap_i64]; omega
            have u2 : IntKind.i64.wrap ((k : Int) + (z : Int)) = (k : Int) + (z : Int) := by rw [IntKind.wrap_i64]; omega
            clear hbb hob hBw
            by_cases hTT : T1 = T2
            · have Hnf : Hid (Fine old b z i k) := Lib.hid (fun _ _ _ => by rw [← hT1, ← hT2]; exact hTT)
              subst hTT
              have hbq := mBeqS T1
              have hst1 : ∀ j, (convert 22 9 (.slice (some ⟨ob, ox + i, none⟩) z (c - i))).run Tryd.prog (wr.drewN j) = .ok (.string (S T1)) (wr.drewN j) := fun j => mStr (wr.drewN j) _ _ _ T1 z Hl1.out hr1
              have hst2 : ∀ j, (convert 22 9 (.slice (some ⟨bb, oo + k, none⟩) z (c1 - k))).run Tryd.prog (wr.drewN j) = .ok (.string (S T1)) (wr.drewN j) := fun j => mStr (wr.drewN j) _ _ _ T1 z Hl2.out hr2
              clear hr1 hr2 hT1 hT2
              go_wp2_with fail
              go_quiet (fail)
              have HBd : Hid (Below w7.heap.size w7 (wr.drewN nq)) := Lib.hid (mBelowN HBk.out nq)
              clear hst1 hst2 hbq hs1 hs2 u1 u2
              go_wp2_with fail
              go_roundg (n + 1 - (k + 1))
              case rel => exact ⟨k + 1, rfl, by first | rfl | simp, by omega, fun k' h => by
                rcases Nat.lt_or_ge k' k with h2 | h2
                · exact Hfk.out k' h2
                · have : k' = k := by omega
                  subst this
                  exact Hnf.out, HBd.out⟩
              case measure => have := Hq2.out; omega
            · have hbq := mBeqN hTT
              have hbq2 : (T1 == T2) = false := by rw [beq_eq_false_iff_ne]; exact hTT
              have he32 : ∀ T, (sha T).length = 32 := fun T => hash_len T
              have heq := fun w' => Bk.run_eqB (sha T1) (sha T2) (he32 T1) (he32 T2) w'
              obtain ⟨q, hq⟩ : ∃ q, q = (sha T1 == sha T2) := ⟨_, rfl⟩
              rw [← hq] at heq
              have Hnf : Hid (q = false → Fine old b z i k) := Lib.hid (fun h0 _ _ h => by
                rw [← hT1, ← hT2] at h
                rw [h0, h, beq_self_eq_true] at hq
                cases hq)
              clear hq hTT hT1 hT2 he32
              go_wp2_with fail
              have Hr1 : Hid (ReadB wr.drew w.heap.size (some ⟨ob, ox + i, none⟩) T1) := Lib.hid hr1
              have Hr2 : Hid (ReadB wr.drew w.heap.size (some ⟨bb, oo + k, none⟩) T2) := Lib.hid hr2
              have HBd : Hid (w.heap.size ≤ wr.drew.heap.size) := Lib.hid (HB7.out.trans (HBk.out.mono HB7.out.size)).size
              have HTW : Hid (Tab wr.drew) := Lib.hid (Htab.out.below (HB7.out.trans (HBk.out.mono HB7.out.size)).drew)
              have HBW : Hid (Below w7.heap.size w7 wr.drew) := Lib.hid HBk.out.drew
              have Hr1s := Hr1.out.more HBd.out
              have Hr2s := Hr2.out.more HBd.out
              refine CanB.region 1000 (.op 0 2 (.op 1 2 (.op 2 2 (.op 3 2 (.op 4 2 (.op 5 2 (.op 6 1 (.op 7 2 (.op 8 2 (.op 9 2 (.op 10 2 (.op 11 2 (.op 12 2 (.op 13 1 (.op 14 2 (.op 15 2 (.op 16 2 (.op 17 2 (.op 18 2 (.op 19 2 (.op 20 2 (.op 21 2 (.op 24 2 (.op 25 2 (.op 26 2 (.op 27 2 (.op 28 2 (.op 29 2 (.fork (.op 22 0 (.fork (.op 23 0 (.op 30 0 (.op 31 0 (.op 32 2 (.op 33 2 (.nil)))))) (.op 30 0 (.op 23 0 (.op 31 0 (.op 32 2 (.op 33 2 (.nil)))))))) (.op 30 0 (.op 22 0 (.op 23 0 (.op 31 0 (.op 32 2 (.op 33 2 (.nil)))))))))))))))))))))))))))))))))))) (by kernel_rfl) (by kernel_rfl) ?_
              have HR1 := Lib.hid Hr1s
              have HR2 := Lib.hid Hr2s
              clear hr1 hr2 Hr1s Hr2s
              generalize wr.drew = W at *
              repeat (first | (refine CanT.skip rfl ?_ (fun K hK => ?_); (focus (go_simp; done)); go_simp; refine hK _ ?_; clear hK K) | (refine CanT.pur rfl ?_ ?_; (focus (go_simp; done)); refine ⟨?_, ?_, ?_⟩; rotate_left; (focus (intro w'; go_simp; rfl)); (focus (intro K hK; go_simp; refine hK _ ?_; clear hK K))) | (refine CanB.str rfl ?_ 22 9 5 _ rfl Tryd.underlying22 Tryd.underlying5 Tryd.underlying9 (some ⟨ob, ox + i, none⟩) _ (c - i) (T1) rfl (Hl1.out) HR1.out (fun K hK => ?_); (focus (go_simp; done)); go_simp; refine hK _ ?_; clear hK K) | (refine CanB.str rfl ?_ 22 9 5 _ rfl Tryd.underlying22 Tryd.underlying5 Tryd.underlying9 (some ⟨bb, oo + k, none⟩) _ (c1 - k) (T2) rfl (Hl2.out) HR2.out (fun K hK => ?_); (focus (go_simp; done)); go_simp; refine hK _ ?_; clear hK K))
              have hof1 := True.intro
              have hof2 := True.intro
              refine CanT.both ?_ ?_
              · have HB1 := ((Below.refl W.heap.size W).alloc (Nat.le_refl _) (.cells #[.slice (some ⟨ob, ox + i, none⟩) z (c - i)] 22))
                refine CanT.imp rfl (fun K hK => ?_)
                go_simp
                refine hK.out _ _ (HB1) ?_
                clear hK K
                refine CanT.both ?_ ?_
                · as_aux_lemma =>
                    refine CanT.imp rfl (fun K hK => ?_)
                    go_simp
                    refine (of_at (W := W) (V := W.alloc (.cells #[.slice (some ⟨ob, ox + i, none⟩) z (c - i)] 22)) (HB1) (heap_alloc_new W _) Hr1.out HBd.out Hl1.out (by omega) (by omega) HTW.out (by omega)).mono ?_
                    rintro e V2 ⟨rfl, hbV2⟩
                    have HBV2 := HB1.trans (hbV2.mono HB1.size)
                    clear hbV2
                    (try go_simp)
                    refine hK.out _ _ HBV2 ?_
                    clear hK K
                    have HB3 := HBV2.alloc HBV2.size (.cells #[.slice (some ⟨bb, oo + k, none⟩) z (c1 - k)] 22)
                    refine CanT.imp rfl (fun K hK => ?_)
                    go_simp
                    refine hK.out _ _ (HB3) ?_
                    clear hK K
                    refine CanT.imp rfl (fun K hK => ?_)
                    go_simp
                    refine (of_at (W := W) (V := V2.alloc (.cells #[.slice (some ⟨bb, oo + k, none⟩) z (c1 - k)] 22)) (HB3) (heap_alloc_new V2 _) Hr2.out HBd.out Hl2.out (by omega) (by omega) HTW.out (by omega)).mono ?_
                    rintro e V4 ⟨rfl, hbV4⟩
                    have HBV4 := HB3.trans (hbV4.mono HB3.size)
                    clear hbV4
                    (try go_simp)
                    refine hK.out _ _ HBV4 ?_
                    clear hK K
                    repeat (first | (refine CanT.skip rfl ?_ (fun K hK => ?_); (focus (go_simp; done)); go_simp; refine hK _ ?_; clear hK K) | (refine CanT.pur rfl ?_ ?_; (focus (go_simp; done)); refine ⟨?_, ?_, ?_⟩; rotate_left; (focus (intro w'; go_simp; rfl)); (focus (intro K hK; go_simp; refine hK _ ?_; clear hK K))))
                    refine CanT.done ?_
                    have HBz := Lib.hid (HBW.out.trans (HBV4.mono HBW.out.size))
                    clear hof1 hof2
                    cases q with
                    | true =>
                      go_wp2_with fail
                      refine (Dl.awake_calls _).mono ?_
                      rintro e9 w9 ⟨rfl, hb9⟩
                      have HB9 := Lib.hid (HB7.out.trans ((HBz.out.trans (hb9.mono HBz.out.size)).mono HB7.out.size))
                      clear hb9
                      go_wp2_with fail
                      (try rw [Exit.noGoto_ret])
                      go_ret
                      exact ⟨rfl, HB9.out⟩
                    | false =>
                      (try go_wp2_with fail)
                      go_roundg (n + 1 - (k + 1))
                      case rel => exact ⟨k + 1, rfl, by first | rfl | simp, by omega, fun k' h => by
                        rcases Nat.lt_or_ge k' k with h2 | h2
                        · exact Hfk.out k' h2
                        · have : k' = k := by omega
                          subst this
                          first | exact Hnf.out rfl | exact Hnf.out trivial, HBz.out⟩
                      case measure => have := Hq2.out; omega
                · as_aux_lemma =>
                    have HB3 := HB1.alloc HB1.size (.cells #[.slice (some ⟨bb, oo + k, none⟩) z (c1 - k)] 22)
                    refine CanT.imp rfl (fun K hK => ?_)
                    go_simp
                    refine hK.out _ _ (HB3) ?_
                    clear hK K
                    refine CanT.imp rfl (fun K hK => ?_)
                    go_simp
                    refine (of_at (W := W) (V := (W.alloc (.cells #[.slice (some ⟨ob, ox + i, none⟩) z (c - i)] 22)).alloc (.cells #[.slice (some ⟨bb, oo + k, none⟩) z (c1 - k)] 22)) (HB3) (Blk.alloc (heap_alloc_new W _) _) Hr1.out HBd.out Hl1.out (by omega) (by omega) HTW.out (by omega)).mono ?_
                    rintro e V3 ⟨rfl, hbV3⟩
                    have hbk := (blk2 W (.cells #[.slice (some ⟨ob, ox + i, none⟩) z (c - i)] 22) 22 #[.slice (some ⟨bb, oo + k, none⟩) z (c1 - k)]).below hbV3 (blk2 W (.cells #[.slice (some ⟨ob, ox + i, none⟩) z (c - i)] 22) 22 #[.slice (some ⟨bb, oo + k, none⟩) z (c1 - k)]).lt
                    have HBV3 := HB3.trans (hbV3.mono HB3.size)
                    clear hbV3
                    (try go_simp)
                    refine hK.out _ _ HBV3 ?_
                    clear hK K
                    refine CanT.imp rfl (fun K hK => ?_)
                    go_simp
                    refine (of_at (W := W) (V := V3) (HBV3) (hbk) Hr2.out HBd.out Hl2.out (by omega) (by omega) HTW.out (by omega)).mono ?_
                    rintro e V4 ⟨rfl, hbV4⟩
                    have HBV4 := HBV3.trans (hbV4.mono HBV3.size)
                    clear hbV4
                    (try go_simp)
                    refine hK.out _ _ HBV4 ?_
                    clear hK K
                    repeat (first | (refine CanT.skip rfl ?_ (fun K hK => ?_); (focus (go_simp; done)); go_simp; refine hK _ ?_; clear hK K) | (refine CanT.pur rfl ?_ ?_; (focus (go_simp; done)); refine ⟨?_, ?_, ?_⟩; rotate_left; (focus (intro w'; go_simp; rfl)); (focus (intro K hK; go_simp; refine hK _ ?_; clear hK K))))
                    refine CanT.done ?_
                    have HBz := Lib.hid (HBW.out.trans (HBV4.mono HBW.out.size))
                    clear hof1 hof2
                    cases q with
                    | true =>
                      go_wp2_with fail
                      refine (Dl.awake_calls _).mono ?_
                      rintro e9 w9 ⟨rfl, hb9⟩
                      have HB9 := Lib.hid (HB7.out.trans ((HBz.out.trans (hb9.mono HBz.out.size)).mono HB7.out.size))
                      clear hb9
                      go_wp2_with fail
                      (try rw [Exit.noGoto_ret])
                      go_ret
                      exact ⟨rfl, HB9.out⟩
                    | false =>
                      (try go_wp2_with fail)
                      go_roundg (n + 1 - (k + 1))
                      case rel => exact ⟨k + 1, rfl, by first | rfl | simp, by omega, fun k' h => by
                        rcases Nat.lt_or_ge k' k with h2 | h2
                        · exact Hfk.out k' h2
                        · have : k' = k := by omega
                          subst this
                          first | exact Hnf.out rfl | exact Hnf.out trivial, HBz.out⟩
                      case measure => have := Hq2.out; omega
              · as_aux_lemma =>
                  have HB1 := ((Below.refl W.heap.size W).alloc (Nat.le_refl _) (.cells #[.slice (some ⟨bb, oo + k, none⟩) z (c1 - k)] 22))
                  refine CanT.imp rfl (fun K hK => ?_)
                  go_simp
                  refine hK.out _ _ (HB1) ?_
                  clear hK K
                  have HB3 := HB1.alloc HB1.size (.cells #[.slice (some ⟨ob, ox + i, none⟩) z (c - i)] 22)
                  refine CanT.imp rfl (fun K hK => ?_)
                  go_simp
                  refine hK.out _ _ (HB3) ?_
                  clear hK K
                  refine CanT.imp rfl (fun K hK => ?_)
                  go_simp
                  refine (of_at (W := W) (V := (W.alloc (.cells #[.slice (some ⟨bb, oo + k, none⟩) z (c1 - k)] 22)).alloc (.cells #[.slice (some ⟨ob, ox + i, none⟩) z (c - i)] 22)) (HB3) (blk2 W _ _ _) Hr1.out HBd.out Hl1.out (by omega) (by omega) HTW.out (by omega)).mono ?_
                  rintro e V3 ⟨rfl, hbV3⟩
                  have hbk := (Blk.alloc (heap_alloc_new W (.cells #[.slice (some ⟨bb, oo + k, none⟩) z (c1 - k)] 22)) (.cells #[.slice (some ⟨ob, ox + i, none⟩) z (c - i)] 22)).below hbV3 (Blk.alloc (heap_alloc_new W (.cells #[.slice (some ⟨bb, oo + k, none⟩) z (c1 - k)] 22)) (.cells #[.slice (some ⟨ob, ox + i, none⟩) z (c - i)] 22)).lt
                  have HBV3 := HB3.trans (hbV3.mono HB3.size)
                  clear hbV3
                  (try go_simp)
                  refine hK.out _ _ HBV3 ?_
                  clear hK K
                  refine CanT.imp rfl (fun K hK => ?_)
                  go_simp
                  refine (of_at (W := W) (V := V3) (HBV3) (hbk) Hr2.out HBd.out Hl2.out (by omega) (by omega) HTW.out (by omega)).mono ?_
                  rintro e V4 ⟨rfl, hbV4⟩
                  have HBV4 := HBV3.trans (hbV4.mono HBV3.size)
                  clear hbV4
                  (try go_simp)
                  refine hK.out _ _ HBV4 ?_
                  clear hK K
                  repeat (first | (refine CanT.skip rfl ?_ (fun K hK => ?_); (focus (go_simp; done)); go_simp; refine hK _ ?_; clear hK K) | (refine CanT.pur rfl ?_ ?_; (focus (go_simp; done)); refine ⟨?_, ?_, ?_⟩; rotate_left; (focus (intro w'; go_simp; rfl)); (focus (intro K hK; go_simp; refine hK _ ?_; clear hK K))))
                  refine CanT.done ?_
                  have HBz := Lib.hid (HBW.out.trans (HBV4.mono HBW.out.size))
                  clear hof1 hof2
                  cases q with
                  | true =>
                    go_wp2_with fail
                    refine (Dl.awake_calls _).mono ?_
                    rintro e9 w9 ⟨rfl, hb9⟩
                    have HB9 := Lib.hid (HB7.out.trans ((HBz.out.trans (hb9.mono HBz.out.size)).mono HB7.out.size))
                    clear hb9
                    go_wp2_with fail
                    (try rw [Exit.noGoto_ret])
                    go_ret
                    exact ⟨rfl, HB9.out⟩
                  | false =>
                    (try go_wp2_with fail)
                    go_roundg (n + 1 - (k + 1))
                    case rel => exact ⟨k + 1, rfl, by first | rfl | simp, by omega, fun k' h => by
                      rcases Nat.lt_or_ge k' k with h2 | h2
                      · exact Hfk.out k' h2
                      · have : k' = k := by omega
                        subst this
                        first | exact Hnf.out rfl | exact Hnf.out trivial, HBz.out⟩
                    case measure => have := Hq2.out; omega
          · have t2 : decide ((k : Int) + (z : Int) ≤ (n : Int)) = false := decide_eq_false (by omega)
            go_wp2_with fail
            go_roundg (no + 1 - (i + z))
            case rel => exact ⟨i + z, rfl, by first | rfl | simp, hi1, by rw [Nat.add_mod_right]; exact Hiz.out, fun i' h hm k' => by
              rcases Nat.lt_or_ge i' i with h2 | h2
              · exact Hfi.out i' h2 hm k'
              · have : i' = i := by
                  obtain ⟨x, hx⟩ := Nat.dvd_of_mod_eq_zero hm
                  obtain ⟨y, hy⟩ := Nat.dvd_of_mod_eq_zero Hiz.out
                  rw [hx, hy] at h2 h ⊢
                  have h3 : y ≤ x := Nat.le_of_mul_le_mul_left h2 (by omega)
                  have h4 : x < y + 1 := Nat.lt_of_mul_lt_mul_left (a := z) (by rw [Nat.mul_add, Nat.mul_one]; exact h)
                  have : x = y := by omega
                  rw [this]
                subst this
                rcases Nat.lt_or_ge k' k with h3 | h3
                · exact Hfk.out k' h3
                · exact fun _ h4 _ => absurd h4 (by rw [← Hn.out]; omega), HBk.out⟩
            case measure => have := Hq.out; omega
      · exfalso
        obtain ⟨i', k', hm, hnf⟩ := HF.out
        rcases Nat.lt_or_ge i' i with h2 | h2
        · exact hnf (Hfi.out i' h2 hm k')
        · exact hnf (fun h3 => absurd h3 (by rw [← Hno.out]; omega))
end Ms
end Go.Proofs.YtiofkhjpknfkgaaDoor
