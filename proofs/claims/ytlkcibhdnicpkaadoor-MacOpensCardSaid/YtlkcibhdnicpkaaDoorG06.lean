/- More of what the walks of the sums with a key use: rows that are owned, appends in drawn regions. -/
import Derived.Test.YtlkcibhdnicpkaaDoorG01
import Derived.Test.YtlkcibhdnicpkaaDoorG02
import Derived.Test.YtlkcibhdnicpkaaDoorG03
import Derived.Test.YtlkcibhdnicpkaaDoorG04
import Derived.Test.YtlkcibhdnicpkaaDoorG05
import Derived.Deep.QuietTactic
import Derived.BigQuiet
import Init
import Derived.Test.YtlkcibhdnicpkaaDoorProg
import Derived.WalkKit
import Derived.KernelRfl
import Derived.RowKit3
import Derived.Deep.LoopGhost
import Derived.Lib.Hide
import GoSem.Op.String
namespace Go.Proofs.YtlkcibhdnicpkaaDoor
namespace Mc
open Go.RowKit Ba Sm
set_option linter.unusedVariables false
theorem own_blk {w : World} {g n base : Nat} {E : TypeId} {l : List UInt8} (hb : Blk w g E (bvs l).toArray) (hbase : base ≤ g) (hn : n = l.length) (hm : l.length ≤ 9223372036854775807) : OwnB w base E (.slice (some ⟨g, 0, none⟩) n n) l := by
  subst hn
  refine ⟨by simp [bvs_length], .inr ⟨g, l.length, _, rfl, hbase, hb, Nat.le_refl _, by unfold maxLen; omega, by simp [bvs_length], ?_⟩⟩
  rw [Nat.mul_one, ← bvs_length l]
  exact List.take_length
theorem rpadN {k : List UInt8} {A : Option Addr} {n c : Nat} (x : UInt8) (xi : Int) (w : World) (hn : n = k.length) (hx : xi = (x.toNat : Int)) (hkc : k.length ≤ c) (hkm : k.length ≤ 140737488351232) (hr : ReadB w w.heap.size A k) :
    Calls Tryd.prog 51 #[.slice A n c, .int .u8 xi] w fun e w' => ∃ g, e = .returned (.slice (some ⟨g, 0, none⟩) 64 64) ∧ OwnB w' w.heap.size 5 (.slice (some ⟨g, 0, none⟩) 64 64) (mpad (mkey k) x) ∧ Below w.heap.size w w' := by
  subst hn hx
  refine (rpad_calls k A c hkc hkm x w hr).mono ?_
  rintro e w' ⟨g, rfl, h1, h2, h3⟩
  exact ⟨g, rfl, own_blk h2 h1 (by rw [mpad_len]) (by rw [mpad_len]; omega), h3⟩
theorem rof_own {w : World} {base : Nat} {v : Value} {l : List UInt8} (h : OwnB w base 5 v l) (hl : l.length ≤ 140737488351232) :
    Calls Tryd.prog 15 #[v] w fun e w' => e = .returned (.agg (bvs (sha l)).toArray) ∧ Below w.heap.size w w' := by
  obtain ⟨A, c, rfl, h1, h2, h3, h4⟩ := h.opens
  exact rof_calls l A c w h3 h1 hl
theorem cstep_appB {P : Program} (w : World) {ops : Array Oper} {o : Oper} {a : Act} {K : Act → World → Prop} {Q : Exit → Act → World → Prop} {R : Prop} (hgd : o.guard = none) (s x : Operand) (t : TypeId)
    (ho : o.op = .call { callee := .builtin .append, args := #[s, x], argTypes := #[t, t] })
    (base : Nat) (E : TypeId) (i : TypeInfo) (ht : P.underlying t = some (.slice E)) (hi : IsByte P E i)
    (v : Value) (l : List UInt8) (hs : a.eval s = v) (hown : OwnB w base E v l)
    (B : Nat) (A : Option Addr) (m c : Nat) (r : List UInt8) (hx : a.eval x = .slice A m c) (hm : m = r.length) (hr : ReadB w B A r)
    (hbytes : l.length + r.length ≤ 140737488355328) (hbase : base ≤ w.heap.size)
    (h : ∀ v' w', OwnB w' base E v' (l ++ r) → w.grownBy w' v.ownBlock → (v'.ownBlock = v.ownBlock ∨ v'.ownBlock = some w.heap.size) → Below base w w' → K (a.put o.dst v') w') :
    if Region.wanted o (yielded ops a.tmps) = true then Oper.wp P o a w K Q else R := by
  subst hm
  refine step_append_any w hgd s x t ho base E i (.int .u8 0) 1 1 ht hi.1 hi.2.1 hi.2.2.1 hi.2.2.2 rfl (by omega) v l.length (bvs l) hs hown B A r.length c (bvs r) hx hr.reads (bvs_one r) (by unfold maxLen; omega) (by omega) hbase ?_
  intro v' w' h1 h2 h3
  refine h v' w' ?_ h2 h3 ((Below.refl base w).grown h2 hbase (fun k hk => (World.ownsRow.lt hown k hk).1))
  unfold OwnB
  rw [List.length_append, bvs_append]
  exact h1
end Mc
end Go.Proofs.YtlkcibhdnicpkaaDoor
/- A sum with a key, by the document's answer: the walk of its Of. -/
namespace Go.Proofs.YtlkcibhdnicpkaaDoor
namespace Mc
open Go.RowKit Ba Sm
set_option linter.unusedVariables false
set_option maxRecDepth 100000 in
set_option maxHeartbeats 4000000 in
theorem rmof_calls (k b : List UInt8) (A Ab : Option Addr) (c cb : Nat) (w : World) (hr : ReadB w w.heap.size A k) (hrb : ReadB w w.heap.size Ab b) (hkc : k.length ≤ c) (hkm : k.length ≤ 140737488351232) (hbm : b.length ≤ 140737488351168) :
    Calls Tryd.prog 29 #[.slice A k.length c, .slice Ab b.length cb] w fun e w' => e = .returned (.agg (bvs (hmac k b)).toArray) ∧ Below w.heap.size w w' := by
  obtain ⟨i0, hi0⟩ := isByte_of info5
  have Hi := Lib.hid hi0
  unfold hmac
  have h54 := mpad_len (mkey k) 0x36
  have h92 := mpad_len (mkey k) 0x5c
  obtain ⟨P, hP⟩ : ∃ P, P = mpad (mkey k) 0x36 := ⟨_, rfl⟩
  obtain ⟨R, hR⟩ : ∃ R, R = mpad (mkey k) 0x5c := ⟨_, rfl⟩
  rw [← hP] at h54
  rw [← hR] at h92
  rw [← hP, ← hR]
  have Hr := Lib.hid hr
  have Hb := Lib.hid hrb
  have HP := Lib.hid hP
  have HR := Lib.hid hR
  have H54 := Lib.hid h54
  have H92 := Lib.hid h92
  have hs0 : ∀ o, (w.alloc o).heap.size = w.heap.size + 1 := fun o => by simp
  clear hr hrb hP hR h54 h92 hi0
  go_enter Tryd.func29, Tryd.ntmps29
  go_wp2_with fail
  refine (rpadN (k := k) 0x36 _ _ rfl (by rfl) hkc hkm ((Hr.out.alloc (Nat.le_refl _) _).more (by simp))).mono ?_
  rintro e w1 ⟨g1, rfl, ho1, hb1⟩
  rw [hs0] at hb1 ho1
  rw [← HP.out] at ho1
  have HZ1 : Hid (Blk w1 w.heap.size 26 (bvs (List.replicate 32 0)).toArray) := Lib.hid (Blk.below (by rw [bvs_rep32]; exact heap_alloc_new _ _) hb1 (by omega))
  have HB1 := Lib.hid (((Below.refl _ _).alloc (Nat.le_refl _) _).trans (hb1.mono (Nat.le_succ _)))
  have Hb1 := Lib.hid (Hb.out.below HB1.out)
  have HO1 := Lib.hid ho1
  clear ho1 hb1
  go_wp2_with (at_builtin; go_loud (refine wpList_appB _ rfl (.tmp 7) (.tmp 8) 22 rfl (w.heap.size + 1) 5 i0 Tryd.underlying22 Hi.out _ P rfl HO1.out w.heap.size Ab _ cb b rfl rfl Hb1.out (by rw [H54.out]; omega) (by have := HZ1.out.lt; omega) ?_); intro v2 w2 ho2 _ _ hb2; have HO2 := Lib.hid ho2; have HZ2 := Lib.hid (HZ1.out.below hb2 (Nat.lt_succ_self _)); have HB2 := Lib.hid (HB1.out.trans (hb2.mono (Nat.le_succ _))); clear ho2 hb2)
  have hle : (P ++ b).length ≤ 140737488351232 := by rw [List.length_append, H54.out]; omega
  refine (rof_own HO2.out hle).mono ?_
  rintro e w3 ⟨rfl, hb3⟩
  obtain ⟨D, hD⟩ : ∃ D, D = sha (P ++ b) := ⟨_, rfl⟩
  have hD32 : D.length = 32 := by rw [hD]; exact hash_len _
  rw [← hD]
  have HD := Lib.hid hD
  have HD32 := Lib.hid hD32
  have HZ3 := Lib.hid (HZ2.out.below hb3 HZ2.out.lt)
  have HB3 := Lib.hid (HB2.out.trans (hb3.mono HB2.out.size))
  clear hb3 HZ1 HB1 HZ2 HB2 HO1 HO2 hD hD32 hle Hb1
  go_wp2_with (refine wpList_store_blk rfl 26 (.tmp 5) (.tmp 10) rfl w3.heap.size 0 26 [] (bvs (List.replicate 32 0)) [] (bvs D) rfl rfl (by rw [bvs_rep32]; exact heap_alloc_new _ _) rfl (by rw [bvs_length, bvs_length, HD32.out]; rfl) (by rw [bvs_length, HD32.out]; kernel_rfl) (bvs_one _) ?_; intro w4 hX4 hg4)
  have hk4 := after_store HB3.out hg4 rfl
  have hz4 := grown_ne (HZ3.out.alloc _) hg4 (Nat.ne_of_lt HZ3.out.lt)
  have HZ4 : Hid (Blk w4.drew w.heap.size 26 (bvs (List.replicate 32 0)).toArray) := Lib.hid hz4
  have hd4 : ReadB w4 w4.heap.size (some ⟨w3.heap.size, 0, none⟩) D := readB_of (by simpa using hX4)
  have HD4 : Hid (ReadB w4.drew w4.drew.heap.size (some ⟨w3.heap.size, 0, none⟩) D) := Lib.hid hd4
  have HB4 := Lib.hid hk4.1.drew
  have HK4 := Lib.hid ((Hr.out.below HB4.out).more HB4.out.size)
  clear hX4 hg4 hk4 hz4 hd4 HZ3 HB3
  generalize w3.heap.size = gd at *
  refine CanT.region (fun _ => True) 5 (.op 0 2 (.op 2 2 (.op 1 0 (.op 3 0 (.op 4 0 (.op 5 0 (.nil))))))) (by kernel_rfl) (by kernel_rfl) trivial ?_
  generalize w4.drew = W4 at *
  repeat (first | (refine CanT.skip rfl ?_ (fun K hK => ?_); (focus (go_simp; done)); go_simp; refine hK _ ?_; clear hK K) | (refine CanT.pur rfl ?_ ?_; (focus (go_simp; done)); refine ⟨?_, ?_, ?_⟩; rotate_left; (focus (intro w'; go_simp; rfl)); (focus (intro K hK; go_simp; refine hK _ ?_; clear hK K))) | (refine CanT.held rfl ?_ ?_; (focus (go_simp; done)); refine ⟨?_, ?_, ?_⟩; rotate_left; (focus (intro w' hS'; (try dsimp only at hS'); go_simp; rfl)); (focus (intro K hK; go_simp; refine hK _ ?_; clear hK K))) | (refine CanT.last rfl (fun K hK => ?_); go_simp; refine hK.out _ _ ?_; clear hK K))
  refine CanT.imp rfl (fun J hJ => ?_)
  go_simp
  refine (rpadN (k := k) 0x5c _ W4 rfl (by rfl) hkc hkm HK4.out).mono ?_
  rintro e w5 ⟨g5, rfl, ho5, hb5⟩
  rw [← HR.out] at ho5
  have HO5 := Lib.hid ho5
  have HZ5 := Lib.hid (HZ4.out.below hb5 HZ4.out.lt)
  have HD5 := Lib.hid ((HD4.out.below hb5))
  have HB5 := Lib.hid (HB4.out.trans (hb5.mono HB4.out.size))
  have HL5 := Lib.hid hb5.size
  have HL4 := Lib.hid HZ4.out.lt
  clear ho5 hb5 HZ4 HD4 HB4 HK4
  go_simp
  refine hJ.out _ _ trivial ?_
  clear hJ J
  refine CanT.imp rfl (fun J hJ => ?_)
  refine cstep_appB _ rfl (.tmp 12) (.tmp 13) 22 rfl W4.heap.size 5 i0 Tryd.underlying22 Hi.out _ R rfl HO5.out W4.heap.size _ 32 32 D rfl (by rw [HD32.out]) HD5.out (by rw [H92.out, HD32.out]; omega) HL5.out ?_
  intro v6 w6 ho6 _ _ hb6
  have HO6 := Lib.hid ho6
  have HZ6 := Lib.hid (HZ5.out.below hb6 HL4.out)
  have HB6 := Lib.hid (HB5.out.trans (hb6.mono (Nat.le_of_lt HL4.out)))
  clear ho6 hb6 HO5 HZ5 HB5
  go_simp
  refine hJ.out _ _ trivial ?_
  clear hJ J
  have hle : (R ++ D).length ≤ 140737488351232 := by rw [List.length_append, H92.out, HD32.out]; omega
  refine CanT.imp rfl (fun J hJ => ?_)
  go_simp
  refine (rof_own HO6.out hle).mono ?_
  rw [HD.out]
  rintro e w9 ⟨rfl, hb9⟩
  obtain ⟨E, hE⟩ : ∃ E, E = sha (R ++ sha (P ++ b)) := ⟨_, rfl⟩
  have hE32 : E.length = 32 := by rw [hE]; exact hash_len _
  rw [← hE]
  have HE := Lib.hid hE
  have HE32 := Lib.hid hE32
  have HZ9 := Lib.hid (HZ6.out.below hb9 HZ6.out.lt)
  have HB9 := Lib.hid (HB6.out.trans (hb9.mono HB6.out.size))
  clear hb9 hE hE32 HZ6 HB6 HO6 hle
  go_simp
  refine hJ.out _ _ trivial ?_
  clear hJ J
  refine CanT.lastR rfl ?_ 26 (.tmp 4) (.tmp 15) rfl w.heap.size 0 26 [] (bvs (List.replicate 32 0)) [] (bvs E) rfl rfl (by simpa using HZ9.out) rfl (by rw [bvs_length, bvs_length, HE32.out]; rfl) (by rw [bvs_length, HE32.out]; kernel_rfl) (bvs_one _) ?_
  focus go_simp
  intro w10 hX10 hg10
  refine CanT.done ?_
  go_wp2
  refine bodyPost_ret (results_cell_row (p := 4) (ty := 26) (by kernel_rfl) _ w10 w.heap.size 26 (bvs E).toArray (0, 0) _ rfl (by simp only [List.nil_append, List.append_nil] at hX10; exact hX10) Tryd.underlying26 rfl (by rw [List.size_toArray, bvs_length, HE32.out]; kernel_rfl)) rfl ⟨by rw [HE.out], HB9.out.trans (below_of_only hg10 (Nat.le_refl _) HB9.out.size)⟩
end Mc
end Go.Proofs.YtlkcibhdnicpkaaDoor
/- A tag, by the program and by the document's answer. -/
namespace Go.Proofs.YtlkcibhdnicpkaaDoor
namespace Mc
open Go.RowKit Ba Sm
set_option linter.unusedVariables false
theorem hmac_len (k b : List UInt8) : (hmac k b).length = 32 := hash_len _
theorem mofN {k : List UInt8} {A : Option Addr} {n np c : Nat} {ps : List (List UInt8)} {Ap : Option Addr} {cp : Nat} {w : World} (hn : n = k.length) (hnp : np = ps.length) (hr : ReadB w w.heap.size A k) (h : ReadBB w w.heap.size Ap ps) (htab : Tab w) (hkc : k.length ≤ c) (hkc2 : c ≤ 9223372036854775807) (hkm : k.length ≤ 140737488351232)
    (hpc : ps.length ≤ cp) (hcm : cp ≤ 9223372036854775807) (hm : ∀ p ∈ ps, p.length ≤ 140737488351232) (hsum : ps.flatten.length ≤ 576460752303423487) :
    Calls Tryd.prog 28 #[.slice A n c, .slice Ap np cp] w fun e w' => e = .returned (.agg (bvs (hmac k ps.flatten)).toArray) ∧ Below w.heap.size w w' := by
  subst hn hnp
  exact mof_calls k A c ps Ap cp w hr h htab hkc hkc2 hkm hpc hcm hm hsum
theorem rmofV {k b : List UInt8} {A : Option Addr} {n c : Nat} {v : Value} {base : Nat} {w : World} (hn : n = k.length) (hr : ReadB w w.heap.size A k) (hkc : k.length ≤ c) (hkm : k.length ≤ 140737488351232) (hb : OwnB w base 5 v b) (hbm : b.length ≤ 140737488351168) :
    Calls Tryd.prog 29 #[.slice A n c, v] w fun e w' => e = .returned (.agg (bvs (hmac k b)).toArray) ∧ Below w.heap.size w w' := by
  subst hn
  obtain ⟨Ab, cb, rfl, h1, h2, h3, h4⟩ := hb.opens
  exact rmof_calls k b A Ab c cb w hr h3 hkc hkm hbm
theorem cloneN {l : List UInt8} {A : Option Addr} {n c : Nat} {w : World} (hn : n = l.length) (hc : l.length ≤ c) (hl : l.length ≤ 140737488355328) (hr : ReadB w w.heap.size A l) : Calls Tryd.prog 43 #[.slice A n c] w
    fun e w' => ∃ v, e = .returned v ∧ OwnB w' w.heap.size 5 v l ∧ Below w.heap.size w w' := by
  subst hn
  exact clone_calls l A c hc hl w hr
set_option maxRecDepth 100000 in
set_option maxHeartbeats 4000000 in
theorem tag_calls (k : List UInt8) (hk : k.length = 32) (ps : List (List UInt8)) (Ap : Option Addr) (np cp : Nat) (w : World) (hnp : np = ps.length) (h : ReadBB w w.heap.size Ap ps) (htab : Tab w)
    (hpc : ps.length ≤ cp) (hcm : cp ≤ 9223372036854775807) (hm : ∀ p ∈ ps, p.length ≤ 140737488351232) (hsum : ps.flatten.length ≤ 576460752303423487) :
    Calls Tryd.prog 34 #[.agg (bvs k).toArray, .slice Ap np cp] w fun e w' => ∃ v, e = .returned v ∧ OwnB w' w.heap.size 5 v ((hmac k ps.flatten).take 16) ∧ Below w.heap.size w w' := by
  subst hnp
  have H := Lib.hid h
  have Htab := Lib.hid htab
  have Hm := Lib.hid hm
  have Hk := Lib.hid hk
  have hs0 : ∀ o, (w.alloc o).heap.size = w.heap.size + 1 := fun o => by simp
  clear h htab hm hk
  go_enter Tryd.func34, Tryd.ntmps34
  go_wp2_with fail
  have HA := Lib.hid ((Below.refl w.heap.size w).alloc (Nat.le_refl _) (.cells (bvs k).toArray 26))
  refine (mofN (k := k) (ps := ps) (by rw [Hk.out]) rfl (readB_of (heap_alloc_new w (.cells (bvs k).toArray 26))) ((H.out.below HA.out).more (by simp)) (Htab.out.below HA.out) (by rw [Hk.out]; omega) (by omega) (by rw [Hk.out]; omega) hpc hcm Hm.out hsum).mono ?_
  rintro e w1 ⟨rfl, hb1⟩
  rw [hs0] at hb1
  have HB1 := Lib.hid (HA.out.trans (hb1.mono (Nat.le_succ _)))
  have hE32 := hmac_len k ps.flatten
  obtain ⟨E, hE⟩ : ∃ E, E = hmac k ps.flatten := ⟨_, rfl⟩
  rw [← hE] at hE32 ⊢
  have HE := Lib.hid hE
  have HE32 := Lib.hid hE32
  clear hE hE32 hb1 HA
  go_wp2_with (refine wpList_store_blk rfl 26 (.tmp 5) (.tmp 8) rfl w1.heap.size 0 26 [] (bvs (List.replicate 32 0)) [] (bvs E) rfl rfl (by rw [bvs_rep32]; exact heap_alloc_new _ _) rfl (by rw [bvs_length, bvs_length, HE32.out]; rfl) (by rw [bvs_length, HE32.out]; kernel_rfl) (bvs_one _) ?_; intro w2 hX2 hg2)
  have hk2 := after_store HB1.out hg2 rfl
  have hr2 : ReadB w2 w2.heap.size (some ⟨w1.heap.size, 0, none⟩) E := readB_of (by simpa using hX2)
  have HB2 := Lib.hid hk2.1
  have HR2 := Lib.hid (hr2.take 16)
  clear hX2 hg2 hk2 hr2 HB1
  generalize w1.heap.size = ge at *
  have hl16 : (E.take 16).length = 16 := by rw [List.length_take, HE32.out]; rfl
  refine (cloneN (l := E.take 16) hl16.symm (by omega) (by omega) HR2.out).mono ?_
  rintro e w3 ⟨v3, rfl, ho3, hb3⟩
  have Ho3 := Lib.hid ho3
  have HB3 := Lib.hid (HB2.out.trans (hb3.mono HB2.out.size))
  have HL2 := Lib.hid HB2.out.size
  clear ho3 hb3 HR2 HB2 hl16
  go_wp2_with fail
  go_ret
  exact ⟨v3, rfl, by rw [← HE.out]; exact OwnB.weak Ho3.out HL2.out, HB3.out⟩
set_option maxRecDepth 100000 in
set_option maxHeartbeats 4000000 in
theorem rtag_calls (k b : List UInt8) (hk : k.length = 32) (v : Value) (base : Nat) (w : World) (h : OwnB w base 5 v b) (hbase : base ≤ w.heap.size) (hbm : b.length ≤ 140737488351168) :
    Calls Tryd.prog 35 #[.agg (bvs k).toArray, v] w fun e w' => ∃ v, e = .returned v ∧ OwnB w' w.heap.size 5 v ((hmac k b).take 16) ∧ Below w.heap.size w w' := by
  obtain ⟨i0, hi0⟩ := isByte_of info5
  have Hi := Lib.hid hi0
  have H := Lib.hid h
  have Hk := Lib.hid hk
  have hs0 : ∀ o, (w.alloc o).heap.size = w.heap.size + 1 := fun o => by simp
  clear h hk hi0
  go_enter Tryd.func35, Tryd.ntmps35
  go_wp2_with fail
  have HA := Lib.hid ((Below.refl w.heap.size w).alloc (Nat.le_refl _) (.cells (bvs k).toArray 26))
  refine (rmofV (k := k) (b := b) (by rw [Hk.out]) (readB_of (heap_alloc_new w (.cells (bvs k).toArray 26))) (by rw [Hk.out]; omega) (by rw [Hk.out]; omega) (H.out.alloc _) hbm).mono ?_
  rintro e w1 ⟨rfl, hb1⟩
  rw [hs0] at hb1
  have HB1 := Lib.hid (HA.out.trans (hb1.mono (Nat.le_succ _)))
  have hE32 := hmac_len k b
  obtain ⟨E, hE⟩ : ∃ E, E = hmac k b := ⟨_, rfl⟩
  rw [← hE] at hE32 ⊢
  have HE := Lib.hid hE
  have HE32 := Lib.hid hE32
  clear hE hE32 hb1 HA
  go_wp2_with (first | (refine wpList_store_blk rfl 26 (.tmp 5) (.tmp 8) rfl w1.heap.size 0 26 [] (bvs (List.replicate 32 0)) [] (bvs E) rfl rfl (by rw [bvs_rep32]; exact heap_alloc_new _ _) rfl (by rw [bvs_length, bvs_length, HE32.out]; rfl) (by rw [bvs_length, HE32.out]; kernel_rfl) (bvs_one _) ?_; intro w2 hX2 hg2; have hk2 := after_store HB1.out hg2 rfl; have hr2 : ReadB w2 w2.heap.size (some ⟨w1.heap.size, 0, none⟩) E := readB_of (by simpa using hX2); have HB2 := Lib.hid hk2.1; have HR2 := Lib.hid (hr2.take 16); clear hX2 hg2 hk2 hr2 HB1) | (at_builtin; go_loud (refine wpList_appB _ rfl (.tmp 9) (.tmp 10) 22 rfl w2.heap.size 5 i0 Tryd.underlying22 Hi.out _ [] rfl (OwnB.lit0 w2 5 w2.heap.size w2.heap.size rfl (Nat.le_refl _)) w2.heap.size _ 16 32 (E.take 16) rfl (by rw [List.length_take, HE32.out]; rfl) (HR2.out.alloc (Nat.le_refl _) _) (by rw [List.length_take, HE32.out]; simp) (by simp) ?_); intro v3 w3 ho3 _ _ hb3; rw [List.nil_append] at ho3))
  go_ret
  exact ⟨v3, rfl, by rw [← HE.out]; exact OwnB.weak ho3 HB2.out.size, HB2.out.trans ((((Below.refl _ _).alloc (Nat.le_refl _) _).trans hb3).mono HB2.out.size)⟩
end Mc
end Go.Proofs.YtlkcibhdnicpkaaDoor
/- Whether bytes are the same, by the program: the walk of mac.Equal. -/
namespace Go.Proofs.YtlkcibhdnicpkaaDoor
namespace Mc
open Go.RowKit Ba Sm
set_option linter.unusedVariables false
theorem o8 (a b : UInt8) : bits .or .u8 (a.toNat : Int) (b.toNat : Int) = ((a ||| b : UInt8).toNat : Int) := by
  have h := (a ||| b).toNat_lt
  show IntKind.u8.wrap ((BitVec.ofInt 8 (a.toNat : Int) ||| BitVec.ofInt 8 (b.toNat : Int)).toNat : Int) = _
  rw [BitVec.toNat_or, ofInt_u8, ofInt_u8, IntKind.wrap_u8, ← UInt8.toNat_or]
  omega
def oth (a b : List UInt8) : Nat → UInt8
  | 0 => 0
  | i + 1 => oth a b i ||| (a.getD i 0 ^^^ b.getD i 0)
theorem oth_zero (a b : List UInt8) : ∀ n, oth a b n = 0 ↔ ∀ i, i < n → a.getD i 0 = b.getD i 0
  | 0 => by simp [oth]
  | n + 1 => by
    rw [oth, UInt8.or_eq_zero_iff, oth_zero a b n, UInt8.xor_eq_zero_iff]
    constructor
    · rintro ⟨h1, h2⟩ i hi
      rcases Nat.lt_or_ge i n with h | h
      · exact h1 i h
      · rw [show i = n by omega]; exact h2
    · intro h
      exact ⟨fun i hi => h i (by omega), h n (by omega)⟩
theorem oth_eq (a b : List UInt8) (h : a.length = b.length) : (oth a b a.length == 0) = (a == b) := by
  rw [Bool.eq_iff_iff, beq_iff_eq, beq_iff_eq, oth_zero]
  constructor
  · intro hh
    apply List.ext_getElem h
    intro i h1 h2
    have := hh i h1
    simpa [List.getD, h1, h2] using this
  · rintro rfl i _
    rfl
set_option maxRecDepth 100000 in
set_option maxHeartbeats 4000000 in
theorem equal_calls {a b : List UInt8} {A B : Option Addr} {n m c d : Nat} {w : World} (hn : n = a.length) (hm : m = b.length) (ha : ReadB w w.heap.size A a) (hb : ReadB w w.heap.size B b) (hm1 : a.length ≤ 9223372036854775807) (hm2 : b.length ≤ 9223372036854775807) :
    Calls Tryd.prog 36 #[.slice A n c, .slice B m d] w fun e w' => e = .returned (.bool (a == b)) ∧ Below w.heap.size w w' := by
  subst hn hm
  by_cases hl : a.length = b.length
  · have Hl := Lib.hid hl
    have hl2 : ((a.length : Int) != (b.length : Int)) = false := by rw [hl]; simp
    have Ha := Lib.hid ha
    have Hb := Lib.hid hb
    clear ha hb hl
    go_enter Tryd.func36, Tryd.ntmps36
    go_wp2_with fail
    go_loopw [5, 6, 14] (fun o _ i wr => ∃ k : Nat, k ≤ a.length ∧ i = .int .i64 k ∧ o = .int .u8 ((oth a b k).toNat : Int) ∧ Below w.heap.size w wr) (fun _ _ i _ => a.length - (intOf i).toNat)
    case atStart => exact ⟨0, Nat.zero_le _, rfl, rfl, Below.refl _ _⟩
    case round =>
      obtain ⟨k, hk, rfl, rfl, hbw⟩ := hrel
      by_cases hlt : k < a.length
      · obtain ⟨b1, o1, rfl, _, hc1⟩ := (Ha.out.below hbw) (by omega)
        obtain ⟨b2, o2, rfl, _, hc2⟩ := (Hb.out.below hbw) (by have := Hl.out; omega)
        have h1 := hc1 k hlt
        have h2 := hc2 k (by have := Hl.out; omega)
        have hx := x8 (a.getD k 0) (b.getD k 0)
        have ho := o8 (oth a b k) (a.getD k 0 ^^^ b.getD k 0)
        have hoo : oth a b k ||| (a.getD k 0 ^^^ b.getD k 0) = oth a b (k + 1) := rfl
        rw [hoo] at ho
        have hlt2 : k < b.length := by have := Hl.out; omega
        have Hbw := Lib.hid hbw
        clear hoo hc1 hc2 hbw
        obtain ⟨o', ho'⟩ : ∃ o', o' = oth a b (k + 1) := ⟨_, rfl⟩
        rw [← ho'] at ho
        have Ho' := Lib.hid ho'
        clear ho'
        generalize (a.getD k 0 ^^^ b.getD k 0).toNat = z at *
        generalize (a.getD k 0).toNat = x at *
        generalize (b.getD k 0).toNat = y at *
        generalize (oth a b k).toNat = o at *
        go_wp2_with fail
        go_quiet (fail)
        go_wp2_with fail
        go_roundw
        case rel => exact ⟨k + 1, by omega, by go_num, by rw [← Ho'.out], below_drewN Hbw.out _⟩
        case measure => simp [intOf]; omega
      · have hkk : k = a.length := by omega
        have he := oth_eq a b Hl.out
        rw [← hkk] at he
        have He := Lib.hid he
        have hz : ∀ o : UInt8, ((o.toNat : Int) == 0) = (o == 0) := fun o => by
          rw [Bool.eq_iff_iff, beq_iff_eq, beq_iff_eq, ← UInt8.toNat_inj]
          simp
        have Hz := Lib.hid (hz (oth a b k))
        have Hbw := Lib.hid hbw
        clear he hkk hz hbw
        generalize oth a b k = o at *
        go_wp2_with fail
        go_ret
        exact ⟨by rw [← He.out, ← Hz.out]; rfl, Hbw.out⟩
  · have hab : (a == b) = false := by rw [beq_eq_false_iff_ne]; rintro rfl; exact hl rfl
    have hl2 : ((a.length : Int) != (b.length : Int)) = true := by simp; omega
    have Hab := Lib.hid hab
    clear hl hab ha hb
    go_enter Tryd.func36, Tryd.ntmps36
    go_wp2_with fail
    go_ret
    exact ⟨by rw [Hab.out]; rfl, Below.refl _ _⟩
end Mc
end Go.Proofs.YtlkcibhdnicpkaaDoor
/- A region that draws its order, where all that it reads lies in blocks that were there at its start: F is 'Below' of the world at its start. -/
namespace Go.Proofs.YtlkcibhdnicpkaaDoor
namespace CanB
open CanT Go.RowKit Ba Sm
set_option linter.unusedVariables false
section
variable {P : Program} {ops : Array Oper} {Q : Exit → Act → World → Prop} {k : Nat}
theorem region {id : Nat} {l : List Oper} {a : Act} {w : World} (k : Nat) (ord : Ord) (hm : P.follows .mixedOrders = true)
    (hB : (Region.noSelect l.toArray && okLen ord l.length && canB l.toArray k ord false (Array.replicate l.length false)) = true)
    (h : wpCan P l.toArray (NoPanic Q) k ord (Below w.drew.heap.size w.drew) a w.drew) : (Code.region id l.toArray true).wp P Q a w :=
  CanT.region (Below w.drew.heap.size w.drew) k ord hm hB (Below.refl _ _) h
variable {i : Nat} {o : Oper} {a : Act} {w W : World} {b : Nat} {rest : Ord} {B : Nat}
/-- a row of values is read -/
theorem row (hi : ops[i]? = some o) (hg : Region.wanted o (yielded ops a.tmps) = true)
    (ty : TypeId) (x : Operand) (ho : o.op = .load ty x) (g p : Nat) (cs : List Value) (hx : a.eval x = .pointer (some ⟨g, p, none⟩)) (hR : W.rangeAt g p cs) (hgB : g < B) (d : TypeDesc) (hu : P.underlying ty = some d) (hd : d.isRow = true)
    (hs : (P.info? ty).map (·.size) = some cs.length) (h : ∀ K : Act → Prop, (∀ a, wpCan P ops Q k rest (Below B W) a w → K a) → K (a.put o.dst (.agg cs.toArray))) : wpCan P ops Q k (.op i 1 rest) (Below B W) a w :=
  CanT.heldR hi hg ty x ho g p cs hx (fun w' hF j v hv => (Below.cell (p := ⟨g, p + j, none⟩) hF hgB).trans (hR j v hv)) d hu hd hs h
/-- bytes are read as a text -/
theorem str (hi : ops[i]? = some o) (hg : Region.wanted o (yielded ops a.tmps) = true)
    (src dst e : TypeId) (x : Operand) (ho : o.op = .convert src dst x) (hs : P.underlying src = some (.slice e)) (he : P.underlying e = some (.int .u8)) (hd : P.underlying dst = some .string) (A : Option Addr) (n c : Nat) (l : List UInt8)
    (hx : a.eval x = .slice A n c) (hn : n = l.length) (hR : ReadB W B A l) (h : ∀ K : Act → Prop, (∀ a, wpCan P ops Q k rest (Below B W) a w → K a) → K (a.put o.dst (.string (S l)))) : wpCan P ops Q k (.op i 1 rest) (Below B W) a w := by
  subst hn
  refine CanT.held hi hg ⟨.string (S l), fun w' hF' => ?_, h⟩
  unfold execOp
  simp only [ho, hx, Sem.run_bind, run_strof w' src e hs he A c B l (hR.below hF') dst hd]
  rfl
/-- one cell is read -/
theorem cell (hi : ops[i]? = some o) (hg : Region.wanted o (yielded ops a.tmps) = true) (u v : Value) (p : Addr) (hc : W.cell? p = some u) (hp : p.block < B)
    (hl : ∀ w', w'.cell? p = some u → (execOp a.eval o).run P w' = .ok (.value v) w')
    (h : ∀ K : Act → Prop, (∀ a, wpCan P ops Q k rest (Below B W) a w → K a) → K (a.put o.dst v)) : wpCan P ops Q k (.op i 1 rest) (Below B W) a w :=
  CanT.held hi hg ⟨v, fun w' hF => hl w' ((Below.cell hF hp).trans hc), h⟩
end
end CanB
end Go.Proofs.YtlkcibhdnicpkaaDoor
/- The numbers of the wire, in plain lists: their least width, their bytes, and how they are read. -/
namespace Go.Proofs.YtlkcibhdnicpkaaDoor
namespace Vm
/-- a width -/
def W4 (w : Nat) : Prop := w = 1 ∨ w = 2 ∨ w = 4 ∨ w = 8
def lim : Nat → Int | 1 => 64 | 2 => 16384 | 4 => 1073741824 | _ => 4611686018427387904
def tag : Nat → Nat | 1 => 0 | 2 => 1 | 4 => 2 | _ => 3
def len (n : Int) : Nat := if n < 0 then 0 else if n < 64 then 1 else if n < 16384 then 2 else if n < 1073741824 then 4 else if n < 4611686018427387904 then 8 else 0
def be : Nat → Nat → List UInt8
  | 0, _ => []
  | w + 1, m => UInt8.ofNat (m / 256 ^ w) :: be w m
theorem be_length (w m : Nat) : (be w m).length = w := by induction w with | zero => rfl | succ w ih => simp [be, ih]
def top (w : Nat) : Nat := tag w * 64 * 256 ^ (w - 1)
def enc (n w : Nat) : List UInt8 := be w (n + top w)
def putIn (n w : Int) : List UInt8 × Int :=
  if ¬ (w = 1 ∨ w = 2 ∨ w = 4 ∨ w = 8) then ([], 2) else if n < 0 ∨ lim w.toNat ≤ n then ([], 13) else (enc n.toNat w.toNat, 0)
def put (n : Int) : List UInt8 × Int := if len n = 0 then ([], 13) else (enc n.toNat (len n), 0)
def w8 (b : UInt8) : Nat := 2 ^ (b.toNat / 64)
def val (acc : Nat) (l : List UInt8) : Nat := l.foldl (fun a c => a * 256 + c.toNat) acc
def get : List UInt8 → Nat × Nat × Int
  | [] => (0, 0, 3)
  | b :: r => if (b :: r).length < w8 b then (0, 0, 3) else (val (b.toNat % 64) (r.take (w8 b - 1)), w8 b, 0)
def shortest (l : List UInt8) : Nat × Nat × Int := if (get l).2.2 ≠ 0 then (0, 0, (get l).2.2) else if len (get l).1 < (get l).2.1 then (0, 0, 4) else get l

theorem w8_cases (b : UInt8) : w8 b = 1 ∨ w8 b = 2 ∨ w8 b = 4 ∨ w8 b = 8 := by
  unfold w8
  have := b.toNat_lt
  have h : b.toNat / 64 = 0 ∨ b.toNat / 64 = 1 ∨ b.toNat / 64 = 2 ∨ b.toNat / 64 = 3 := by omega
  rcases h with h | h | h | h <;> simp [h]
theorem val_lt (acc : Nat) (l : List UInt8) : val acc l < (acc + 1) * 256 ^ l.length := by
  induction l generalizing acc with
  | nil => simp [val]
  | cons c l ih =>
    have h := ih (acc * 256 + c.toNat)
    have hc := c.toNat_lt
    have e : val acc (c :: l) = val (acc * 256 + c.toNat) l := rfl
    rw [e]
    refine Nat.lt_of_lt_of_le h ?_
    rw [List.length_cons, Nat.pow_succ, Nat.mul_comm (256 ^ l.length) 256, ← Nat.mul_assoc]
    exact Nat.mul_le_mul_right _ (by omega)
theorem get_lt (b : UInt8) (r : List UInt8) (h : (b :: r).length < w8 b) : get (b :: r) = (0, 0, 3) := if_pos h
theorem get_ge (b : UInt8) (r : List UInt8) (h : ¬ (b :: r).length < w8 b) : get (b :: r) = (val (b.toNat % 64) (r.take (w8 b - 1)), w8 b, 0) := if_neg h
theorem get_bound (l : List UInt8) : (get l).1 < 4611686018427387904 ∧ ((get l).2.2 = 0 → ((get l).2.1 = 1 ∨ (get l).2.1 = 2 ∨ (get l).2.1 = 4 ∨ (get l).2.1 = 8) ∧ (get l).2.1 ≤ l.length) ∧ ((get l).2.2 = 0 ∨ (get l).2.2 = 3) := by
  cases l with
  | nil => simp [get]
  | cons b r =>
    by_cases h : (b :: r).length < w8 b
    · rw [get_lt b r h]; simp
    · rw [get_ge b r h]
      have hl : (r.take (w8 b - 1)).length ≤ 7 := by have := w8_cases b; simp; omega
      have hv := val_lt (b.toNat % 64) (r.take (w8 b - 1))
      have hp : 256 ^ (r.take (w8 b - 1)).length ≤ 256 ^ 7 := Nat.pow_le_pow_right (by omega) hl
      have hm : (b.toNat % 64 + 1) * 256 ^ (r.take (w8 b - 1)).length ≤ 64 * 256 ^ 7 := Nat.mul_le_mul (by omega) hp
      have := w8_cases b
      refine ⟨?_, fun _ => ⟨this, ?_⟩, .inl rfl⟩
      · show val (b.toNat % 64) (r.take (w8 b - 1)) < _
        omega
      · show w8 b ≤ _
        omega
theorem get_err (l : List UInt8) (h : (get l).2.2 ≠ 0) : get l = (0, 0, 3) := by
  cases l with
  | nil => rfl
  | cons b r =>
    by_cases hl : (b :: r).length < w8 b
    · exact get_lt b r hl
    · rw [get_ge b r hl] at h; simp at h
theorem be_mod (w m k : Nat) : be w (m + k * 256 ^ w) = be w m := by
  induction w generalizing k with
  | zero => rfl
  | succ w ih =>
    simp only [be]
    have e : m + k * 256 ^ (w + 1) = m + (k * 256) * 256 ^ w := by rw [Nat.pow_succ, Nat.mul_comm (256 ^ w), Nat.mul_assoc]
    rw [e, ih, Nat.add_mul_div_right _ _ (Nat.pow_pos (by omega))]
    congr 1
    apply UInt8.toNat_inj.1
    simp
theorem val_be (w m acc : Nat) : val acc (be w m) = acc * 256 ^ w + m % 256 ^ w := by
  induction w generalizing acc with
  | zero => simp [be, val]; omega
  | succ w ih =>
    have e : val acc (be (w + 1) m) = val (acc * 256 + (UInt8.ofNat (m / 256 ^ w)).toNat) (be w m) := rfl
    rw [e, ih]
    have h1 : (UInt8.ofNat (m / 256 ^ w)).toNat = m / 256 ^ w % 256 := by simp
    rw [h1, Nat.pow_succ, Nat.mod_mul, Nat.add_mul, Nat.mul_assoc, Nat.mul_comm (256 ^ w) 256]
    rw [Nat.mul_comm (m / 256 ^ w % 256)]
    omega
theorem enc_length (n w : Nat) : (enc n w).length = w := be_length ..
theorem enc_cons (n w : Nat) (hw : W4 w) (hn : (n : Int) < lim w) : enc n w = UInt8.ofNat (n / 256 ^ (w - 1) + tag w * 64) :: be (w - 1) n := by
  have key : ∀ k t, be (k + 1) (n + t * 64 * 256 ^ k) = UInt8.ofNat (n / 256 ^ k + t * 64) :: be k n := fun k t => by
    rw [be, Nat.add_mul_div_right _ _ (Nat.pow_pos (by omega)), be_mod]
  rcases hw with rfl | rfl | rfl | rfl
  · exact key 0 0
  · exact key 1 1
  · exact key 3 2
  · exact key 7 3
theorem get_enc (n w : Nat) (hw : W4 w) (hn : (n : Int) < lim w) (r : List UInt8) : get (enc n w ++ r) = (n, w, 0) := by
  rw [enc_cons n w hw hn, List.cons_append, get]
  have hlt : n / 256 ^ (w - 1) < 64 := by rcases hw with rfl | rfl | rfl | rfl <;> simp only [lim] at hn <;> simp only [Nat.reduceSub, Nat.reducePow] <;> omega
  have ht : tag w < 4 := by rcases hw with rfl | rfl | rfl | rfl <;> simp [tag]
  have hb : (UInt8.ofNat (n / 256 ^ (w - 1) + tag w * 64)).toNat = n / 256 ^ (w - 1) + tag w * 64 := by
    rw [UInt8.toNat_ofNat']; exact Nat.mod_eq_of_lt (by omega)
  have h8 : w8 (UInt8.ofNat (n / 256 ^ (w - 1) + tag w * 64)) = w := by
    unfold w8
    rw [hb, show ∀ x t : Nat, x < 64 → (x + t * 64) / 64 = t from fun x t h => by omega] <;> first | exact hlt | skip
    rcases hw with rfl | rfl | rfl | rfl <;> rfl
  have hm : (n / 256 ^ (w - 1) + tag w * 64) % 64 = n / 256 ^ (w - 1) := (show ∀ x t : Nat, x < 64 → (x + t * 64) % 64 = x from fun x t h => by omega) _ _ hlt
  have hpos : 0 < w := by rcases hw with rfl | rfl | rfl | rfl <;> omega
  rw [h8, hb, hm, if_neg (by simp [be_length]; omega)]
  rw [List.take_append_of_le_length (by rw [be_length]; exact Nat.le_refl _), List.take_of_length_le (by rw [be_length]; exact Nat.le_refl _), val_be]
  rw [Nat.mul_comm, Nat.div_add_mod]
theorem len_w4 (n : Int) : len n = 0 ∨ (W4 (len n) ∧ 0 ≤ n ∧ n < lim (len n)) := by
  unfold len
  repeat' split
  all_goals (first | (left; rfl) | (right; refine ⟨by simp [W4], by omega, by simp [lim]; omega⟩))
theorem len_min (n : Int) (w : Nat) (hw : W4 w) (h0 : 0 ≤ n) (h : n < lim w) : len n ≤ w ∧ len n ≠ 0 := by
  rcases hw with rfl | rfl | rfl | rfl <;> simp only [lim] at h <;> unfold len <;> (repeat' split) <;> omega
theorem len_zero (n : Int) : len n = 0 ↔ n < 0 ∨ 4611686018427387904 ≤ n := by
  unfold len
  repeat' split
  all_goals simp
  all_goals omega
theorem putIn_ok (n : Int) (w : Nat) (hw : W4 w) (h0 : 0 ≤ n) (h : n < lim w) : putIn n w = (enc n.toNat w, 0) := by
  have h1 : ((w : Int) = 1 ∨ (w : Int) = 2 ∨ (w : Int) = 4 ∨ (w : Int) = 8) := by unfold W4 at hw; omega
  unfold putIn
  rw [if_neg (by rw [Classical.not_not]; exact h1), if_neg (by simp; omega)]
  simp
theorem put_eq (n : Int) : put n = if len n = 0 then ([], 13) else putIn n (len n) := by
  unfold put
  split
  · rfl
  · rename_i h
    rcases len_w4 n with h' | ⟨hw, h0, hl⟩
    · exact absurd h' h
    · rw [putIn_ok n _ hw h0 hl]
def tell (d : Int) : Int := if d = 1 then 0 else if d = 2 then 1 else if d = 4 then 2 else if d = 8 then 3 else -1
theorem tell_pow (k : Nat) (h : k < 4) : tell ((2 ^ k : Nat) : Int) = k := by
  have : k = 0 ∨ k = 1 ∨ k = 2 ∨ k = 3 := by omega
  rcases this with rfl | rfl | rfl | rfl <;> rfl
theorem tell_none (d : Int) (h : ∀ j : Nat, j < 4 → d ≠ ((2 ^ j : Nat) : Int)) : tell d = -1 := by
  have h0 := h 0 (by omega); have h1 := h 1 (by omega); have h2 := h 2 (by omega); have h3 := h 3 (by omega)
  simp at h0 h1 h2 h3
  simp [tell, h0, h1, h2, h3]
theorem tell_tag (w : Nat) (h : W4 w) : tell w = tag w := by rcases h with rfl | rfl | rfl | rfl <;> rfl
theorem len_pow (n : Int) (k : Nat) (h : k < 4) (h0 : 0 ≤ n) (h1 : n < lim (2 ^ k)) (hp : 0 < k → n < 0 ∨ lim (2 ^ (k - 1)) ≤ n) : len n = 2 ^ k := by
  have : k = 0 ∨ k = 1 ∨ k = 2 ∨ k = 3 := by omega
  rcases this with rfl | rfl | rfl | rfl <;> simp [lim] at h1 hp <;> unfold len <;> (repeat' split) <;> (first | rfl | omega)
theorem len_none (n : Int) (h : n < 0 ∨ 4611686018427387904 ≤ n) : len n = 0 := (len_zero n).2 h
theorem val_snoc (acc : Nat) (l : List UInt8) (k : Nat) (h : k < l.length) : val acc (l.take (k + 1)) = val acc (l.take k) * 256 + (l.getD k 0).toNat := by
  rw [List.take_succ_eq_append_getElem h, val, List.foldl_append]
  simp [val, List.getD, h]
theorem val_small (b : UInt8) (l : List UInt8) (k : Nat) (h : k ≤ 6) : val (b.toNat % 64) (l.take k) < 18014398509481984 := by
  have hv := val_lt (b.toNat % 64) (l.take k)
  have hp : 256 ^ (l.take k).length ≤ 256 ^ 6 := Nat.pow_le_pow_right (by omega) (by simp; omega)
  have hm : (b.toNat % 64 + 1) * 256 ^ (l.take k).length ≤ 64 * 256 ^ 6 := Nat.mul_le_mul (by omega) hp
  omega
theorem be_set (N k m : Nat) (h : m + 1 ≤ k) : (List.replicate (m + 1) (0 : UInt8) ++ be (k - (m + 1)) N).set m (UInt8.ofNat (N / 256 ^ (k - (m + 1)) % 256)) = List.replicate m 0 ++ be (k - m) N := by
  have e : k - m = (k - (m + 1)) + 1 := by omega
  have e2 : UInt8.ofNat (N / 256 ^ (k - (m + 1)) % 256) = UInt8.ofNat (N / 256 ^ (k - (m + 1))) := UInt8.toNat_inj.1 (by simp)
  rw [e, be, List.replicate_succ', List.append_assoc, List.set_append_right _ _ (by simp), e2]
  simp
theorem enc_of_be (N k : Nat) (hk : W4 k) (hN : (N : Int) < lim k) : (be k N).set 0 (UInt8.ofNat ((N / 256 ^ (k - 1)) % 256 ||| tag k * 64)) = enc N k := by
  rw [enc_cons N k hk hN]
  have hlt : N / 256 ^ (k - 1) < 64 := by rcases hk with rfl | rfl | rfl | rfl <;> simp only [lim] at hN <;> simp only [Nat.reduceSub, Nat.reducePow] <;> omega
  have e : N / 256 ^ (k - 1) % 256 ||| tag k * 64 = N / 256 ^ (k - 1) + tag k * 64 := by
    rw [Nat.mod_eq_of_lt (by omega)]
    have := Nat.two_pow_add_eq_or_of_lt (i := 6) (b := N / 256 ^ (k - 1)) (by omega) (tag k)
    rw [Nat.or_comm, Nat.mul_comm (tag k) 64, show (64 : Nat) = 2 ^ 6 from rfl, ← this]
    omega
  rw [e]
  have hpos : ∃ j, k = j + 1 := ⟨k - 1, by rcases hk with rfl | rfl | rfl | rfl <;> rfl⟩
  obtain ⟨j, rfl⟩ := hpos
  simp [be]
theorem be_head (N k : Nat) (hk : 1 ≤ k) : (be k N).getD 0 0 = UInt8.ofNat (N / 256 ^ (k - 1)) := by
  obtain ⟨j, rfl⟩ : ∃ j, k = j + 1 := ⟨k - 1, by omega⟩
  simp [be]
theorem be_take_succ (N k j : Nat) (h : j < k) : (be k N).take (j + 1) = (be k N).take j ++ [UInt8.ofNat (N / 256 ^ (k - 1 - j))] := by
  induction k generalizing j with
  | zero => omega
  | succ k ih =>
    cases j with
    | zero => simp [be]
    | succ j => simp only [be, List.take_succ_cons, List.cons_append]; rw [ih j (by omega), show k + 1 - 1 - (j + 1) = k - 1 - j by omega]
theorem be_add_enc (N k : Nat) (hk : W4 k) (hN : (N : Int) < lim k) : (be k N).set 0 (UInt8.ofNat ((N / 256 ^ (k - 1)) % 256 + tag k * 64)) = enc N k := by
  rw [enc_cons N k hk hN]
  have hlt : N / 256 ^ (k - 1) < 64 := by rcases hk with rfl | rfl | rfl | rfl <;> simp only [lim] at hN <;> simp only [Nat.reduceSub, Nat.reducePow] <;> omega
  rw [Nat.mod_eq_of_lt (by omega)]
  obtain ⟨j, rfl⟩ : ∃ j, k = j + 1 := ⟨k - 1, by rcases hk with rfl | rfl | rfl | rfl <;> rfl⟩
  simp [be]
end Vm
end Go.Proofs.YtlkcibhdnicpkaaDoor
/- What the program tells of a number of the wire: its width, and what bytes begin with. -/
namespace Go.Proofs.YtlkcibhdnicpkaaDoor
namespace Vi
open Go.RowKit Ba Vm
set_option linter.unusedVariables false

theorem widths_calls (w : World) : Calls Tryd.prog 70 #[] w fun e w' => e = .returned (.agg #[.int .i64 1, .int .i64 2, .int .i64 4, .int .i64 8]) ∧ Below w.heap.size w w' := by
  go_enter Tryd.func70, Tryd.ntmps70
  go_wp2
  exact bodyPost_ret (v := .agg #[.int .i64 1, .int .i64 2, .int .i64 4, .int .i64 8]) (by simp [results, Tryd.results70, go_sem]) rfl ⟨rfl, (Below.refl _ _).alloc (Nat.le_refl _) _⟩

theorem ret_bool {a b : Bool} (h : a = b) : Ending.returned (.bool a) = .returned (.bool b) := by rw [h]
theorem ret_int {k : IntKind} {a b : Int} (h : a = b) : Ending.returned (.int k a) = .returned (.int k b) := by rw [h]

theorem fits_yes (n : Int) (k : Nat) (hn : 0 ≤ n) (hk : W4 k) (h : n < lim k) (w : World) : Calls Tryd.prog 71 #[.int .i64 n, .int .i64 k] w fun e w' => e = .returned (.bool true) ∧ w = w' := by
  rcases hk with rfl | rfl | rfl | rfl
  all_goals
    simp only [lim] at h
    have hn2 : n ≤ 9223372036854775807 := by omega
    go_enter Tryd.func71, Tryd.ntmps71
    go_wp2
    go_ret
    exact ⟨ret_bool (by first | (simp; done) | (simp; omega)), rfl⟩
theorem fits_no (n : Int) (k : Nat) (hn2 : n ≤ 9223372036854775807) (hk : W4 k) (h : n < 0 ∨ lim k ≤ n) (w : World) : Calls Tryd.prog 71 #[.int .i64 n, .int .i64 k] w fun e w' => e = .returned (.bool false) ∧ w = w' := by
  rcases hk with rfl | rfl | rfl | rfl
  all_goals
    simp only [lim] at h
    rcases h with h | h
    · go_enter Tryd.func71, Tryd.ntmps71
      go_wp2
      go_ret
      exact ⟨rfl, rfl⟩
    · go_enter Tryd.func71, Tryd.ntmps71
      go_wp2
      go_ret
      exact ⟨ret_bool (by simp; omega), rfl⟩

set_option maxRecDepth 100000 in
set_option maxHeartbeats 400000 in
theorem len_calls (n : Int) (hn : n ≤ 9223372036854775807) (w : World) : Calls Tryd.prog 66 #[.int .i64 n] w fun e w' => e = .returned (.int .i64 (len n : Int)) ∧ Below w.heap.size w w' := by
  go_enter Tryd.func66, Tryd.ntmps66
  go_wp2_with (go_at_call 70; refine (widths_calls _).mono ?_; rintro e w1 ⟨rfl, hb1⟩)
  go_loop [6] (fun i => ∃ k : Nat, k ≤ 4 ∧ i = .int .i64 k ∧ (0 < k → n < 0 ∨ lim (2 ^ (k - 1)) ≤ n)) (fun i => 4 - (intOf i).toNat)
  case atStart => exact ⟨0, by omega, rfl, by omega⟩
  case round =>
    obtain ⟨k, hk, rfl, hp⟩ := hrel
    by_cases h4 : k = 4
    · subst h4
      go_wp2
      go_ret
      exact ⟨ret_int (by rw [len_none n (by have := hp (by omega); simpa [lim] using this)]; rfl), hb1⟩
    · have hw : W4 (2 ^ k) := by
        unfold W4
        have : k = 0 ∨ k = 1 ∨ k = 2 ∨ k = 3 := by omega
        rcases this with rfl | rfl | rfl | rfl <;> simp
      have hx : ∀ w : World, (Instr.index 98 (.agg #[.int .i64 1, .int .i64 2, .int .i64 4, .int .i64 8]) (.int .i64 (k : Int))).run Tryd.prog w = .ok (.int .i64 ((2 ^ k : Nat) : Int)) w := by
        have : k = 0 ∨ k = 1 ∨ k = 2 ∨ k = 3 := by omega
        rcases this with rfl | rfl | rfl | rfl <;> exact fun _ => by kernel_rfl
      by_cases hc : 0 ≤ n ∧ n < lim (2 ^ k)
      · go_wp2_with (go_at_call 71; refine (fits_yes n (2 ^ k) hc.1 hw hc.2 _).mono ?_; rintro e w' ⟨rfl, rfl⟩)
        go_ret
        exact ⟨ret_int (by rw [len_pow n k (by omega) hc.1 hc.2 hp]; rfl), hb1⟩
      · go_wp2_with (go_at_call 71; refine (fits_no n (2 ^ k) hn hw (by omega) _).mono ?_; rintro e w' ⟨rfl, rfl⟩)
        go_round
        case rel => exact ⟨k + 1, by omega, by go_num, fun _ => by simp; omega⟩
        case measure => simp [intOf]; omega

set_option maxRecDepth 100000 in
set_option maxHeartbeats 400000 in
theorem tell_calls (d : Int) (w : World) : Calls Tryd.prog 72 #[.int .i64 d] w fun e w' => e = .returned (.int .i64 (tell d)) ∧ Below w.heap.size w w' := by
  go_enter Tryd.func72, Tryd.ntmps72
  go_wp2_with (go_at_call 70; refine (widths_calls _).mono ?_; rintro e w1 ⟨rfl, hb1⟩)
  go_loop [6] (fun i => ∃ k : Nat, k ≤ 4 ∧ i = .int .i64 k ∧ (∀ j : Nat, j < k → d ≠ ((2 ^ j : Nat) : Int))) (fun i => 4 - (intOf i).toNat)
  case atStart => exact ⟨0, by omega, rfl, by omega⟩
  case round =>
    obtain ⟨k, hk, rfl, hp⟩ := hrel
    by_cases h4 : k = 4
    · subst h4
      have ht := Lib.hid (tell_none d hp)
      clear hp
      go_wp2
      go_ret
      exact ⟨ret_int (by rw [ht.out]), hb1⟩
    · have hx : ∀ w : World, (Instr.index 98 (.agg #[.int .i64 1, .int .i64 2, .int .i64 4, .int .i64 8]) (.int .i64 (k : Int))).run Tryd.prog w = .ok (.int .i64 ((2 ^ k : Nat) : Int)) w := by
        have : k = 0 ∨ k = 1 ∨ k = 2 ∨ k = 3 := by omega
        rcases this with rfl | rfl | rfl | rfl <;> exact fun _ => by kernel_rfl
      have Hp := Lib.hid hp
      clear hp
      by_cases hc : d = ((2 ^ k : Nat) : Int)
      · subst hc
        go_wp2
        go_ret
        exact ⟨ret_int (by have := tell_pow k (by omega); simpa using this.symm), hb1⟩
      · obtain ⟨x, hX⟩ : ∃ x : Int, x = ((2 ^ k : Nat) : Int) := ⟨_, rfl⟩
        rw [← hX] at hc hx
        have hcb : (x == d) = false := by rw [beq_eq_false_iff_ne]; exact fun h => hc h.symm
        have HX := Lib.hid hX
        clear hX
        go_wp2
        have hk1 : k + 1 ≤ 4 := by clear hcb; omega
        refine ⟨⟨k + 1, hk1, by go_num, fun j hj => ?_⟩, by simp [intOf]; clear hcb; omega⟩
        rcases Nat.lt_or_ge j k with h | h
        · exact Hp.out j h
        · have : j = k := by clear hcb; omega
          subst this; rw [← HX.out]; exact hc

end Vi
end Go.Proofs.YtlkcibhdnicpkaaDoor
/- What laying and reading a number of the wire does, of the program. -/
namespace Go.Proofs.YtlkcibhdnicpkaaDoor
namespace Vi
open Go.RowKit Ba Vm
set_option linter.unusedVariables false
theorem info5 : (Tryd.prog.info? 5).map (fun i => (i.zero, i.size, i.bytes)) = some (some (.int .u8 0), 1, 1) := by kernel_rfl
theorem ret2 {a b : Value} {x y : Value} (h : a = x) (h2 : b = y) : Ending.returned (.tuple #[a, b]) = .returned (.tuple #[x, y]) := by rw [h, h2]

set_option maxHeartbeats 400000 in
theorem putIn_calls (n d : Int) (hn : n ≤ 9223372036854775807) (w : World) : Calls Tryd.prog 67 #[.int .i64 n, .int .i64 d] w
    fun e w' => ∃ v, e = .returned (.tuple #[v, .int .i64 (putIn n d).2]) ∧ OwnB w' w.heap.size 5 v (putIn n d).1 ∧ Below w.heap.size w w' := by
  by_cases hd : d = 1 ∨ d = 2 ∨ d = 4 ∨ d = 8
  · obtain ⟨k, rfl, hk⟩ : ∃ k : Nat, d = (k : Int) ∧ W4 k := ⟨d.toNat, by omega, by unfold W4; omega⟩
    have ht : tell k = tag k := tell_tag k hk
    have ht3 : tag k ≤ 3 := by rcases hk with rfl | rfl | rfl | rfl <;> simp [tag]
    have hk8 : 1 ≤ k ∧ k ≤ 8 := by rcases hk with rfl | rfl | rfl | rfl <;> omega
    by_cases hf : n < 0 ∨ lim k ≤ n
    · have hp : putIn n k = ([], 13) := by unfold putIn; rw [if_neg (by rw [Classical.not_not]; exact hd), if_pos (by simpa using hf)]
      have Hp := Lib.hid hp
      have Ht := Lib.hid ht
      clear hp ht
      go_enter Tryd.func67, Tryd.ntmps67
      go_wp2_with (first
        | (go_at_call 72; refine (tell_calls _ _).mono ?_; rw [Ht.out]; rintro e w1 ⟨rfl, hb1⟩)
        | (go_at_call 71; refine (fits_no n k hn hk hf _).mono ?_; rintro e w2 ⟨rfl, rfl⟩))
      go_ret2
      exact ⟨.slice none 0 0, by rw [Hp.out]; rfl, by rw [Hp.out]; exact OwnB.nil, hb1⟩
    · have hp : putIn n k = (enc n.toNat k, 0) := putIn_ok n k hk (by omega) (by omega)
      have Hp := Lib.hid hp
      have Ht := Lib.hid ht
      clear hp ht
      obtain ⟨i0, hi0, hz0, hz1, hz2⟩ := info_parts info5
      obtain ⟨N, rfl⟩ : ∃ N : Nat, n = (N : Int) := ⟨n.toNat, by omega⟩
      go_enter Tryd.func67, Tryd.ntmps67
      go_wp2_with (first
        | (go_at_call 72; refine (tell_calls _ _).mono ?_; rw [Ht.out]; rintro e w1 ⟨rfl, hb1⟩)
        | (go_at_call 71; refine (fits_yes _ k (by omega) hk (by omega) _).mono ?_; rintro e w2 ⟨rfl, rfl⟩)
        | (at_make; go_loud (refine wpList_make_full _ rfl (.tmp 19) (.tmp 19) 22 rfl w.heap.size 5 i0 (.int .u8 0) 1 Tryd.underlying22 hi0 hz0 hz1 .i64 .i64 _ _ k rfl rfl rfl rfl (by rw [hz2]; omega) (by unfold maxLen; omega) hb1.size ?_); intro w3 hown3 hg3))
      obtain ⟨g, hgq⟩ : ∃ g, g = w1.heap.size := ⟨_, rfl⟩
      rw [← hgq] at hown3
      rw [← hgq]
      have hge : w.heap.size ≤ g := by rw [hgq]; exact hb1.size
      have hb3 : Below w.heap.size w w3 := hb1.grown hg3 hb1.size (by simp)
      have hrow : w3.ownsRow w.heap.size 5 1 (.slice (some ⟨g, 0, none⟩) k k) k (bvs (List.replicate k 0 ++ be 0 N)) := by
        have e : (madeCells (Value.int .u8 0).cells (k * 1)).toList = bvs (List.replicate k 0 ++ be 0 N) := by
          simp [Value.cells, toList_madeCells_one, be, bvs, bv]
        rw [← e]; exact hown3
      clear hown3 hg3 hgq hb1
      go_loopw [0, 8] (fun n i wr => ∃ j : Nat, j ≤ k ∧ i = .int .i64 ((j : Int) - 1) ∧ n = .int .i64 ((N / 256 ^ (k - j) : Nat) : Int) ∧ wr.ownsRow w.heap.size 5 1 (.slice (some ⟨g, 0, none⟩) k k) k (bvs (List.replicate j 0 ++ be (k - j) N)) ∧ Below w.heap.size w wr) (fun _ i _ => (intOf i + 1).toNat)
      case atStart => exact ⟨k, Nat.le_refl _, rfl, by simp, by simpa using hrow, hb3⟩
      case round =>
        obtain ⟨j, hj, rfl, rfl, hrj, hbj⟩ := hrel
        clear hrow hb3
        rcases j with _ | m
        · have hc0 := hrj.cellAt 0 (by omega)
          have hL : bvs (List.replicate 0 0 ++ be (k - 0) N) = bvs (be k N) := by simp
          rw [hL] at hc0 hrj
          clear hL
          have hb0 := bvs_get (be k N) 0 (by rw [be_length]; omega)
          rw [be_head N k (by omega), UInt8.toNat_ofNat'] at hb0
          rw [hb0] at hc0
          clear hb0
          obtain ⟨V, hV⟩ : ∃ V : Nat, V = N / 256 ^ (k - 1) % 256 := ⟨_, rfl⟩
          rw [show (256 : Nat) = 2 ^ 8 from rfl] at hV
          rw [← hV] at hc0
          have hV2 : V < 256 := by rw [hV]; exact Nat.mod_lt _ (by omega)
          have HV := Lib.hid hV
          clear hV
          have hf0 := hrj.frozenAt 0
          go_wp2
          go_ret2
          have hor := u8_or_nat V (tag k * 64) (by omega) (by omega)
          rw [show ((tag k : Int) * 64) = ((tag k * 64 : Nat) : Int) by omega, hor]
          have hor2 : V ||| tag k * 64 < 256 := Nat.or_lt_two_pow (n := 8) (by omega) (by omega)
          obtain ⟨hs1, hs2⟩ := hrj.stored 0 (.int .u8 ((V ||| tag k * 64 : Nat) : Int))
          rw [bvs_set _ _ _ hor2, HV.out, enc_of_be N k hk (by omega)] at hs1
          refine ⟨.slice (some ⟨g, 0, none⟩) k k, by rw [Hp.out]; rfl, ?_, ?_⟩
          · rw [Hp.out, HV.out]
            have e : (enc N k).length = k := enc_length N k
            show World.ownsRow _ _ _ _ _ (enc ((N : Int)).toNat k).length _
            rw [Int.toNat_natCast, e]
            exact hs1
          · exact hbj.setCell hge _
        · have hcm := hrj.cellAt m (by omega)
          have hfm := hrj.frozenAt m
          rw [show (((m + 1 : Nat) : Int) - 1) = (m : Int) from by omega]
          obtain ⟨V, hV⟩ : ∃ V : Nat, V = N / 256 ^ (k - (m + 1)) := ⟨_, rfl⟩
          rw [← hV]
          have HV := Lib.hid hV
          clear hV
          obtain ⟨uu, hu⟩ : ∃ u, (bvs (List.replicate (m + 1) 0 ++ be (k - (m + 1)) N))[m]? = some u := ⟨_, List.getElem?_eq_getElem (by rw [bvs_length]; simp; omega)⟩
          rw [hu] at hcm
          clear hu
          go_wp2
          obtain ⟨hs1, hs2⟩ := hrj.stored m (.int .u8 ((V % 256 : Nat) : Int))
          rw [bvs_set _ _ _ (by omega), HV.out, be_set N k m hj] at hs1
          refine ⟨⟨m, by omega, rfl, ?_, ?_, hbj.setCell hge _⟩, by simp [intOf]⟩
          · rw [HV.out]
            have e : k - m = (k - (m + 1)) + 1 := by omega
            rw [e, Nat.pow_succ, ← Nat.div_div_eq_div_mul]
            simp
          · rw [show ((V : Int) % 256) = ((V % 256 : Nat) : Int) by omega, HV.out]
            exact hs1
  · have ht : tell d = -1 := by unfold tell; simp only [not_or] at hd; simp [hd]
    have hp : putIn n d = ([], 2) := by unfold putIn; rw [if_pos hd]
    have Hp := Lib.hid hp
    have Ht := Lib.hid ht
    clear hp ht
    go_enter Tryd.func67, Tryd.ntmps67
    go_wp2_with (go_at_call 72; refine (tell_calls _ _).mono ?_; rw [Ht.out]; rintro e w1 ⟨rfl, hb1⟩)
    go_ret2
    exact ⟨.slice none 0 0, by rw [Hp.out]; rfl, by rw [Hp.out]; exact OwnB.nil, hb1⟩

set_option maxHeartbeats 400000 in
theorem put_calls (n : Int) (hn : n ≤ 9223372036854775807) (w : World) : Calls Tryd.prog 64 #[.int .i64 n] w
    fun e w' => ∃ v, e = .returned (.tuple #[v, .int .i64 (put n).2]) ∧ OwnB w' w.heap.size 5 v (put n).1 ∧ Below w.heap.size w w' := by
  have Hp := Lib.hid (put_eq n)
  rcases Nat.eq_zero_or_pos (len n) with h0 | h0
  · have H0 := Lib.hid h0
    clear h0
    go_enter Tryd.func64, Tryd.ntmps64
    go_wp2_with (go_at_call 66; refine (len_calls _ hn _).mono ?_; rw [H0.out]; rintro e w1 ⟨rfl, hb1⟩)
    go_ret2
    exact ⟨.slice none 0 0, by rw [Hp.out, if_pos H0.out]; rfl, by rw [Hp.out, if_pos H0.out]; exact OwnB.nil, hb1⟩
  · go_enter Tryd.func64, Tryd.ntmps64
    go_wp2_with (first
      | (go_at_call 66; refine (len_calls _ hn _).mono ?_; rintro e w1 ⟨rfl, hb1⟩)
      | (go_at_call 67; refine (putIn_calls _ _ hn _).mono ?_; rintro e w2 ⟨v, rfl, ho, hb2⟩))
    go_ret2
    have hz : ¬ len n = 0 := by omega
    exact ⟨v, by rw [Hp.out, if_neg hz]; rfl, by rw [Hp.out, if_neg hz]; exact ho.weak hb1.size, hb1.trans (hb2.mono hb1.size)⟩

end Vi
end Go.Proofs.YtlkcibhdnicpkaaDoor
/- Laws on the numbers of the wire, in plain lists: read as put, cut off, in their order. -/
namespace Go.Proofs.YtlkcibhdnicpkaaDoor
namespace Vm
theorem shortest_enc (n w : Nat) (hw : W4 w) (hn : (n : Int) < lim w) : shortest (enc n w) = if len n < w then (0, 0, 4) else (n, w, 0) := by
  have h := get_enc n w hw hn []
  rw [List.append_nil] at h
  unfold shortest
  rw [h]
  simp
theorem get_cut (n w m : Nat) (hw : W4 w) (hn : (n : Int) < lim w) (hm : m < w) : get ((enc n w).take m) = (0, 0, 3) := by
  rw [enc_cons n w hw hn]
  rcases m with _ | m
  · rfl
  · rw [List.take_succ_cons]
    apply get_lt
    have hlt : n / 256 ^ (w - 1) < 64 := by rcases hw with rfl | rfl | rfl | rfl <;> simp only [lim] at hn <;> simp only [Nat.reduceSub, Nat.reducePow] <;> omega
    have ht : tag w < 4 := by rcases hw with rfl | rfl | rfl | rfl <;> simp [tag]
    have hb : (UInt8.ofNat (n / 256 ^ (w - 1) + tag w * 64)).toNat = n / 256 ^ (w - 1) + tag w * 64 := by
      rw [UInt8.toNat_ofNat']; exact Nat.mod_eq_of_lt (by omega)
    have h8 : w8 (UInt8.ofNat (n / 256 ^ (w - 1) + tag w * 64)) = w := by
      unfold w8
      rw [hb, (show ∀ x t : Nat, x < 64 → (x + t * 64) / 64 = t from fun x t h => by omega) _ _ hlt]
      rcases hw with rfl | rfl | rfl | rfl <;> rfl
    rw [h8]
    simp
    omega
theorem be_less (w a b : Nat) (ha : a < 256 ^ w) (hb : b < 256 ^ w) : Op.bytesLess (be w a) (be w b) = decide (a < b) := by
  induction w generalizing a b with
  | zero => simp at ha hb; subst ha hb; rfl
  | succ w ih =>
    have hp : 0 < 256 ^ w := Nat.pow_pos (by omega)
    rw [Nat.pow_succ, Nat.mul_comm] at ha hb
    have hqa : a / 256 ^ w < 256 := Nat.div_lt_of_lt_mul (by rw [Nat.mul_comm]; exact ha)
    have hqb : b / 256 ^ w < 256 := Nat.div_lt_of_lt_mul (by rw [Nat.mul_comm]; exact hb)
    have hra : a % 256 ^ w < 256 ^ w := Nat.mod_lt _ hp
    have hrb : b % 256 ^ w < 256 ^ w := Nat.mod_lt _ hp
    have hma : be w a = be w (a % 256 ^ w) := by
      conv => lhs; rw [← Nat.mod_add_div a (256 ^ w), Nat.mul_comm, be_mod]
    have hmb : be w b = be w (b % 256 ^ w) := by
      conv => lhs; rw [← Nat.mod_add_div b (256 ^ w), Nat.mul_comm, be_mod]
    have ea := Nat.div_add_mod a (256 ^ w)
    have eb := Nat.div_add_mod b (256 ^ w)
    simp only [be, Op.bytesLess]
    rw [hma, hmb, ih _ _ hra hrb, Bool.eq_iff_iff]
    simp only [Bool.or_eq_true, Bool.and_eq_true, decide_eq_true_eq, beq_iff_eq, UInt8.lt_iff_toNat_lt, ← UInt8.toNat_inj, UInt8.toNat_ofNat', Nat.reducePow, Nat.mod_eq_of_lt hqa, Nat.mod_eq_of_lt hqb]
    rcases Nat.lt_trichotomy (a / 256 ^ w) (b / 256 ^ w) with h | h | h
    · have h3 : 256 ^ w * (a / 256 ^ w + 1) ≤ 256 ^ w * (b / 256 ^ w) := Nat.mul_le_mul_left _ h
      rw [Nat.mul_add] at h3
      constructor
      · intro _; omega
      · intro _; exact .inl h
    · rw [h] at ea
      constructor
      · rintro (h2 | h2) <;> omega
      · intro h2; right; omega
    · have h3 : 256 ^ w * (b / 256 ^ w + 1) ≤ 256 ^ w * (a / 256 ^ w) := Nat.mul_le_mul_left _ h
      rw [Nat.mul_add] at h3
      constructor
      · rintro (h2 | h2) <;> omega
      · intro _; omega
theorem enc_less (a b w : Nat) (hw : W4 w) (ha : (a : Int) < lim w) (hb : (b : Int) < lim w) : Op.bytesLess (enc a w) (enc b w) = decide (a < b) := by
  unfold enc
  rw [be_less]
  · simp
  · rcases hw with rfl | rfl | rfl | rfl <;> simp only [lim] at ha <;> simp only [top, tag] <;> omega
  · rcases hw with rfl | rfl | rfl | rfl <;> simp only [lim] at hb <;> simp only [top, tag] <;> omega
theorem enc_inj (a b w v : Nat) (hw : W4 w) (hv : W4 v) (ha : (a : Int) < lim w) (hb : (b : Int) < lim v) (h : enc a w = enc b v) : a = b := by
  have h1 := get_enc a w hw ha []
  have h2 := get_enc b v hv hb []
  rw [h, h2] at h1
  simp only [Prod.mk.injEq] at h1
  exact h1.1.symm
end Vm
end Go.Proofs.YtlkcibhdnicpkaaDoor
