/- Bytes are fed to a decoder, by the document. -/
import Derived.Test.YtiofkhjpknfkgaaK01
import Derived.Test.YtiofkhjpknfkgaaK02
import Derived.Test.YtiofkhjpknfkgaaK03
import Derived.Test.YtiofkhjpknfkgaaK04
import Derived.Test.YtiofkhjpknfkgaaK05
import Derived.Test.YtiofkhjpknfkgaaK06
import Derived.Test.YtiofkhjpknfkgaaK07
import Derived.Test.YtiofkhjpknfkgaaK08
import Derived.Test.YtiofkhjpknfkgaaK09
import Derived.Test.YtiofkhjpknfkgaaK10
namespace Go.Proofs.Ytiofkhjpknfkgaa
namespace Dl
open Go.RowKit Ba Tm Dm Os_
set_option linter.unusedVariables false
theorem one_le (r : List UInt8) (old : Int) : (one r old).2.1 ≤ r.length := by
  cases r with
  | nil => exact Nat.le_refl _
  | cons c t =>
    by_cases h1 : c.toNat ≤ 1
    · by_cases hs : (Vm.shortest t).2.2 = 0
      · have hb := (Vm.sh_facts t).2.2 hs
        by_cases hc : c.toNat = 0
        · rw [one_litE c t old hc hs]
          split
          · exact Nat.zero_le _
          · split
            · exact Nat.zero_le _
            · split
              · exact Nat.zero_le _
              · rename_i h
                rw [List.length_drop] at h
                simp only [List.length_cons]
                omega
        · rw [one_cp c t old (by omega) hs]
          split
          · exact Nat.zero_le _
          · rename_i h4
            split
            · exact Nat.zero_le _
            · rename_i h5
              have hb2 := (Vm.sh_facts (t.drop (Vm.shortest t).2.1)).2.2 (by simpa using h5)
              rw [List.length_drop] at hb2
              split
              · simp only [List.length_cons]
                omega
              · exact Nat.zero_le _
      · rw [one_bad1 c t old h1 hs]
        exact Nat.zero_le _
    · rw [one_big c t old h1]
      exact Nat.zero_le _
theorem rdec_ne : (5 : TypeId) ≠ 37 := by decide
theorem rdop_ne : (54 : TypeId) ≠ 37 := by decide
theorem rfeed_results (tm : Array Value) (w : World) (N : Nat) (cs : Array Value) (hB : Blk w N 37 cs) (hs : cs.size = 4) (h4 : tm.getD 4 undef = .pointer (some ⟨N, 0, none⟩)) :
    (results Try.f15 tm).run Try.prog w = .ok (.tuple #[.agg cs, tm.getD 5 undef, tm.getD 6 undef]) w := by
  have l6 := run_loadVar_row (P := Try.prog) w N 37 37 cs (0, 0) _ hB Try.underlying37 rfl (by rw [hs]; kernel_rfl)
  simp only [Array.getD_eq_getD_getElem?] at h4
  simp [results, Try.results15, asAddr, h4, l6, Sem.run_bind]
/-- the decoder, the result, and the decoder as it was -/
def Fd (w : World) (N : Nat) (old m : Int) (r : Value) (m0 : Int) (b0 : Value) : Prop := Blk w N 37 #[.int .i64 old, .int .i64 m, r, .int .i64 0] ∧ Blk w (N + 1) 37 #[.int .i64 0, .int .i64 0, .slice none 0 0, .int .i64 0] ∧ Blk w (N + 1 + 1) 37 #[.int .i64 old, .int .i64 m0, b0, .int .i64 0]
section
variable {w w' : World} {N : Nat} {old m m0 : Int} {r b0 : Value}
theorem Fd.below (h : Fd w N old m r m0 b0) (hb : Below w.heap.size w w') : Fd w' N old m r m0 b0 := ⟨h.1.below hb h.1.lt, h.2.1.below hb h.2.1.lt, h.2.2.below hb h.2.2.lt⟩
theorem Fd.row {row : Option Nat} (h : Fd w N old m r m0 b0) (hg : w.grownBy w' row) (hB : ∀ g, row = some g → ∃ t cs, Blk w g t cs ∧ t ≠ 37) : Fd w' N old m r m0 b0 := by
  have ne : ∀ {g : Nat} {cs : Array Value}, Blk w g 37 cs → some g ≠ row := fun hb e => by
    obtain ⟨t, cs, h1, h2⟩ := hB _ e.symm
    exact h1.ne_ hb h2 rfl
  exact ⟨h.1.grown hg (ne h.1), h.2.1.grown hg (ne h.2.1), h.2.2.grown hg (ne h.2.2)⟩
theorem Fd.setm (h : Fd w N old m r m0 b0) (x : Int) : Fd (w.setCell ⟨N, 1, none⟩ (.int .i64 x)) N old x r m0 b0 := ⟨Blk.set_ h.1 1 _, h.2.1.far (by simp) _, h.2.2.far (by simp; omega) _⟩
theorem Fd.setb (h : Fd w N old m r m0 b0) (x : Value) : Fd (w.setCell ⟨N, 2, none⟩ x) N old m x m0 b0 := ⟨Blk.set_ h.1 2 _, h.2.1.far (by simp) _, h.2.2.far (by simp; omega) _⟩
theorem Fd.cells (h : Fd w N old m r m0 b0) : w.cell? ⟨N, 0, none⟩ = some (.int .i64 old) ∧ w.cell? ⟨N, 1, none⟩ = some (.int .i64 m) ∧ w.cell? ⟨N, 2, none⟩ = some r ∧ (∀ i, w.frozen? ⟨N, i, none⟩ = false) ∧ w.rangeAt N 0 [.int .i64 old, .int .i64 m, r, .int .i64 0] := by
  refine ⟨by rw [Blk.cell h.1]; rfl, by rw [Blk.cell h.1]; rfl, by rw [Blk.cell h.1]; rfl, Blk.frozen h.1, fun j v hv => ?_⟩
  rw [Blk.cell h.1, Nat.zero_add]
  simpa using hv
end
theorem fd_new (w : World) (o1 o2 o3 : Array Value) : Blk (((w.alloc (.cells o1 37)).alloc (.cells o2 37)).alloc (.cells o3 37)) w.heap.size 37 o1 ∧ Blk (((w.alloc (.cells o1 37)).alloc (.cells o2 37)).alloc (.cells o3 37)) (w.heap.size + 1) 37 o2 ∧ Blk (((w.alloc (.cells o1 37)).alloc (.cells o2 37)).alloc (.cells o3 37)) (w.heap.size + 1 + 1) 37 o3 ∧ Below w.heap.size w (((w.alloc (.cells o1 37)).alloc (.cells o2 37)).alloc (.cells o3 37)) := by
  have k : ∀ (w : World) (o : Obj), (w.alloc o).heap.size = w.heap.size + 1 := fun w o => by simp
  refine ⟨((Blk.new w _ _).alloc _).alloc _, ?_, ?_, ((((Below.refl _ _).alloc (Nat.le_refl _) _).alloc (by simp) _).alloc (by simp; omega) _)⟩
  · have := Blk.new (w.alloc (.cells o1 37)) 37 o2
    rw [k] at this
    exact this.alloc _
  · have := Blk.new ((w.alloc (.cells o1 37)).alloc (.cells o2 37)) 37 o3
    rw [k, k] at this
    exact this
theorem fd_keep {w w' : World} {N : Nat} {old m m0 : Int} {r b0 : Value} (h : Fd w N old m r m0 b0) (hg : w.grownBy w' (some (N + 1))) : (∀ base v M, OwnO w base v M → OwnO w' base v M) ∧ ∀ A l, RT w A l → RT w' A l := by
  have hB : ∀ g, some (N + 1) = some g → ∃ t cs, Blk w g t cs ∧ 5 ≠ t := fun g hg => by injection hg with hg; subst hg; exact ⟨_, _, h.2.1, rdec_ne⟩
  refine ⟨fun base v M ho => ho.grown hg (.inr fun hh => ?_) hB, fun A l hr => hr.row hg hB⟩
  obtain ⟨cs, hcs⟩ := own_blk ho.1 _ hh
  exact hcs.ne_ h.2.1 rdop_ne rfl
/-- what feeding does, by the document -/
def RFeedPost (w : World) (old : Int) (d : D) (x : List UInt8) (r : Ending) (w' : World) : Prop :=
  Below w.heap.size w w' ∧ ∃ (BA : Option Addr) (bc : Nat) (v : Value) (M : List Ow), r = .returned (.tuple #[.agg #[.int .i64 old, .int .i64 (feed old d x).1.made, .slice BA (feed old d x).1.b.length bc, .int .i64 (feed old d x).1.e], v, .int .i64 (feed old d x).2.2]) ∧
    OwnO w' w.heap.size v M ∧ ops M = (feed old d x).2.1 ∧ (feed old d x).1.b.length ≤ bc ∧ bc ≤ 9223372036854775807 ∧ RT w' BA (feed old d x).1.b
set_option maxRecDepth 100000 in
set_option maxHeartbeats 16000000 in
theorem rfeed_calls (old m0 : Int) (b : List UInt8) (e0 : Int) (BA : Option Addr) (bc : Nat) (x : List UInt8) (A : Option Addr) (n c : Nat) (hn : n = x.length) (hlc : n ≤ c) (hcm : c ≤ 9223372036854775807) (hbc : b.length ≤ bc) (hbm : bc ≤ 9223372036854775807) (ho : -9223372036854775808 ≤ old ∧ old ≤ 9223372036854775807) (hm0 : 0 ≤ m0 ∧ m0 ≤ 65536) (hbx : b.length + n ≤ 1099511627776) (w : World) (hb : RT w BA b) (hx : ReadB w w.heap.size A x) :
    Calls Try.prog 15 #[.agg #[.int .i64 old, .int .i64 m0, .slice BA b.length bc, .int .i64 e0], .slice A n c] w fun r w' => RFeedPost w old ⟨m0, b, e0⟩ x r w' := by
  obtain ⟨bl, hbl⟩ : ∃ bl, bl = b.length := ⟨_, rfl⟩
  rw [← hbl] at hbc hbx ⊢
  have Hbl := Lib.hid hbl
  have Hn := Lib.hid hn
  have Hb := Lib.hid hb
  have Hx := Lib.hid hx
  obtain ⟨i0, hi0⟩ := isByte_of Vi.info5
  obtain ⟨iO, hiO⟩ := isOp
  have Hi0 := Lib.hid hi0
  have Hi := Lib.hid hiO
  clear hbl hn hb hx hi0 hiO
  by_cases he : e0 = 0
  case neg =>
    have t1 : (e0 == 0) = false := by simpa using he
    have hr := feed_err old ⟨m0, b, e0⟩ x he
    have HR := Lib.hid hr
    have hk1 : ((w.alloc (.cells #[.int .i64 old, .int .i64 m0, .slice BA bl bc, .int .i64 e0] 37)).alloc (.cells #[.int .i64 0, .int .i64 0, .slice none 0 0, .int .i64 0] 37)).drew.rangeAt w.heap.size 0 [.int .i64 old, .int .i64 m0, .slice BA bl bc, .int .i64 e0] := fun j v hv => by
      have hB := (Blk.new w 37 #[.int .i64 old, .int .i64 m0, .slice BA bl bc, .int .i64 e0]).alloc (.cells #[.int .i64 0, .int .i64 0, .slice none 0 0, .int .i64 0] 37)
      have : ((w.alloc (.cells #[.int .i64 old, .int .i64 m0, .slice BA bl bc, .int .i64 e0] 37)).alloc (.cells #[.int .i64 0, .int .i64 0, .slice none 0 0, .int .i64 0] 37)).cell? ⟨w.heap.size, 0 + j, none⟩ = some v := by rw [Blk.cell hB, Nat.zero_add]; simpa using hv
      exact this
    have hk2 : ((w.alloc (.cells #[.int .i64 old, .int .i64 m0, .slice BA bl bc, .int .i64 e0] 37)).alloc (.cells #[.int .i64 0, .int .i64 0, .slice none 0 0, .int .i64 0] 37)).drew.cell? ⟨w.heap.size, 3, none⟩ = some (.int .i64 e0) := hk1 3 _ rfl
    have hbo : Blk ((w.alloc (.cells #[.int .i64 old, .int .i64 m0, .slice BA bl bc, .int .i64 e0] 37)).alloc (.cells #[.int .i64 0, .int .i64 0, .slice none 0 0, .int .i64 0] 37)).drew (w.heap.size + 1) 37 #[.int .i64 0, .int .i64 0, .slice none 0 0, .int .i64 0] := by
      have := Blk.new (w.alloc (.cells #[.int .i64 old, .int .i64 m0, .slice BA bl bc, .int .i64 e0] 37)) 37 #[.int .i64 0, .int .i64 0, .slice none 0 0, .int .i64 0]
      have h2 : Blk ((w.alloc (.cells #[.int .i64 old, .int .i64 m0, .slice BA bl bc, .int .i64 e0] 37)).alloc (.cells #[.int .i64 0, .int .i64 0, .slice none 0 0, .int .i64 0] 37)) (w.heap.size + 1) 37 #[.int .i64 0, .int .i64 0, .slice none 0 0, .int .i64 0] := by simpa using this
      exact h2
    have hbb : Below w.heap.size w ((w.alloc (.cells #[.int .i64 old, .int .i64 m0, .slice BA bl bc, .int .i64 e0] 37)).alloc (.cells #[.int .i64 0, .int .i64 0, .slice none 0 0, .int .i64 0] 37)).drew := (((Below.refl _ _).alloc (Nat.le_refl _) _).alloc (by simp) _).drew
    have HK1 := Lib.hid hk1
    have HK2 := Lib.hid hk2
    have HBo := Lib.hid hbo
    have HBb := Lib.hid hbb
    clear hr hk1 hk2 hbo hbb
    go_enter Try.func15, Try.ntmps15
    go_wp2_with fail
    refine CanT.region (fun W => W.rangeAt w.heap.size 0 [.int .i64 old, .int .i64 m0, .slice BA bl bc, .int .i64 e0] ∧ W.cell? ⟨w.heap.size, 3, none⟩ = some (.int .i64 e0)) 1000 (.op 0 1 (.op 1 2 (.op 2 1 (.op 3 0 (.op 4 2 (.op 5 2 (.nil))))))) (by kernel_rfl) (by kernel_rfl) ⟨HK1.out, HK2.out⟩ ?_
    generalize ((w.alloc (.cells #[.int .i64 old, .int .i64 m0, .slice BA bl bc, .int .i64 e0] 37)).alloc (.cells #[.int .i64 0, .int .i64 0, .slice none 0 0, .int .i64 0] 37)).drew = W at *
    repeat (first | (refine CanT.skip rfl ?_ (fun K hK => ?_); (focus (go_simp; done)); go_simp; refine hK _ ?_; clear hK K) | (refine CanT.pur rfl ?_ ?_; (focus (go_simp; done)); refine ⟨?_, ?_, ?_⟩; rotate_left; (focus (intro w'; go_simp; rfl)); (focus (intro K hK; go_simp; refine hK _ ?_; clear hK K))) | (refine CanT.heldR rfl ?_ 37 _ rfl w.heap.size (0) ([.int .i64 old, .int .i64 m0, .slice BA bl bc, .int .i64 e0]) rfl (fun w1 h => h.1) _ Try.underlying37 rfl (by kernel_rfl) (fun K hK => ?_); (focus (go_simp; done)); go_simp; refine hK _ ?_; clear hK K) | (refine CanT.cellG rfl ?_ (.int .i64 e0) (.int .i64 e0) ⟨w.heap.size, 3, none⟩ (fun w1 h => h.2) ?_ (fun K hK => ?_); (focus (go_simp; done)); (focus (intro w' hc'; go_simp; (try rfl))); go_simp; refine hK _ ?_; clear hK K))
    refine CanT.imp rfl (fun K hK => ?_)
    refine step_storeR ?_ 37 (.tmp 4) (.tmp 15) rfl (w.heap.size + 1) #[.int .i64 old, .int .i64 m0, .slice BA bl bc, .int .i64 e0] rfl rfl 37 _ HBo.out (by kernel_rfl) rfl (all_oneCell_toArray (cs := [.int .i64 old, .int .i64 m0, .slice BA bl bc, .int .i64 e0]) (fun u hu => by simp only [List.mem_cons, List.not_mem_nil, or_false] at hu; rcases hu with rfl | rfl | rfl | rfl <;> rfl)) ?_
    focus (go_simp; done)
    intro w4 hS4 hg4
    have HS4 := Lib.hid hS4
    have HG4 := Lib.hid hg4
    have hq4 : ∀ j, w4.cell? ⟨w.heap.size, j, none⟩ = W.cell? ⟨w.heap.size, j, none⟩ := fun j => World.cell?_of_block (hg4.block w.heap.size (by have := HBo.out.lt; omega) (by simp))
    (try go_simp)
    refine hK.out _ _ ⟨fun j v hv => (hq4 _).trans (HK1.out j v hv), (hq4 3).trans HK2.out⟩ ?_
    clear hK K hS4 hg4 hq4
    repeat (first | (refine CanT.skip rfl ?_ (fun K hK => ?_); (focus (go_simp; done)); go_simp; refine hK _ ?_; clear hK K) | (refine CanT.pur rfl ?_ ?_; (focus (go_simp; done)); refine ⟨?_, ?_, ?_⟩; rotate_left; (focus (intro w'; go_simp; rfl)); (focus (intro K hK; go_simp; refine hK _ ?_; clear hK K))))
    refine CanT.done ?_
    go_wp2_with fail
    refine bodyPost_ret (rfeed_results _ w4 (w.heap.size + 1) #[.int .i64 old, .int .i64 m0, .slice BA bl bc, .int .i64 e0] HS4.out rfl rfl) rfl ?_
    have hW4 := HBb.out.trans (below_of_only HG4.out (by omega) HBb.out.size)
    refine ⟨hW4, BA, bc, .slice none 0 0, [], by rw [HR.out, Hbl.out]; rfl, OwnO.nil, by rw [HR.out]; rfl, by rw [HR.out]; rw [Hbl.out] at hbc; exact hbc, hbm, by rw [HR.out]; exact Hb.out.below hW4⟩
  subst he
  have hsz : (((w.alloc (.cells #[.int .i64 old, .int .i64 m0, .slice BA bl bc, .int .i64 0] 37)).alloc (.cells #[.int .i64 0, .int .i64 0, .slice none 0 0, .int .i64 0] 37)).alloc (.cells #[.int .i64 old, .int .i64 m0, .slice BA bl bc, .int .i64 0] 37)).heap.size = w.heap.size + 1 + 1 + 1 := by simp
  have hlitz := OwnB.lit0 (((w.alloc (.cells #[.int .i64 old, .int .i64 m0, .slice BA bl bc, .int .i64 0] 37)).alloc (.cells #[.int .i64 0, .int .i64 0, .slice none 0 0, .int .i64 0] 37)).alloc (.cells #[.int .i64 old, .int .i64 m0, .slice BA bl bc, .int .i64 0] 37)) 5 (w.heap.size + 1 + 1 + 1) (w.heap.size + 1 + 1 + 1) hsz.symm (by rw [hsz]; exact Nat.le_refl _)
  have Hsz := Lib.hid hsz
  clear hsz
  obtain ⟨Tt, hT⟩ : ∃ Tt, Tt = b ++ x := ⟨_, rfl⟩
  have hTl : Tt.length = bl + n := by rw [hT, List.length_append, Hn.out, Hbl.out]
  obtain ⟨o2, m2, r2, e2, hlp⟩ : ∃ o2 m2 r2 e2, loop old (Tt.length + 1) [] m0 Tt = (o2, m2, r2, e2) := ⟨_, _, _, _, rfl⟩
  have hfe := feed_ok (out := o2) (m2 := m2) (r := r2) (e := e2) old m0 b x (by rw [← hT]; exact hlp)
  obtain ⟨k1, k2, k3, k4⟩ := fd_new w #[.int .i64 old, .int .i64 m0, .slice BA bl bc, .int .i64 0] #[.int .i64 0, .int .i64 0, .slice none 0 0, .int .i64 0] #[.int .i64 old, .int .i64 m0, .slice BA bl bc, .int .i64 0]
  have hfd : Fd (((w.alloc (.cells #[.int .i64 old, .int .i64 m0, .slice BA bl bc, .int .i64 0] 37)).alloc (.cells #[.int .i64 0, .int .i64 0, .slice none 0 0, .int .i64 0] 37)).alloc (.cells #[.int .i64 old, .int .i64 m0, .slice BA bl bc, .int .i64 0] 37)) w.heap.size old m0 (.slice BA bl bc) m0 (.slice BA bl bc) := ⟨k1, k2, k3⟩
  have HT := Lib.hid hT
  have HTl := Lib.hid hTl
  have Hlp := Lib.hid hlp
  have Hfe := Lib.hid hfe
  have HFd := Lib.hid hfd
  have HK4 := Lib.hid k4
  have Hlit := Lib.hid hlitz
  have Hl : Hid (bl + n ≤ 1099511627776) := Lib.hid hbx
  have hrx : ((w.alloc (.cells #[.int .i64 old, .int .i64 m0, .slice BA bl bc, .int .i64 0] 37)).alloc (.cells #[.int .i64 0, .int .i64 0, .slice none 0 0, .int .i64 0] 37)).rangeAt w.heap.size 0 [.int .i64 old, .int .i64 m0, .slice BA bl bc, .int .i64 0] := fun j v hv => by
    have hB := (Blk.new w 37 #[.int .i64 old, .int .i64 m0, .slice BA bl bc, .int .i64 0]).alloc (.cells #[.int .i64 0, .int .i64 0, .slice none 0 0, .int .i64 0] 37)
    rw [Blk.cell hB, Nat.zero_add]
    simpa using hv
  have HRx := Lib.hid hrx
  clear hT hTl hlp hfe k1 k2 k3 k4 hfd hlitz hbx hrx
  go_enter Try.func15, Try.ntmps15
  go_wp2_with (first | (refine wpList_load_mid rfl 37 (.tmp 2) rfl w.heap.size 0 rfl [.int .i64 old, .int .i64 m0, .slice BA bl bc, .int .i64 0] _ HRx.out Try.underlying37 rfl (by kernel_rfl) ?_) | (at_builtin; go_loud (refine wpList_appB _ rfl (.tmp 19) (.tmp 21) 22 rfl (w.heap.size + 1 + 1 + 1) 5 i0 Try.underlying22 Hi0.out _ [] rfl Hlit.out w.heap.size BA bl bc b rfl Hbl.out ((Hb.out.readB.below HK4.out).alloc HK4.out.size _) (by have := Hbl.out; have := Hl.out; simp; omega) (by simp) ?_); intro v5 w5 ho5 hg5 _ hb5; rw [List.nil_append] at ho5; have HO5 := Lib.hid ho5; have HB5 : Hid (Below (w.heap.size + 1 + 1 + 1) (((w.alloc (.cells #[.int .i64 old, .int .i64 m0, .slice BA bl bc, .int .i64 0] 37)).alloc (.cells #[.int .i64 0, .int .i64 0, .slice none 0 0, .int .i64 0] 37)).alloc (.cells #[.int .i64 old, .int .i64 m0, .slice BA bl bc, .int .i64 0] 37)) w5) := Lib.hid (((Below.refl _ _).alloc (by rw [Hsz.out]; exact Nat.le_refl _) _).trans hb5); clear ho5 hg5 hb5) | (at_builtin; go_loud (refine wpList_appB _ rfl (.tmp 22) (.tmp 23) 22 rfl (w.heap.size + 1 + 1 + 1) 5 i0 Try.underlying22 Hi0.out _ b rfl HO5.out w.heap.size A n c x rfl Hn.out ((Hx.out.below HK4.out).below (HB5.out.mono (by omega))) (by have := Hn.out; have := Hbl.out; have := Hl.out; omega) (by have := HB5.out.size; rw [Hsz.out] at this; exact this) ?_); intro v6 w6 ho6 hg6 _ hb6; rw [← HT.out] at ho6; obtain ⟨A6, c6, hv6, hp6, hm6, -, -⟩ := ho6.opens; subst hv6; have HR6 := Lib.hid (RT.of_own ho6); have hb6' : Below (w.heap.size + 1 + 1 + 1) (((w.alloc (.cells #[.int .i64 old, .int .i64 m0, .slice BA bl bc, .int .i64 0] 37)).alloc (.cells #[.int .i64 0, .int .i64 0, .slice none 0 0, .int .i64 0] 37)).alloc (.cells #[.int .i64 old, .int .i64 m0, .slice BA bl bc, .int .i64 0] 37)) w6 := HB5.out.trans hb6; have hfd6 := HFd.out.below (by rw [Hsz.out]; exact hb6'); obtain ⟨k0, k1, k2, kz, -⟩ := hfd6.cells; have HFd6 := Lib.hid hfd6; have HB6 : Hid (Below w.heap.size w w6) := Lib.hid (HK4.out.trans (hb6'.mono (by omega))); have Hp6 := Lib.hid hp6; have HFd7 : Hid (Fd (w6.setCell ⟨w.heap.size, 2, none⟩ (.slice A6 Tt.length c6)) w.heap.size old m0 (.slice A6 Tt.length c6) m0 (.slice BA bl bc)) := Lib.hid (hfd6.setb _); have HB7 : Hid (Below w.heap.size w (w6.setCell ⟨w.heap.size, 2, none⟩ (.slice A6 Tt.length c6))) := Lib.hid (HB6.out.setCell (Nat.le_refl _) _); have HR7 : Hid (RT (w6.setCell ⟨w.heap.size, 2, none⟩ (.slice A6 Tt.length c6)) A6 Tt) := Lib.hid (HR6.out.row (only_set w6 w.heap.size 2 _) (fun g hg => by injection hg with hg; subst hg; exact ⟨_, _, hfd6.1, rdec_ne⟩)); clear ho6 hg6 hb6 hb6' hfd6 hp6 k0 k1))
  generalize hw7 : w6.setCell ⟨w.heap.size, 2, none⟩ (.slice A6 Tt.length c6) = w7 at *
  clear hw7 k2 kz
  obtain ⟨N, hN⟩ : ∃ N, N = w.heap.size := ⟨_, rfl⟩
  rw [← hN] at HFd7 ⊢
  have HN := Lib.hid hN
  clear hN HFd HFd6 HB6 HR6 HO5 HB5 Hlit Hsz HK4 HRx
  go_loopg [8] (bl + n) (fun q v8 wr => ∃ (r : List UInt8) (A' : Option Addr) (c' : Nat) (m : Int) (M : List Ow) (f : Nat), q = r.length ∧ r.length ≤ c' ∧ c' ≤ 9223372036854775807 ∧ RT wr A' r ∧ Fd wr N old m (.slice A' r.length c') m0 (.slice BA bl bc) ∧ 0 ≤ m ∧ m ≤ 65536 ∧ OwnO wr w.heap.size v8 M ∧ M.length + r.length ≤ 1099511627776 ∧ r.length < f ∧ loop old f (ops M) m r = (o2, m2, r2, e2) ∧ Below w.heap.size w wr)
  case atStart => exact ⟨Tt, A6, c6, m0, [], Tt.length + 1, HTl.out.symm, Hp6.out, hm6, HR7.out, HFd7.out, hm0.1, hm0.2, OwnO.nil, by simp; rw [HTl.out]; exact Hl.out, by omega, Hlp.out, HB7.out⟩
  case round =>
    obtain ⟨r, A', c', m, M, f, hq, hrc, hcc, hrt, hfd, hm1, hm2', ho8, hML, hrf, hlp, hbw⟩ := hrel
    obtain ⟨f, rfl⟩ : ∃ f', f = f' + 1 := ⟨f - 1, by omega⟩
    obtain ⟨rl, hrl⟩ : ∃ rl, rl = r.length := ⟨_, rfl⟩
    rw [← hrl] at hq hrc hfd
    have Hq := Lib.hid hq
    have HRt := Lib.hid hrt
    have HF := Lib.hid hfd
    have HO := Lib.hid ho8
    have HML := Lib.hid hML
    have Hrf := Lib.hid hrf
    have Hlp2 := Lib.hid hlp
    have HW := Lib.hid hbw
    have Hrl := Lib.hid hrl
    clear hq hrt hfd ho8 hML hrf hlp hbw hrl HFd7 HR7 HB7
    obtain ⟨k0, k1, k2, kz, -⟩ := HF.out.cells
    by_cases hr0 : 0 < rl
    · have hone := rone_calls r A' rl c' old Hrl.out hr0 hrc hcc (by have := HML.out; have := Hrl.out; omega) ho wr HRt.out
      have Hone := Lib.hid hone
      clear hone
      go_wp2_with fail
      refine Calls.mono Hone.out ?_
      rintro e1 w3 ⟨hb3, D, kk, rfl, hwf⟩
      have HW3 := Lib.hid (HW.out.trans (hb3.mono HW.out.size))
      have HO3 := Lib.hid (HO.out.keptB hb3)
      have HRt3 := Lib.hid (HRt.out.below hb3)
      have HF3 := Lib.hid (HF.out.below hb3)
      have hst := fun h => loop_stop old f (ops M) m r h
      have hgo := fun h => loop_go old f (ops M) m r h
      rw [Hlp2.out] at hst hgo
      have hmk0 := one_makes r old
      have huL : takeOk r old (65536 - m) → True := fun _ => trivial
      unfold takeOk takeE at hst
      unfold takeOk at hgo
      have hu40 : (one r old).2.1 ≠ 0 → (one r old).2.2 = 0 → (one r old).2.1 ≤ rl := fun h1 h2 => by rw [Hrl.out]; exact one_le r old
      generalize one r old = z at *
      obtain ⟨⟨X1, X2, X3, X4⟩, u, e1⟩ := z
      simp only at hst hgo hwf hmk0 hu40
      have hops : (opv (⟨X1, X2, X3, X4⟩, D, kk)).toArray = #[.bool X1, .int .i64 X2, .int .i64 X3, .slice D X4.length kk] := rfl
      simp only [hops]
      have hmv : makes ⟨X1, X2, X3, X4⟩ = if X1 then X3 else (X4.length : Int) := rfl
      have hmm := fun w => rmakes_calls X1 X2 X3 D X4.length kk w
      rw [← hmv] at hmm
      have hyb : makes ⟨X1, X2, X3, X4⟩ ≤ 9223372036854775807 := by
        rw [hmv]
        have h5 := hwf.2.1
        have h6 := hwf.2.2.1
        have h7 := hwf.2.2.2.1
        simp only at h5 h6 h7
        split <;> omega
      generalize hy : makes ⟨X1, X2, X3, X4⟩ = y at *
      have hW4 : Below w.heap.size w (w3.alloc (.cells #[.bool X1, .int .i64 X2, .int .i64 X3, .slice D X4.length kk] 54)) := HW3.out.alloc HW3.out.size _
      have hF4 := HF3.out.below ((Below.refl _ _).alloc (Nat.le_refl _) (.cells #[.bool X1, .int .i64 X2, .int .i64 X3, .slice D X4.length kk] 54))
      have hD4 : (w3.alloc (.cells #[.bool X1, .int .i64 X2, .int .i64 X3, .slice D X4.length kk] 54)).rangeAt w3.heap.size 0 [.bool X1, .int .i64 X2, .int .i64 X3, .slice D X4.length kk] := (op_cells (heap_alloc_new w3 _)).2.2.2.2
      have HW4 := Lib.hid hW4
      have HF4 := Lib.hid hF4
      have HD4 := Lib.hid hD4
      have HO4 := Lib.hid (HO3.out.alloc (.cells #[.bool X1, .int .i64 X2, .int .i64 X3, .slice D X4.length kk] 54))
      have HRt4 := Lib.hid (HRt3.out.below ((Below.refl _ _).alloc (Nat.le_refl _) (.cells #[.bool X1, .int .i64 X2, .int .i64 X3, .slice D X4.length kk] 54)))
      have Hwf4 := Lib.hid (hwf.below ((Below.refl _ _).alloc (Nat.le_refl _) (.cells #[.bool X1, .int .i64 X2, .int .i64 X3, .slice D X4.length kk] 54)))
      have Hmm := Lib.hid hmm
      have Hst := Lib.hid hst
      have Hgo := Lib.hid hgo
      have Hgx : Hid (N + 1 + 1 < w3.heap.size) := Lib.hid HF3.out.2.2.lt
      have HXlt : Hid (w3.heap.size < (w3.alloc (.cells #[.bool X1, .int .i64 X2, .int .i64 X3, .slice D X4.length kk] 54)).heap.size) := Lib.hid (by simp)
      clear hb3 hwf hst hgo hmm hmv hops hW4 hF4 hD4 huL HW3 HO3 HRt3 HF3 HW HO HRt HF Hone k0 k1 k2 kz
      go_wp2_with fail
      refine CanT.region (fun W => W.rangeAt w3.heap.size 0 [.bool X1, .int .i64 X2, .int .i64 X3, .slice D X4.length kk] ∧ W.cell? ⟨N, 1, none⟩ = some (.int .i64 m)) 1000 (.op 0 2 (.op 1 2 (.op 2 2 (.op 3 2 (.op 4 2 (.op 5 2 (.op 6 2 (.op 7 1 (.op 9 2 (.op 10 1 (.op 11 2 (.op 8 0 (.op 12 2 (.op 13 2 (.nil))))))))))))))) (by kernel_rfl) (by kernel_rfl) ⟨HD4.out, HF4.out.cells.2.1⟩ ?_
      have HWd := Lib.hid HW4.out.drew
      have HDd : Hid ((w3.alloc (.cells #[.bool X1, .int .i64 X2, .int .i64 X3, .slice D X4.length kk] 54)).drew.rangeAt w3.heap.size 0 [.bool X1, .int .i64 X2, .int .i64 X3, .slice D X4.length kk]) := HD4
      have HFd : Hid (Fd (w3.alloc (.cells #[.bool X1, .int .i64 X2, .int .i64 X3, .slice D X4.length kk] 54)).drew N old m (.slice A' rl c') m0 (.slice BA bl bc)) := HF4
      have HOd : Hid (OwnO (w3.alloc (.cells #[.bool X1, .int .i64 X2, .int .i64 X3, .slice D X4.length kk] 54)).drew w.heap.size u8 M) := HO4
      have HRd : Hid (RT (w3.alloc (.cells #[.bool X1, .int .i64 X2, .int .i64 X3, .slice D X4.length kk] 54)).drew A' r) := HRt4
      have Hwd : Hid (WfT (w3.alloc (.cells #[.bool X1, .int .i64 X2, .int .i64 X3, .slice D X4.length kk] 54)).drew (⟨X1, X2, X3, X4⟩, D, kk)) := Hwf4
      have HXd : Hid (w3.heap.size < (w3.alloc (.cells #[.bool X1, .int .i64 X2, .int .i64 X3, .slice D X4.length kk] 54)).drew.heap.size) := HXlt
      clear HW4 HD4 HF4 HO4 HRt4 Hwf4 HXlt
      generalize (w3.alloc (.cells #[.bool X1, .int .i64 X2, .int .i64 X3, .slice D X4.length kk] 54)).drew = wd at *
      generalize w3.heap.size = gx at *
      by_cases he1 : e1 = 0
      · subst he1
        by_cases hu : u = 0
        · subst hu
          repeat (first | (refine CanT.skip rfl ?_ (fun K hK => ?_); (focus (go_simp; done)); go_simp; refine hK _ ?_; clear hK K) | (refine CanT.pur rfl ?_ ?_; (focus (go_simp; done)); refine ⟨?_, ?_, ?_⟩; rotate_left; (focus (intro w'; go_simp; rfl)); (focus (intro K hK; go_simp; refine hK _ ?_; clear hK K))) | (refine CanT.heldR rfl ?_ 54 _ rfl gx (0) ([.bool X1, .int .i64 X2, .int .i64 X3, .slice D X4.length kk]) rfl (fun w1 h => h.1) _ Try.underlying54 rfl (by kernel_rfl) (fun K hK => ?_); (focus (go_simp; done)); go_simp; refine hK _ ?_; clear hK K) | (refine CanT.cellG rfl ?_ (.int .i64 m) (.int .i64 m) ⟨N, 1, none⟩ (fun w1 h => h.2) ?_ (fun K hK => ?_); (focus (go_simp; done)); (focus (intro w' hc'; go_simp; (try rfl))); go_simp; refine hK _ ?_; clear hK K))
          refine CanT.done ?_
          have hst := Hst.out (fun h => h.2.1 rfl)
          have hst : (o2, m2, r2, e2) = (ops M, m, r, 0) := by simpa using hst
          injection hst with h1 hst
          injection hst with h2 hst
          injection hst with h3 h4
          subst h1 h2 h3 h4
          have hfe := Hfe.out
          rw [if_neg (show ¬ ((0 : Int) ≠ 0) by simp)] at hfe
          have Hf2 := Lib.hid hfe
          have HX9 := Lib.hid HFd.out.cells.2.2.2.2
          clear hfe
          go_wp2_with (first | (refine wpList_load_mid rfl 37 (.tmp 2) rfl N 0 rfl [.int .i64 old, .int .i64 m2, .slice A' rl c', .int .i64 0] _ HX9.out Try.underlying37 rfl (by kernel_rfl) ?_) | (refine Sm.wpList_store_blk rfl 37 (.tmp 4) (.tmp 76) rfl (N + 1) 0 37 [] [.int .i64 0, .int .i64 0, .slice none 0 0, .int .i64 0] [] [.int .i64 old, .int .i64 m2, .slice A' rl c', .int .i64 0] rfl rfl HFd.out.2.1 rfl rfl (by kernel_rfl) (fun u hu => by simp only [List.mem_cons, List.not_mem_nil, or_false] at hu; rcases hu with rfl | rfl | rfl | rfl <;> rfl) ?_; intro w4 hS4 hg4))
          refine bodyPost_ret (rfeed_results _ w4 (N + 1) #[.int .i64 old, .int .i64 m2, .slice A' rl c', .int .i64 0] (by simpa using hS4) rfl rfl) rfl ?_
          obtain ⟨hk1, hk2⟩ := fd_keep HFd.out hg4
          refine ⟨HWd.out.trans (below_of_only hg4 (by rw [HN.out]; omega) HWd.out.size), A', c', _, M, by rw [Hf2.out, Hrl.out]; rfl, hk1 _ _ _ HOd.out, by rw [Hf2.out], by rw [Hf2.out]; show r2.length ≤ c'; rw [← Hrl.out]; exact hrc, hcc, by rw [Hf2.out]; exact hk2 _ _ HRd.out⟩
        · have hu0 : 0 < u := by omega
          have hu0' : (0 : Int) < (u : Int) := by omega
          have hy0 := hmk0 hu
          have hwr : IntKind.i64.wrap (65536 - m) = 65536 - m := by rw [IntKind.wrap_i64]; omega
          repeat (first | (refine CanT.skip rfl ?_ (fun K hK => ?_); (focus (go_simp; done)); go_simp; refine hK _ ?_; clear hK K) | (refine CanT.pur rfl ?_ ?_; (focus (go_simp; done)); refine ⟨?_, ?_, ?_⟩; rotate_left; (focus (intro w'; go_simp; rfl)); (focus (intro K hK; go_simp; refine hK _ ?_; clear hK K))) | (refine CanT.heldR rfl ?_ 54 _ rfl gx (0) ([.bool X1, .int .i64 X2, .int .i64 X3, .slice D X4.length kk]) rfl (fun w1 h => h.1) _ Try.underlying54 rfl (by kernel_rfl) (fun K hK => ?_); (focus (go_simp; done)); go_simp; refine hK _ ?_; clear hK K) | (refine CanT.cellG rfl ?_ (.int .i64 m) (.int .i64 m) ⟨N, 1, none⟩ (fun w1 h => h.2) ?_ (fun K hK => ?_); (focus (go_simp; done)); (focus (intro w' hc'; go_simp; (try rfl))); go_simp; refine hK _ ?_; clear hK K))
          refine CanT.imp rfl (fun K hK => ?_)
          go_simp
          refine Calls.mono (Hmm.out _) ?_
          rintro e5 w5 ⟨rfl, hb5⟩
          have HW5 := Lib.hid (HWd.out.trans (hb5.mono HWd.out.size))
          have HD5 : Hid (w5.rangeAt gx 0 [.bool X1, .int .i64 X2, .int .i64 X3, .slice D X4.length kk]) := Lib.hid fun jj v hv => (hb5.cell (p := ⟨gx, 0 + jj, none⟩) HXd.out).trans (HDd.out jj v hv)
          have HF5 := Lib.hid (HFd.out.below hb5)
          have HO5 := Lib.hid (HOd.out.keptB hb5)
          have HR5 := Lib.hid (HRd.out.below hb5)
          have Hw5 := Lib.hid (Hwd.out.below hb5)
          have HX5 : Hid (gx < w5.heap.size) := Lib.hid (Nat.lt_of_lt_of_le HXd.out hb5.size)
          (try go_simp)
          refine hK.out _ _ ⟨HD5.out, HF5.out.cells.2.1⟩ ?_
          clear hK K hb5 HWd HDd HFd HOd HRd Hwd HXd
          by_cases hyr : y ≤ 65536 - m
          · have t9 : ¬ 65536 - m < y := by omega
            repeat (first | (refine CanT.skip rfl ?_ (fun K hK => ?_); (focus (go_simp; done)); go_simp; refine hK _ ?_; clear hK K) | (refine CanT.pur rfl ?_ ?_; (focus (go_simp; done)); refine ⟨?_, ?_, ?_⟩; rotate_left; (focus (intro w'; go_simp; rfl)); (focus (intro K hK; go_simp; refine hK _ ?_; clear hK K))))
            refine CanT.done ?_
            have hgo := Hgo.out ⟨rfl, hu, hyr⟩
            have Hgo2 := Lib.hid hgo
            have hun := hu40 hu rfl
            have t5 : (u == 0) = false := by simpa using hu
            have t6 : ((u : Int) == 0) = false := by
              have : ¬ (u : Int) = 0 := by omega
              simpa using this
            have t7 : ¬ (u : Int) = 0 := by omega
            have hwrap : IntKind.i64.wrap (m + y) = m + y := by rw [IntKind.wrap_i64]; omega
            clear hgo
            go_wp2_with fail
            refine CanT.region (fun W => W.rangeAt gx 0 [.bool X1, .int .i64 X2, .int .i64 X3, .slice D X4.length kk] ∧ W.cell? ⟨N, 1, none⟩ = some (.int .i64 m)) 6 (.op 0 2 (.op 1 1 (.op 2 1 (.op 3 0 (.op 4 2 (.op 5 2 (.op 6 0 (.nil)))))))) (by kernel_rfl) (by kernel_rfl) ⟨HD5.out, HF5.out.cells.2.1⟩ ?_
            have HWe := Lib.hid HW5.out.drew
            have HDe : Hid (w5.drew.rangeAt gx 0 [.bool X1, .int .i64 X2, .int .i64 X3, .slice D X4.length kk]) := HD5
            have HFe : Hid (Fd w5.drew N old m (.slice A' rl c') m0 (.slice BA bl bc)) := HF5
            have HOe : Hid (OwnO w5.drew w.heap.size u8 M) := HO5
            have HRe : Hid (RT w5.drew A' r) := HR5
            have Hwe : Hid (WfT w5.drew (⟨X1, X2, X3, X4⟩, D, kk)) := Hw5
            have HXe : Hid (gx < w5.drew.heap.size) := HX5
            clear HW5 HD5 HF5 HO5 HR5 Hw5 HX5
            generalize w5.drew = we at *
            repeat (first | (refine CanT.skip rfl ?_ (fun K hK => ?_); (focus (go_simp; done)); go_simp; refine hK _ ?_; clear hK K) | (refine CanT.pur rfl ?_ ?_; (focus (go_simp; done)); refine ⟨?_, ?_, ?_⟩; rotate_left; (focus (intro w'; go_simp; rfl)); (focus (intro K hK; go_simp; refine hK _ ?_; clear hK K))) | (refine CanT.heldR rfl ?_ 54 _ rfl gx (0) ([.bool X1, .int .i64 X2, .int .i64 X3, .slice D X4.length kk]) rfl (fun w1 h => h.1) _ Try.underlying54 rfl (by kernel_rfl) (fun K hK => ?_); (focus (go_simp; done)); go_simp; refine hK _ ?_; clear hK K) | (refine CanT.cellG rfl ?_ (.int .i64 m) (.int .i64 m) ⟨N, 1, none⟩ (fun w1 h => h.2) ?_ (fun K hK => ?_); (focus (go_simp; done)); (focus (intro w' hc'; go_simp; (try rfl))); go_simp; refine hK _ ?_; clear hK K))
            refine CanT.imp rfl (fun K hK => ?_)
            go_simp
            refine Calls.mono (Hmm.out _) ?_
            rintro e6 w6 ⟨rfl, hb6⟩
            have HW6 := Lib.hid (HWe.out.trans (hb6.mono HWe.out.size))
            have HD6 : Hid (w6.rangeAt gx 0 [.bool X1, .int .i64 X2, .int .i64 X3, .slice D X4.length kk]) := Lib.hid fun jj v hv => (hb6.cell (p := ⟨gx, 0 + jj, none⟩) HXe.out).trans (HDe.out jj v hv)
            have hF6 := HFe.out.below hb6
            have HO6 := Lib.hid (HOe.out.keptB hb6)
            have HR6 := Lib.hid (HRe.out.below hb6)
            have Hw6 := Lib.hid (Hwe.out.below hb6)
            (try go_simp)
            refine hK.out _ _ ⟨HD6.out, hF6.cells.2.1⟩ ?_
            clear hK K hb6 HWe HDe HFe HOe HRe Hwe HXe
            repeat (first | (refine CanT.skip rfl ?_ (fun K hK => ?_); (focus (go_simp; done)); go_simp; refine hK _ ?_; clear hK K) | (refine CanT.pur rfl ?_ ?_; (focus (go_simp; done)); refine ⟨?_, ?_, ?_⟩; rotate_left; (focus (intro w'; go_simp; rfl)); (focus (intro K hK; go_simp; refine hK _ ?_; clear hK K))))
            obtain ⟨q0, q1, q2, qz, -⟩ := hF6.cells
            refine CanT.last rfl (fun K hK => ?_)
            go_simp
            refine hK.out _ _ ?_
            clear hK K
            refine CanT.done ?_
            have hB6 : ∀ g, some N = some g → ∃ t cs, Blk w6 g t cs ∧ 5 ≠ t := fun g hg => by injection hg with hg; subst hg; exact ⟨_, _, hF6.1, rdec_ne⟩
            have hg7 := only_set w6 N 1 (.int .i64 (m + y))
            have hne7 : u8.ownBlock = none ∨ u8.ownBlock ≠ some N := .inr fun hh => by
              obtain ⟨cs, hcs⟩ := own_blk HO6.out.1 _ hh
              exact hcs.ne_ hF6.1 rdop_ne rfl
            have HF7 : Hid (Fd (w6.setCell ⟨N, 1, none⟩ (.int .i64 (m + y))) N old (m + y) (.slice A' rl c') m0 (.slice BA bl bc)) := Lib.hid (hF6.setm (m + y))
            have HO7 := Lib.hid (HO6.out.grown hg7 hne7 hB6)
            have HR7' := Lib.hid (HR6.out.row hg7 hB6)
            have Hw7 := Lib.hid (Hw6.out.row hg7 hB6)
            have HW7 : Hid (Below w.heap.size w (w6.setCell ⟨N, 1, none⟩ (.int .i64 (m + y)))) := Lib.hid (HW6.out.setCell (by rw [HN.out]; exact Nat.le_refl _) _)
            have HD7 : Hid ((w6.setCell ⟨N, 1, none⟩ (.int .i64 (m + y))).rangeAt gx 0 [.bool X1, .int .i64 X2, .int .i64 X3, .slice D X4.length kk]) := Lib.hid fun jj v hv => (World.cell?_setCell_other _ _ _ _ (fun e => by have := Hgx.out; injection e with e1; omega)).trans (HD6.out jj v hv)
            clear hF6 hB6 hg7 hne7 HO6 HR6 Hw6 HW6 HD6 q0 q1 q2 qz
            generalize w6.setCell ⟨N, 1, none⟩ (.int .i64 (m + y)) = wm at *
            have hsl := fun w' => sl_l (P := Try.prog) 22 5 i0 Try.underlying22 Hi0.out A' rl c' (u : Int) u rfl hun w'
            have hrt9 := rt_cut HR7'.out (k := u) (cap := c') (by rw [← Hrl.out]; exact hrc)
            obtain ⟨A9, hA9⟩ : ∃ A9, A9 = if c' = u then A' else A'.map (·.add u) := ⟨_, rfl⟩
            obtain ⟨n9, hn9⟩ : ∃ n9, n9 = rl - u := ⟨_, rfl⟩
            obtain ⟨c9, hc9⟩ : ∃ c9, c9 = c' - u := ⟨_, rfl⟩
            rw [← hA9, ← hn9, ← hc9] at hsl
            rw [← hA9] at hrt9
            have Hn9 := Lib.hid hn9
            have Hc9 := Lib.hid hc9
            obtain ⟨q0, q1, q2, qz, -⟩ := HF7.out.cells
            have hB8 : ∀ g, some N = some g → ∃ t cs, Blk wm g t cs ∧ 5 ≠ t := fun g hg => by injection hg with hg; subst hg; exact ⟨_, _, HF7.out.1, rdec_ne⟩
            have hg8 := only_set wm N 2 (.slice A9 n9 c9)
            have hne8 : u8.ownBlock = none ∨ u8.ownBlock ≠ some N := .inr fun hh => by
              obtain ⟨cs, hcs⟩ := own_blk HO7.out.1 _ hh
              exact hcs.ne_ HF7.out.1 rdop_ne rfl
            have HF8 : Hid (Fd (wm.setCell ⟨N, 2, none⟩ (.slice A9 n9 c9)) N old (m + y) (.slice A9 n9 c9) m0 (.slice BA bl bc)) := Lib.hid (HF7.out.setb _)
            have HO8 := Lib.hid (HO7.out.grown hg8 hne8 hB8)
            have HQ8 := Lib.hid (hrt9.row hg8 hB8)
            have Hw8 := Lib.hid (Hw7.out.row hg8 hB8)
            have HW8 : Hid (Below w.heap.size w (wm.setCell ⟨N, 2, none⟩ (.slice A9 n9 c9))) := Lib.hid (HW7.out.setCell (by rw [HN.out]; exact Nat.le_refl _) _)
            have HD8 : Hid ((wm.setCell ⟨N, 2, none⟩ (.slice A9 n9 c9)).rangeAt gx 0 [.bool X1, .int .i64 X2, .int .i64 X3, .slice D X4.length kk]) := Lib.hid fun jj v hv => (World.cell?_setCell_other _ _ _ _ (fun e => by have := Hgx.out; injection e with e1; omega)).trans (HD7.out jj v hv)
            clear hA9 hn9 hc9 hrt9 hB8 hg8 hne8 HF7 HO7 HR7' Hw7 HW7 HD7
            go_wp2_with (first
              | (refine wpList_load_mid rfl 54 (.tmp 9) rfl gx 0 rfl [.bool X1, .int .i64 X2, .int .i64 X3, .slice D X4.length kk] _ HD8.out Try.underlying54 rfl (by kernel_rfl) ?_)
              | (refine wpList_bslice _ rfl 23 54 1 _ rfl Try.underlying23 iO 4 48 Hi.out (by omega) (by omega) [(0, .agg #[.bool X1, .int .i64 X2, .int .i64 X3, .slice D X4.length kk])] rfl [.bool X1, .int .i64 X2, .int .i64 X3, .slice D X4.length kk] (fun Z hZ => fill_one 4 (.agg #[.bool X1, .int .i64 X2, .int .i64 X3, .slice D X4.length kk]) rfl Z hZ) ?_)
              | (at_builtin; go_loud (refine wpList_appR _ rfl (.tmp 72) (.tmp 74) 23 rfl w.heap.size 54 iO 48 Try.underlying23 Hi.out (by omega) _ _ rfl (HO8.out.alloc _).1 _ _ 1 1 [(⟨X1, X2, X3, X4⟩, D, kk)] rfl rfl (lit_op _ _ _ _ _ _) (by have := HML.out; simp; omega) (by have := HML.out; simp; omega) (Nat.le_trans HW8.out.size (by simp)) ?_); intro v9 w9 ho9 hg9 _ hb9))
            have hal := (Below.refl (wm.setCell ⟨N, 2, none⟩ (.slice A9 n9 c9)).heap.size (wm.setCell ⟨N, 2, none⟩ (.slice A9 n9 c9))).alloc (Nat.le_refl _) (.cells #[.bool X1, .int .i64 X2, .int .i64 X3, .slice D X4.length kk] 54)
            have hob : ∀ g', u8.ownBlock = some g' → ∃ cs, Blk ((wm.setCell ⟨N, 2, none⟩ (.slice A9 n9 c9)).alloc (.cells #[.bool X1, .int .i64 X2, .int .i64 X3, .slice D X4.length kk] 54)) g' 54 cs := own_blk (HO8.out.alloc _).1
            have HO9 := Lib.hid ((HO8.out.alloc _).app ho9 hg9 (fun yy hy => by simp at hy; subst hy; exact Hw8.out.below hal))
            have HB9 := Lib.hid ((HW8.out.alloc HW8.out.size (.cells #[.bool X1, .int .i64 X2, .int .i64 X3, .slice D X4.length kk] 54)).trans hb9)
            have HR9 : Hid (RT w9 A9 (r.drop u)) := Lib.hid ((HQ8.out.below hal).row hg9 (fun g' hg' => by obtain ⟨cs, hcs⟩ := hob g' hg'; exact ⟨_, cs, hcs, op_ne⟩))
            have HF9 : Hid (Fd w9 N old (m + y) (.slice A9 n9 c9) m0 (.slice BA bl bc)) := Lib.hid ((HF8.out.below hal).row hg9 (fun g' hg' => by obtain ⟨cs, hcs⟩ := hob g' hg'; exact ⟨_, cs, hcs, rdop_ne⟩))
            clear ho9 hg9 hb9 hal hob HO8 HQ8 HF8 HD8 Hw8 q0 q1 q2 qz
            go_wp2_with fail
            go_roundg n9
            case rel =>
              have hl9 : (r.drop u).length = n9 := by rw [List.length_drop, Hn9.out, Hrl.out]
              exact ⟨r.drop u, A9, c9, m + y, M ++ [(⟨X1, X2, X3, X4⟩, D, kk)], f, hl9.symm, by rw [hl9, Hn9.out, Hc9.out]; omega, by have := Hc9.out; omega, HR9.out, by rw [hl9]; exact HF9.out, by omega, by omega, HO9.out, by have := HML.out; have := Hrl.out; have := Hn9.out; rw [hl9]; simp; omega, by have := Hrf.out; have := Hrl.out; have := Hn9.out; rw [hl9]; omega, by rw [Hgo2.out]; simp [ops], HB9.out⟩
            case measure => have := Hq.out; have := Hn9.out; omega
          · have t9 : 65536 - m < y := by omega
            repeat (first | (refine CanT.skip rfl ?_ (fun K hK => ?_); (focus (go_simp; done)); go_simp; refine hK _ ?_; clear hK K) | (refine CanT.pur rfl ?_ ?_; (focus (go_simp; done)); refine ⟨?_, ?_, ?_⟩; rotate_left; (focus (intro w'; go_simp; rfl)); (focus (intro K hK; go_simp; refine hK _ ?_; clear hK K))))
            refine CanT.done ?_
            have hst := Hst.out (fun h => hyr h.2.2)
            have hst : (o2, m2, r2, e2) = ([], m, r, 5) := by
              simpa [hu] using hst
            injection hst with h1 hst
            injection hst with h2 hst
            injection hst with h3 h4
            subst h1 h2 h3 h4
            have hfe := Hfe.out
            rw [if_pos (show (5 : Int) ≠ 0 by omega)] at hfe
            have Hf2 := Lib.hid hfe
            have kq : w5.cell? ⟨N + 1 + 1, 3, none⟩ = some (.int .i64 0) := by rw [Blk.cell HF5.out.2.2]; rfl
            have kqz := Blk.frozen HF5.out.2.2
            have hB9 : Blk (w5.setCell ⟨N + 1 + 1, 3, none⟩ (.int .i64 5)) (N + 1 + 1) 37 #[.int .i64 old, .int .i64 m0, .slice BA bl bc, .int .i64 5] := Blk.set_ HF5.out.2.2 3 _
            have hX9 : (w5.setCell ⟨N + 1 + 1, 3, none⟩ (.int .i64 5)).rangeAt (N + 1 + 1) 0 [.int .i64 old, .int .i64 m0, .slice BA bl bc, .int .i64 5] := fun j v hv => by rw [Blk.cell hB9, Nat.zero_add]; simpa using hv
            have hR9 : Blk (w5.setCell ⟨N + 1 + 1, 3, none⟩ (.int .i64 5)) (N + 1) 37 #[.int .i64 0, .int .i64 0, .slice none 0 0, .int .i64 0] := HF5.out.2.1.far (by simp) _
            have hW9 : Below w.heap.size w (w5.setCell ⟨N + 1 + 1, 3, none⟩ (.int .i64 5)) := HW5.out.setCell (by have := HN.out; simp; omega) _
            have HX9 := Lib.hid hX9
            have HR9 := Lib.hid hR9
            have HW9 := Lib.hid hW9
            clear hfe hB9 hX9 hR9 hW9
            go_wp2_with (first | (refine wpList_load_mid rfl 37 (.tmp 7) rfl (N + 1 + 1) 0 rfl [.int .i64 old, .int .i64 m0, .slice BA bl bc, .int .i64 5] _ HX9.out Try.underlying37 rfl (by kernel_rfl) ?_) | (refine Sm.wpList_store_blk rfl 37 (.tmp 4) (.tmp 57) rfl (N + 1) 0 37 [] [.int .i64 0, .int .i64 0, .slice none 0 0, .int .i64 0] [] [.int .i64 old, .int .i64 m0, .slice BA bl bc, .int .i64 5] rfl rfl HR9.out rfl rfl (by kernel_rfl) (fun u hu => by simp only [List.mem_cons, List.not_mem_nil, or_false] at hu; rcases hu with rfl | rfl | rfl | rfl <;> rfl) ?_; intro w4 hS4 hg4))
            refine bodyPost_ret (rfeed_results _ w4 (N + 1) #[.int .i64 old, .int .i64 m0, .slice BA bl bc, .int .i64 5] (by simpa using hS4) rfl rfl) rfl ?_
            have hW10 := HW9.out.trans (below_of_only hg4 (by rw [HN.out]; omega) HW9.out.size)
            refine ⟨hW10, BA, bc, _, [], by rw [Hf2.out, Hbl.out]; rfl, OwnO.nil, by rw [Hf2.out]; rfl, by rw [Hf2.out]; show b.length ≤ bc; rw [← Hbl.out]; exact hbc, hbm, by rw [Hf2.out]; exact Hb.out.below hW10⟩
      · have t9 : (e1 == 0) = false := by simpa using he1
        repeat (first | (refine CanT.skip rfl ?_ (fun K hK => ?_); (focus (go_simp; done)); go_simp; refine hK _ ?_; clear hK K) | (refine CanT.pur rfl ?_ ?_; (focus (go_simp; done)); refine ⟨?_, ?_, ?_⟩; rotate_left; (focus (intro w'; go_simp; rfl)); (focus (intro K hK; go_simp; refine hK _ ?_; clear hK K))) | (refine CanT.heldR rfl ?_ 54 _ rfl gx (0) ([.bool X1, .int .i64 X2, .int .i64 X3, .slice D X4.length kk]) rfl (fun w1 h => h.1) _ Try.underlying54 rfl (by kernel_rfl) (fun K hK => ?_); (focus (go_simp; done)); go_simp; refine hK _ ?_; clear hK K) | (refine CanT.cellG rfl ?_ (.int .i64 m) (.int .i64 m) ⟨N, 1, none⟩ (fun w1 h => h.2) ?_ (fun K hK => ?_); (focus (go_simp; done)); (focus (intro w' hc'; go_simp; (try rfl))); go_simp; refine hK _ ?_; clear hK K))
        refine CanT.done ?_
        have hst := Hst.out (fun h => he1 h.1)
        have hst : (o2, m2, r2, e2) = ([], m, r, e1) := by
          rw [if_pos (show e1 ≠ 0 from he1), if_pos (show e1 ≠ 0 from he1)] at hst
          exact hst
        injection hst with h1 hst
        injection hst with h2 hst
        injection hst with h3 h4
        subst h1 h2 h3 h4
        have hfe := Hfe.out
        rw [if_pos he1] at hfe
        have Hf2 := Lib.hid hfe
        have kq : wd.cell? ⟨N + 1 + 1, 3, none⟩ = some (.int .i64 0) := by rw [Blk.cell HFd.out.2.2]; rfl
        have kqz := Blk.frozen HFd.out.2.2
        have hB9 : Blk (wd.setCell ⟨N + 1 + 1, 3, none⟩ (.int .i64 e2)) (N + 1 + 1) 37 #[.int .i64 old, .int .i64 m0, .slice BA bl bc, .int .i64 e2] := Blk.set_ HFd.out.2.2 3 _
        have hX9 : (wd.setCell ⟨N + 1 + 1, 3, none⟩ (.int .i64 e2)).rangeAt (N + 1 + 1) 0 [.int .i64 old, .int .i64 m0, .slice BA bl bc, .int .i64 e2] := fun j v hv => by rw [Blk.cell hB9, Nat.zero_add]; simpa using hv
        have hR9 : Blk (wd.setCell ⟨N + 1 + 1, 3, none⟩ (.int .i64 e2)) (N + 1) 37 #[.int .i64 0, .int .i64 0, .slice none 0 0, .int .i64 0] := HFd.out.2.1.far (by simp) _
        have hW9 : Below w.heap.size w (wd.setCell ⟨N + 1 + 1, 3, none⟩ (.int .i64 e2)) := HWd.out.setCell (by have := HN.out; simp; omega) _
        have HX9 := Lib.hid hX9
        have HR9 := Lib.hid hR9
        have HW9 := Lib.hid hW9
        clear hfe hB9 hX9 hR9 hW9
        go_wp2_with (first | (refine wpList_load_mid rfl 37 (.tmp 7) rfl (N + 1 + 1) 0 rfl [.int .i64 old, .int .i64 m0, .slice BA bl bc, .int .i64 e2] _ HX9.out Try.underlying37 rfl (by kernel_rfl) ?_) | (refine Sm.wpList_store_blk rfl 37 (.tmp 4) (.tmp 57) rfl (N + 1) 0 37 [] [.int .i64 0, .int .i64 0, .slice none 0 0, .int .i64 0] [] [.int .i64 old, .int .i64 m0, .slice BA bl bc, .int .i64 e2] rfl rfl HR9.out rfl rfl (by kernel_rfl) (fun u hu => by simp only [List.mem_cons, List.not_mem_nil, or_false] at hu; rcases hu with rfl | rfl | rfl | rfl <;> rfl) ?_; intro w4 hS4 hg4))
        refine bodyPost_ret (rfeed_results _ w4 (N + 1) #[.int .i64 old, .int .i64 m0, .slice BA bl bc, .int .i64 e2] (by simpa using hS4) rfl rfl) rfl ?_
        have hW10 := HW9.out.trans (below_of_only hg4 (by rw [HN.out]; omega) HW9.out.size)
        refine ⟨hW10, BA, bc, _, [], by rw [Hf2.out, Hbl.out]; rfl, OwnO.nil, by rw [Hf2.out]; rfl, by rw [Hf2.out]; show b.length ≤ bc; rw [← Hbl.out]; exact hbc, hbm, by rw [Hf2.out]; exact Hb.out.below hW10⟩
    · have hre : r = [] := List.eq_nil_of_length_eq_zero (by have := Hrl.out; omega)
      have hst := loop_stop old f (ops M) m r (by rw [hre]; exact fun h => h.2.1 rfl)
      rw [Hlp2.out] at hst
      have hst : (o2, m2, r2, e2) = (ops M, m, r, 0) := by
        rw [if_neg (by rw [hre]; unfold takeE; rw [one_nil]; simp)] at hst
        exact hst
      clear hre
      injection hst with h1 hst
      injection hst with h2 hst
      injection hst with h3 h4
      subst h1 h2 h3 h4
      have hfe := Hfe.out
      rw [if_neg (show ¬ ((0 : Int) ≠ 0) by simp)] at hfe
      have Hf2 := Lib.hid hfe
      have HX9 := Lib.hid HF.out.cells.2.2.2.2
      clear hfe
      go_wp2_with (first | (refine wpList_load_mid rfl 37 (.tmp 2) rfl N 0 rfl [.int .i64 old, .int .i64 m2, .slice A' rl c', .int .i64 0] _ HX9.out Try.underlying37 rfl (by kernel_rfl) ?_) | (refine Sm.wpList_store_blk rfl 37 (.tmp 4) (.tmp 76) rfl (N + 1) 0 37 [] [.int .i64 0, .int .i64 0, .slice none 0 0, .int .i64 0] [] [.int .i64 old, .int .i64 m2, .slice A' rl c', .int .i64 0] rfl rfl HF.out.2.1 rfl rfl (by kernel_rfl) (fun u hu => by simp only [List.mem_cons, List.not_mem_nil, or_false] at hu; rcases hu with rfl | rfl | rfl | rfl <;> rfl) ?_; intro w4 hS4 hg4))
      refine bodyPost_ret (rfeed_results _ w4 (N + 1) #[.int .i64 old, .int .i64 m2, .slice A' rl c', .int .i64 0] (by simpa using hS4) rfl rfl) rfl ?_
      obtain ⟨hk1, hk2⟩ := fd_keep HF.out hg4
      refine ⟨HW.out.trans (below_of_only hg4 (by rw [HN.out]; omega) HW.out.size), A', c', _, M, by rw [Hf2.out, Hrl.out]; rfl, hk1 _ _ _ HO.out, by rw [Hf2.out], by rw [Hf2.out]; show r2.length ≤ c'; rw [← Hrl.out]; exact hrc, hcc, by rw [Hf2.out]; exact hk2 _ _ HRt.out⟩

end Dl
end Go.Proofs.Ytiofkhjpknfkgaa
