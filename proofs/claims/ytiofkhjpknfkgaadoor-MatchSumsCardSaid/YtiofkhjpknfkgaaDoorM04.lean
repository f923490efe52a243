/- A search of the program: its state; bytes are told. -/
import Derived.Test.YtiofkhjpknfkgaaDoorM01
import Derived.Test.YtiofkhjpknfkgaaDoorM02
import Derived.Test.YtiofkhjpknfkgaaDoorM03
namespace Go.Proofs.YtiofkhjpknfkgaaDoor
namespace Ms
open Go.RowKit Ba Tm Os_
set_option linter.unusedVariables false
theorem sl_lhA {P : Program} (t e : TypeId) (i : TypeInfo) (hu : P.underlying t = some (.slice e)) (hi : IsByte P e i) (A : Option Addr) (n cap : Nat) (l h : Int) (p q : Nat) (hl : l = p) (hh : h = q) (h1 : p ≤ q) (h2 : q ≤ cap) (w : World) :
    (Instr.slice t (.slice A n cap) (some (.int .i64 l)) (some (.int .i64 h)) none).run P w = .ok (.slice (if cap = p then A else A.map (·.add p)) (q - p) (cap - p)) w := by
  subst hl hh
  rw [run_slice_lh w t A n cap (by rw [elem_of hu]; exact hu) .i64 .i64 (p : Int) (q : Int) (by omega) (by omega) (by omega), elem_of hu]
  have hs : (sizeOf e).run P w = .ok 1 w := by simp [sizeOf, typeInfo, hi.1, hi.2.2.1]
  rw [hs]
  simp only [Result.andThen_ok, sliced]
  have e1 : (q : Int).toNat - (p : Int).toNat = q - p := by omega
  have e2 : (p : Int).toNat = p := by omega
  rw [e1, e2, Nat.mul_one]
/-- operations that are written out -/
theorem own1 (w : World) (base : Nat) (hb : base ≤ w.heap.size) (x : Ow) : OwnRow opv 4 (w.alloc (.cells (opv x).toArray 40)) base 40 (.slice (some ⟨w.heap.size, 0, none⟩) 1 1) [x] := by
  refine ⟨RWf.one (opv_len x) (opv_one x), by rw [rows_one]; rfl, .inr ⟨w.heap.size, 1, (opv x).toArray, rfl, hb, heap_alloc_new w _, Nat.le_refl _, by unfold maxLen; omega, by rfl, ?_⟩⟩
  rw [rows_one]
  rfl
set_option maxRecDepth 100000 in
set_option maxHeartbeats 2000000 in
theorem whole_calls (b : List UInt8) (A : Option Addr) (n c : Nat) (hn : n = b.length) (hc : b.length ≤ c) (hl : b.length ≤ 1000000) (w : World) (h : ReadB w w.heap.size A b) :
    Calls Tryd.prog 20 #[.slice A n c] w fun e w' => ∃ v M, e = .returned v ∧ OwnO w' w.heap.size v M ∧ ops M = whole b ∧ Below w.heap.size w w' := by
  obtain ⟨iO, hiO⟩ := isOp
  have Hi := Lib.hid hiO
  by_cases h0 : n = 0
  · have He := Lib.hid (whole_nil b (by omega))
    subst h0
    clear hn hiO
    go_enter Tryd.func20, Tryd.ntmps20
    go_wp2_with fail
    go_ret
    exact ⟨_, [], rfl, OwnO.nil, He.out.symm, Below.refl _ _⟩
  · have hcl := Cl.cloneN hn hc (by omega) h
    have Hcl := Lib.hid hcl
    have he : whole b = [lit b] := if_neg (by omega)
    have He := Lib.hid he
    have hz : ¬ (n : Int) = 0 := by omega
    have Hn := Lib.hid hn
    clear hcl he hn h hiO
    go_enter Tryd.func20, Tryd.ntmps20
    go_wp2_with fail
    refine Calls.mono Hcl.out ?_
    rintro e1 w1 ⟨v1, rfl, ho1, hb1⟩
    obtain ⟨A1, c1, rfl, p1, m1, -, -⟩ := ho1.opens
    have Hrt := Lib.hid (RT.of_own ho1)
    have Hb1 := Lib.hid hb1
    have Hp1 := Lib.hid p1
    have Hm1 := Lib.hid m1
    clear ho1 hb1 p1 m1
    go_wp2_with (refine wpList_bslice _ rfl 31 40 1 _ rfl Tryd.underlying31 iO 4 48 Hi.out (by omega) (by omega) [(0, .agg #[.bool false, .int .i64 0, .int .i64 0, .slice A1 b.length c1])] rfl [.bool false, .int .i64 0, .int .i64 0, .slice A1 b.length c1] (fun Z hZ => fill_one 4 (.agg #[.bool false, .int .i64 0, .int .i64 0, .slice A1 b.length c1]) rfl Z hZ) ?_)
    go_ret
    refine ⟨_, [(lit b, A1, c1)], rfl, ⟨own1 w1 w.heap.size Hb1.out.size (lit b, A1, c1), fun x hx => ?_⟩, by rw [He.out]; rfl, Hb1.out.alloc Hb1.out.size _⟩
    rw [List.mem_singleton] at hx
    subst hx
    exact WfT.below (w := w1) ⟨by simp [lit], by simp [lit], Hp1.out, Hm1.out, Hrt.out⟩ ((Below.refl _ _).alloc (Nat.le_refl _) _)
/-- a search's state in block g: the new file, the place from which on nothing is told yet, what is -/
def IsF (w : World) (base g : Nat) (A : Option Addr) (n c frm : Nat) (L : List Ow) : Prop :=
  base ≤ g ∧ ∃ u, Blk w g 64 #[.slice A n c, .int .i64 (frm : Int), u] ∧ OwnO w base u L
theorem fdr_ne : (5 : TypeId) ≠ 64 := by decide
theorem fop_ne : (40 : TypeId) ≠ 64 := by decide
section
variable {w w' : World} {base g : Nat} {A : Option Addr} {n c frm : Nat} {L : List Ow}
theorem IsF.lt (h : IsF w base g A n c frm L) : g < w.heap.size := by obtain ⟨_, u, h, _⟩ := h; exact h.lt
theorem IsF.below (h : IsF w base g A n c frm L) (hb : Below w.heap.size w w') : IsF w' base g A n c frm L := by
  obtain ⟨h0, u, h1, h2⟩ := h
  exact ⟨h0, u, h1.below hb h1.lt, h2.keptB hb⟩
end
theorem ownO_ne {w : World} {base g : Nat} {u : Value} {L : List Ow} {t : TypeId} {cs : Array Value} (ho : OwnO w base u L) (hB : Blk w g t cs) (hne : (40 : TypeId) ≠ t) : u.ownBlock ≠ some g := fun e => by
  obtain ⟨cs', h'⟩ := own_blk ho.1 g e
  exact Blk.ne_ h' hB hne rfl
theorem ownO_far {w : World} {base g i : Nat} {u x : Value} {L : List Ow} {t : TypeId} {cs : Array Value} (ho : OwnO w base u L) (hB : Blk w g t cs) (hne : (40 : TypeId) ≠ t) (hne2 : (5 : TypeId) ≠ t) : OwnO (w.setCell ⟨g, i, none⟩ x) base u L :=
  ho.grown (only_set w g i x) (.inr (ownO_ne ho hB hne)) (fun g' hg' => by injection hg' with hg'; subst hg'; exact ⟨_, _, hB, hne2⟩)
set_option maxRecDepth 100000 in
set_option maxHeartbeats 4000000 in
theorem literal_calls {w : World} {base g : Nat} {A : Option Addr} {n c frm : Nat} {L : List Ow} (h : IsF w base g A n c frm L) (b : List UInt8) (hn : n = b.length) (hc : n ≤ c) (hcm : c ≤ 9223372036854775807) (hr : ReadB w base A b) (hbl : n ≤ 1000000) (to : Nat) (h1 : frm ≤ to) (h2 : to ≤ n) (hL : L.length ≤ 1000000) :
    Calls Tryd.prog 37 #[.pointer (some ⟨g, 0, none⟩), .int .i64 (to : Int)] w fun e w' => e = .returned (.tuple #[]) ∧ ∃ M, IsF w' base g A n c to (L ++ M) ∧ ops M = whole (cut b frm to) ∧ Below base w w' := by
  obtain ⟨hbg, u, hB, ho⟩ := h
  obtain ⟨iO, hiO⟩ := isOp
  obtain ⟨i0, hi0⟩ := isByte_of Cl.info5
  have Hi := Lib.hid hiO
  have Hi0 := Lib.hid hi0
  have hbw : base ≤ w.heap.size := Nat.le_trans hbg (Nat.le_of_lt hB.lt)
  obtain ⟨A2, hA2⟩ : ∃ A2, A2 = if c = frm then A else A.map (·.add frm) := ⟨_, rfl⟩
  obtain ⟨c2, hc2⟩ : ∃ c2, c2 = c - frm := ⟨_, rfl⟩
  obtain ⟨m2, hm2⟩ : ∃ m2, m2 = to - frm := ⟨_, rfl⟩
  have hsl := fun w' => sl_lhA (P := Tryd.prog) 22 5 i0 Tryd.underlying22 Hi0.out A n c (frm : Int) (to : Int) frm to rfl rfl h1 (by omega) w'
  rw [← hA2, ← hc2, ← hm2] at hsl
  have hml : m2 = (cut b frm to).length := by rw [cut_len b frm to h1 (by omega)]; exact hm2
  have hrA : ReadB w base A2 (cut b frm to) := by
    rw [hA2]
    exact (hr.cut (by omega)).take _
  have hwh := whole_calls (cut b frm to) A2 m2 c2 hml (by omega) (by omega)
  have Hml := Lib.hid hml
  have HrA := Lib.hid hrA
  have Hwh := Lib.hid hwh
  have HB := Lib.hid hB
  have HO := Lib.hid ho
  have Hne := Lib.hid (ownO_ne ho hB fop_ne)
  have Hbw := Lib.hid hbw
  have Hbg := Lib.hid hbg
  have HL := Lib.hid hL
  obtain ⟨W1, hW1⟩ : ∃ W1, W1 = whole (cut b frm to) := ⟨_, rfl⟩
  have HW1 := Lib.hid hW1
  rw [← hW1] at Hwh ⊢
  have Hn := Lib.hid hn
  clear hn hA2 hc2 hm2 hml hrA hwh hB ho hbw hr hi0 hiO hbg hL hW1
  go_enter Tryd.func37, Tryd.ntmps37
  go_wp2_with fail
  have HBd : Hid (Blk w.drew g 64 #[.slice A n c, .int .i64 (frm : Int), u]) := HB
  have HOd : Hid (OwnO w.drew base u L) := HO
  have HrAd : Hid (ReadB w.drew base A2 (cut b frm to)) := HrA
  have Hbwd : Hid (base ≤ w.drew.heap.size) := Hbw
  have Hd : Hid (Below base w w.drew) := Lib.hid (Below.refl _ _).drew
  refine CanT.region (fun w' => Blk w' g 64 #[.slice A n c, .int .i64 (frm : Int), u]) 19 (.op 0 2 (.op 1 2 (.op 2 2 (.op 3 2 (.op 4 1 (.op 5 2 (.op 6 2 (.op 7 2 (.op 8 1 (.op 9 2 (.op 10 2 (.op 11 2 (.op 12 1 (.op 13 2 (.op 14 2 (.op 15 0 (.op 16 0 (.op 17 2 (.op 18 2 (.op 19 0 (.nil))))))))))))))))))))) (by kernel_rfl) (by kernel_rfl) HBd.out ?_
  generalize w.drew = W at *
  repeat (first | (refine CanT.skip rfl ?_ (fun K hK => ?_); (focus (go_simp; done)); go_simp; refine hK _ ?_; clear hK K) | (refine CanT.pur rfl ?_ ?_; (focus (go_simp; done)); refine ⟨?_, ?_, ?_⟩; rotate_left; (focus (intro w'; go_simp; rfl)); (focus (intro K hK; go_simp; refine hK _ ?_; clear hK K))) | (refine CanT.cellG rfl ?_ (.slice A n c) (.slice A n c) ⟨g, 0, none⟩ (fun w' h => by rw [Blk.cell h]; rfl) ?_ (fun K hK => ?_); (focus (go_simp; done)); (focus (intro w' hc'; go_simp; (try rfl))); go_simp; refine hK _ ?_; clear hK K) | (refine CanT.cellG rfl ?_ (.int .i64 (frm : Int)) (.int .i64 (frm : Int)) ⟨g, 1, none⟩ (fun w' h => by rw [Blk.cell h]; rfl) ?_ (fun K hK => ?_); (focus (go_simp; done)); (focus (intro w' hc'; go_simp; (try rfl))); go_simp; refine hK _ ?_; clear hK K) | (refine CanT.cellG rfl ?_ (u) (u) ⟨g, 2, none⟩ (fun w' h => by rw [Blk.cell h]; rfl) ?_ (fun K hK => ?_); (focus (go_simp; done)); (focus (intro w' hc'; go_simp; (try rfl))); go_simp; refine hK _ ?_; clear hK K))
  refine CanT.imp rfl (fun K hK => ?_)
  go_simp
  refine (Hwh.out W (HrAd.out.more Hbwd.out)).mono ?_
  rintro e w1 ⟨v1, M, rfl, ho1, hM1, hb1⟩
  obtain ⟨A3, c3, rfl, p3, m3, q3, -⟩ := ho1.opens
  have hml1 : M.length ≤ 1 := by rw [← ops_len, hM1, HW1.out]; exact whole_len _
  have HO1 := Lib.hid ho1
  have HM1 := Lib.hid hM1
  have HB1 := Lib.hid (HBd.out.below hb1 HBd.out.lt)
  have HOf := Lib.hid (HOd.out.keptB hb1)
  have HD1 := Lib.hid (Hd.out.trans (hb1.mono Hbwd.out))
  have HR3 := Lib.hid q3
  have Hs1 : Hid (base ≤ w1.heap.size) := Lib.hid (Nat.le_trans Hbwd.out hb1.size)
  have Hml1 := Lib.hid hml1
  clear ho1 hM1 hb1 p3 m3 q3 hml1
  (try go_simp)
  refine hK.out _ _ HB1.out ?_
  clear hK K
  refine CanT.imp rfl (fun K hK => ?_)
  refine step_appR _ ?_ (.tmp 8) (.tmp 19) 31 rfl base 40 iO 48 Tryd.underlying31 Hi.out (by omega) u L rfl HOf.out.1 w1.heap.size A3 M.length c3 M rfl rfl HR3.out.1 (by have := HL.out; have := Hml1.out; omega) (by have := HL.out; have := Hml1.out; omega) Hs1.out ?_
  focus (go_simp; done)
  intro v4 w4 ho4 hg4 _ hb4
  have HB4 := Lib.hid (HB1.out.grown hg4 (fun e => Hne.out e.symm))
  have HO4 := Lib.hid (HOf.out.app ho4 hg4 (fun x hx => HO1.out.2 x hx))
  have HD4 := Lib.hid (HD1.out.trans hb4)
  clear ho4 hg4 hb4
  obtain ⟨A4, n4, c4, hv4⟩ : ∃ A4 n4 c4, v4 = .slice A4 n4 c4 := by obtain ⟨A4, c4, e4, -⟩ := HO4.out.opens; exact ⟨A4, _, c4, e4⟩
  subst hv4
  (try go_simp)
  refine hK.out _ _ HB4.out ?_
  clear hK K
  repeat (first | (refine CanT.skip rfl ?_ (fun K hK => ?_); (focus (go_simp; done)); go_simp; refine hK _ ?_; clear hK K) | (refine CanT.pur rfl ?_ ?_; (focus (go_simp; done)); refine ⟨?_, ?_, ?_⟩; rotate_left; (focus (intro w'; go_simp; rfl)); (focus (intro K hK; go_simp; refine hK _ ?_; clear hK K))))
  have hc2 : w4.cell? ⟨g, 2, none⟩ = some u := by rw [Blk.cell HB4.out]; rfl
  have hfz := Blk.frozen HB4.out
  refine CanT.last rfl (fun K hK => ?_)
  go_simp
  refine hK.out _ _ ?_
  clear hK K
  refine CanT.done ?_
  have HB5 : Hid (Blk (w4.setCell ⟨g, 2, none⟩ (.slice A4 n4 c4)) g 64 #[.slice A n c, .int .i64 (frm : Int), (.slice A4 n4 c4)]) := Lib.hid (Blk.set_ HB4.out 2 (.slice A4 n4 c4))
  have HO5 : Hid (OwnO (w4.setCell ⟨g, 2, none⟩ (.slice A4 n4 c4)) base (.slice A4 n4 c4) (L ++ M)) := Lib.hid (ownO_far HO4.out HB4.out fop_ne fdr_ne)
  have HD5 : Hid (Below base w (w4.setCell ⟨g, 2, none⟩ (.slice A4 n4 c4))) := Lib.hid (HD4.out.setCell (p := ⟨g, 2, none⟩) Hbg.out (.slice A4 n4 c4))
  have hc1 : w4.cell? ⟨g, 1, none⟩ = some (.int .i64 (frm : Int)) := by rw [Blk.cell HB4.out]; rfl
  have hc1' : (w4.setCell ⟨g, 2, none⟩ (.slice A4 n4 c4)).cell? ⟨g, 1, none⟩ = some (.int .i64 (frm : Int)) := by rw [Blk.cell HB5.out]; rfl
  have hfz' := Blk.frozen HB5.out
  go_wp2_with fail
  refine bodyPost_end (results_none rfl _ _ _) rfl ?_
  exact ⟨rfl, M, ⟨Hbg.out, (.slice A4 n4 c4), Blk.set_ HB5.out 1 (.int .i64 (to : Int)), ownO_far HO5.out HB5.out fop_ne fdr_ne⟩, HM1.out, HD5.out.setCell (p := ⟨g, 1, none⟩) Hbg.out _⟩
end Ms
end Go.Proofs.YtiofkhjpknfkgaaDoor
/- Laws of the search: what it tells is the new file; of a file of whole blocks, copies alone; what stands ahead costs little. -/
namespace Go.Proofs.YtiofkhjpknfkgaaDoor
namespace Tm
set_option linter.unusedVariables false
def osize (o : O) : Nat := if o.copy then o.n.toNat else o.data.length
/-- an operation tells what stands at a place of the new file -/
def okAt {α : Type} (S : List UInt8 → α) (old b : List UInt8) (z : Nat) (o : O) (p : Nat) : Prop :=
  if o.copy then ∃ N A : Nat, o.n = (N : Int) ∧ o.pos = (A : Int) ∧ z ≤ N ∧ N % z = 0 ∧ A % z = 0 ∧ A + N ≤ old.length ∧ p + N ≤ b.length ∧ ∀ k, k * z < N → S (cut old (A + k * z) (A + k * z + z)) = S (cut b (p + k * z) (p + k * z + z))
  else 0 < o.data.length ∧ p + o.data.length ≤ b.length ∧ o.data = cut b p (p + o.data.length)
def tiled {α : Type} (S : List UInt8 → α) (old b : List UInt8) (z : Nat) : List O → Nat → Nat → Prop
  | [], p, q => p = q
  | o :: l, p, q => okAt S old b z o p ∧ tiled S old b z l (p + osize o) q
section
variable {α : Type} {S : List UInt8 → α} {old b : List UInt8} {z : Nat}
theorem tiled_append (l r : List O) : ∀ p q, tiled S old b z (l ++ r) p q ↔ ∃ m, tiled S old b z l p m ∧ tiled S old b z r m q := by
  induction l with
  | nil => intro p q; simp [tiled]
  | cons o l ih =>
    intro p q
    simp only [List.cons_append, tiled, ih]
    constructor
    · rintro ⟨h, m, h1, h2⟩; exact ⟨m, ⟨h, h1⟩, h2⟩
    · rintro ⟨m, ⟨h, h1⟩, h2⟩; exact ⟨h, m, h1, h2⟩
theorem tiled_whole (d : List UInt8) (p q : Nat) (hq : q = p + d.length) (hb : q ≤ b.length) (hd : d = cut b p q) : tiled S old b z (whole d) p q := by
  unfold whole
  by_cases h : d.length = 0
  · rw [if_pos h]; show p = q; omega
  · rw [if_neg h]
    refine ⟨?_, ?_⟩
    · unfold okAt
      simp only [lit, Bool.false_eq_true, if_false]
      exact ⟨by omega, by omega, by rw [← hq]; exact hd⟩
    · show p + osize (lit d) = q
      simp [osize, lit]
      omega
/-- where a block is found, it has the sum of the bytes -/
def Finds (S : List UInt8 → α) (old : List UInt8) (z : Nat) (F : List UInt8 → Int × Bool) : Prop := ∀ x, x.length = z → (F x).2 = true → ∃ j : Nat, (F x).1 = ((j * z : Nat) : Int) ∧ j * z + z ≤ old.length ∧ S (cut old (j * z) (j * z + z)) = S x
theorem okAt_cp (hz : 1 ≤ z) (j p : Nat) (hj : j * z + z ≤ old.length) (hp : p + z ≤ b.length) (h : S (cut old (j * z) (j * z + z)) = S (cut b p (p + z))) : okAt S old b z (cp ((j * z : Nat) : Int) (z : Int)) p := by
  unfold okAt
  simp only [cp, if_true]
  refine ⟨z, j * z, rfl, rfl, Nat.le_refl _, Nat.mod_self z, Nat.mul_mod_left j z, hj, hp, fun k hk => ?_⟩
  have hk0 : k = 0 := by
    rcases Nat.eq_zero_or_pos k with h | h
    · exact h
    · have : 1 * z ≤ k * z := Nat.mul_le_mul_right z h
      omega
  subst hk0
  simpa using h
theorem okAt_grow (hz : 1 ≤ z) (o : O) (p j : Nat) (hc : o.copy = true) (h : okAt S old b z o p) (ha : o.pos + o.n = ((j * z : Nat) : Int)) (hj : j * z + z ≤ old.length) (hp : p + osize o + z ≤ b.length) (hs : S (cut old (j * z) (j * z + z)) = S (cut b (p + osize o) (p + osize o + z))) :
    okAt S old b z { o with n := o.n + z } p ∧ p + osize { o with n := o.n + (z : Int) } = p + osize o + z := by
  unfold okAt at h ⊢
  rw [if_pos hc] at h
  simp only [hc, if_true]
  obtain ⟨N, A, h1, h2, h3, h4, h5, h6, h7, h8⟩ := h
  have ho : osize o = N := by unfold osize; rw [if_pos hc, h1]; simp
  have hA : A + N = j * z := by rw [h1, h2] at ha; omega
  rw [ho] at hp hs ⊢
  refine ⟨⟨N + z, A, by rw [h1]; simp, h2, by omega, by rw [Nat.add_mod_right]; exact h4, h5, by omega, by omega, fun k hk => ?_⟩, ?_⟩
  · by_cases hkN : k * z < N
    · exact h8 k hkN
    · have hkk : k * z = N := by
        obtain ⟨m, hm⟩ := Nat.dvd_of_mod_eq_zero h4
        rw [Nat.mul_comm] at hm
        rw [hm] at hkN hk ⊢
        have e1 : m ≤ k := by
          rcases Nat.lt_or_ge k m with h | h
          · have : k * z < m * z := Nat.mul_lt_mul_of_pos_right h (by omega)
            omega
          · exact h
        have e2 : k < m + 1 := by
          rcases Nat.lt_or_ge k (m + 1) with h | h
          · exact h
          · have := Nat.mul_le_mul_right z h
            rw [Nat.add_mul, Nat.one_mul] at this
            omega
        have : k = m := by omega
        rw [this]
      rw [hkk, show A + N + z = j * z + z by omega, hA]
      exact hs
  · unfold osize
    simp only [hc, if_true]
    rw [h1]
    omega
theorem joins_spec {out : List O} {frm i : Nat} {a : Int} (h : joins out frm i a = true) : frm = i ∧ ∃ o, out.getLast? = some o ∧ o.copy = true ∧ o.pos + o.n = a := by
  unfold joins at h
  simp only [Bool.and_eq_true, decide_eq_true_eq] at h
  obtain ⟨h1, h2⟩ := h
  cases ho : out.getLast? with
  | none => rw [ho] at h2; cases h2
  | some o =>
    rw [ho] at h2
    simp only [Bool.and_eq_true, decide_eq_true_eq] at h2
    exact ⟨h1, o, rfl, h2.1, h2.2⟩
/-- copies and bytes together are just the new file -/
theorem tells (F : List UInt8 → Int × Bool) (hz : 1 ≤ z) (hF : Finds S old z F) (hb : b.length ≤ 2000) : tiled S old b z (search F z b) 0 b.length := by
  obtain ⟨i', hI, hend⟩ := srch_ind F z b hz (fun out frm i => tiled S old b z out 0 frm ∧ frm ≤ i ∧ i ≤ b.length ∧ out.length ≤ 2 * i)
    (fun out frm i h hib hf => by
      obtain ⟨h1, h2, h3, h4⟩ := h
      have hxl : (cut b i (i + z)).length = z := by rw [cut_len b i (i + z) (by omega) hib]; omega
      obtain ⟨j, hj1, hj2, hj3⟩ := hF _ hxl hf
      unfold put1
      cases hjn : joins out frm i (F (cut b i (i + z))).1 with
      | true =>
        simp only [if_true]
        obtain ⟨e1, o, ho, hc, ha⟩ := joins_spec hjn
        subst e1
        rw [hj1] at ha
        rw [grow_eq out o z ho]
        have hsp := last_split out o ho
        rw [hsp, tiled_append] at h1
        obtain ⟨m, t1, t2, t3⟩ := h1
        have t3 : m + osize o = frm := t3
        obtain ⟨g1, g2⟩ := okAt_grow hz o m j hc t2 ha hj2 (by omega) (by rw [t3]; exact hj3)
        refine ⟨?_, by omega, by omega, ?_⟩
        · rw [tiled_append]
          exact ⟨m, t1, g1, by show _ = _; omega⟩
        · rw [hsp] at h4
          simp at h4 ⊢
          omega
      | false =>
        simp only [Bool.false_eq_true, if_false]
        refine ⟨?_, by omega, by omega, ?_⟩
        · rw [tiled_append]
          refine ⟨i, ?_, ?_⟩
          · rw [tiled_append]
            exact ⟨frm, h1, tiled_whole _ frm i (by rw [cut_len b frm i h2 h3]; omega) h3 rfl⟩
          · rw [hj1]
            exact ⟨okAt_cp hz j i hj2 hib hj3, by show i + osize (cp _ _) = i + z; simp [osize, cp]⟩
        · have := whole_len (cut b frm i)
          simp
          omega)
    (fun out frm i h hib hf => ⟨h.1, by omega, by omega, by omega⟩)
    (b.length + 1) [] 0 0 ⟨rfl, by omega, by omega, by simp⟩ (by omega)
  obtain ⟨h1, h2, h3, h4⟩ := hI
  have hw := whole_len (b.drop (srch F z b (b.length + 1) [] 0 0).2)
  unfold search fin
  rw [if_neg (by rw [List.length_append]; omega), tiled_append]
  refine ⟨_, h1, tiled_whole _ _ _ (by rw [List.length_drop]; omega) (Nat.le_refl _) ?_⟩
  unfold cut
  rw [List.take_of_length_le (by rw [List.length_drop]; omega)]
end
/-- together they are as many bytes -/
theorem tiled_count {α : Type} {S : List UInt8 → α} {old b : List UInt8} {z : Nat} : ∀ (l : List O) (p q : Nat), tiled S old b z l p q → copied l + literal l = (q : Int) - (p : Int)
  | [], p, q, h => by
    have : p = q := h
    subst this
    simp [copied, literal]
  | o :: l, p, q, h => by
    obtain ⟨h1, h2⟩ := h
    have ih := tiled_count l _ q h2
    have e : o :: l = [o] ++ l := rfl
    rw [e, copied_append, literal_append]
    have ho : copied [o] + literal [o] = (osize o : Int) := by
      unfold okAt at h1
      unfold copied literal osize
      cases hc : o.copy with
      | true =>
        rw [if_pos hc] at h1
        obtain ⟨N, A, e1, _⟩ := h1
        simp [hc, e1]
      | false => simp [hc]
    omega
/-- of itself a file of whole blocks is copies alone -/
theorem self (F : List UInt8 → Int × Bool) (z : Nat) (b : List UInt8) (hz : 1 ≤ z) (hF : ∀ k, k * z + z ≤ b.length → (F (cut b (k * z) (k * z + z))).2 = true) (hm : b.length % z = 0) (hb : b.length ≤ 2000) :
    copied (search F z b) = (b.length : Int) ∧ literal (search F z b) = 0 := by
  obtain ⟨i', hI, hend⟩ := srch_ind F z b hz (fun out frm i => frm = i ∧ i ≤ b.length ∧ (∃ k, i = k * z) ∧ copied out = (i : Int) ∧ literal out = 0 ∧ out.length ≤ 2 * i)
    (fun out frm i h hib hf => by
      obtain ⟨rfl, h2, ⟨k, hk⟩, h4, h5, h6⟩ := h
      have hnil : whole (cut b frm frm) = [] := whole_nil _ (by rw [cut_len b frm frm (Nat.le_refl _) h2]; omega)
      refine ⟨rfl, by omega, ⟨k + 1, by rw [hk, Nat.add_mul, Nat.one_mul]⟩, ?_⟩
      unfold put1
      cases hjn : joins out frm frm (F (cut b frm (frm + z))).1 with
      | true =>
        simp only [if_true]
        obtain ⟨_, o, ho, hc, ha⟩ := joins_spec hjn
        have hsp := last_split out o ho
        rw [grow_eq out o z ho]
        rw [hsp, copied_append] at h4
        rw [hsp, literal_append] at h5
        rw [hsp] at h6
        rw [copied_append, literal_append]
        have c1 : copied [o] = o.n := by simp [copied, hc]
        have c2 : copied [{ o with n := o.n + (z : Int) }] = o.n + z := by simp [copied, hc]
        have l1 : literal [o] = 0 := by simp [literal, hc]
        have l2 : literal [{ o with n := o.n + (z : Int) }] = 0 := by simp [literal, hc]
        rw [c1] at h4
        rw [l1] at h5
        rw [c2, l2]
        simp at h6 ⊢
        refine ⟨by omega, by omega, by omega⟩
      | false =>
        simp only [Bool.false_eq_true, if_false]
        rw [hnil, List.append_nil, copied_append, literal_append, copied_cp, literal_cp]
        simp
        refine ⟨by omega, by omega, by omega⟩)
    (fun out frm i h hib hf => by
      obtain ⟨rfl, h2, ⟨k, hk⟩, _⟩ := h
      have := hF k (by omega)
      rw [← hk, hf] at this
      cases this)
    (b.length + 1) [] 0 0 ⟨rfl, by omega, ⟨0, by simp⟩, by simp [copied], by simp [literal], by simp⟩ (by omega)
  obtain ⟨h1, h2, ⟨k, hk⟩, h4, h5, h6⟩ := hI
  have hib : i' = b.length := by
    obtain ⟨m, hm'⟩ := Nat.dvd_of_mod_eq_zero hm
    rw [Nat.mul_comm] at hm'
    rw [hm', hk] at hend h2 ⊢
    have e1 : k ≤ m := by
      rcases Nat.lt_or_ge m k with h | h
      · have := Nat.mul_lt_mul_of_pos_right h (show 0 < z by omega)
        omega
      · exact h
    have e2 : m < k + 1 := by
      rcases Nat.lt_or_ge m (k + 1) with h | h
      · exact h
      · have := Nat.mul_le_mul_right z h
        rw [Nat.add_mul, Nat.one_mul] at this
        omega
    have : k = m := by omega
    rw [this]
  unfold search fin
  rw [h1, hib, whole_nil (b.drop b.length) (by simp), List.append_nil, if_neg (by omega)]
  exact ⟨by rw [h4, hib], h5⟩
/-- what stands ahead of a file costs no more than itself and less than two blocks -/
theorem moved (F : List UInt8 → Int × Bool) (z la : Nat) (b : List UInt8) (hz : 1 ≤ z) (hla : la ≤ b.length) (hF : ∀ k, la + k * z + z ≤ b.length → (F (cut b (la + k * z) (la + k * z + z))).2 = true) (hb : b.length ≤ 2000) :
    literal (search F z b) ≤ (la : Int) + z + z := by
  obtain ⟨i', hI, hend⟩ := srch_ind F z b hz (fun out frm i => frm ≤ i ∧ i ≤ b.length ∧ out.length ≤ 2 * i ∧ 0 ≤ literal out ∧ (i < la → literal out + ((i : Int) - frm) ≤ i) ∧ (la ≤ i → literal out + ((i : Int) - frm) ≤ la + (if (i - la) % z = 0 then (z : Int) - 1 else (((i - la) % z : Nat) : Int) - 1)))
    (fun out frm i h hib hf => by
      obtain ⟨h1, h2, h3, h0, h4, h5⟩ := h
      have hlit : literal (put1 z b out frm i (F (cut b i (i + z))).1) = literal out + ((i : Int) - frm) ∧ (put1 z b out frm i (F (cut b i (i + z))).1).length ≤ 2 * i + 2 := by
        unfold put1
        cases hjn : joins out frm i (F (cut b i (i + z))).1 with
        | true =>
          simp only [if_true]
          obtain ⟨e, o, ho, hc, ha⟩ := joins_spec hjn
          have hsp := last_split out o ho
          rw [grow_eq out o z ho]
          have l1 : literal [o] = 0 := by simp [literal, hc]
          have l2 : literal [{ o with n := o.n + (z : Int) }] = 0 := by simp [literal, hc]
          have h6 : literal out = literal out.dropLast := by
            conv => lhs; rw [hsp]
            rw [literal_append, l1]
            omega
          rw [literal_append, l2, h6]
          refine ⟨by omega, ?_⟩
          simp
          omega
        | false =>
          simp only [Bool.false_eq_true, if_false]
          rw [literal_append, literal_append, literal_cp, literal_whole, cut_len b frm i h1 h2]
          have := whole_len (cut b frm i)
          refine ⟨by omega, ?_⟩
          simp
          omega
      refine ⟨Nat.le_refl _, hib, by omega, by omega, fun hi => ?_, fun hi => ?_⟩
      · rw [hlit.1]
        have := h4 (by omega)
        omega
      · rw [hlit.1]
        rcases Nat.lt_or_ge i la with h | h
        · have := h4 h
          have hpos : (0 : Int) ≤ (if (i + z - la) % z = 0 then (z : Int) - 1 else (((i + z - la) % z : Nat) : Int) - 1) := by split <;> omega
          omega
        · have h6 := h5 h
          have e : (i + z - la) % z = (i - la) % z := by
            rw [show i + z - la = (i - la) + z by omega, Nat.add_mod_right]
          rw [e]
          omega)
    (fun out frm i h hib hf => by
      obtain ⟨h1, h2, h3, h0, h4, h5⟩ := h
      refine ⟨by omega, by omega, by omega, h0, fun hi => ?_, fun hi => ?_⟩
      · have := h4 (by omega)
        omega
      · rcases Nat.lt_or_ge i la with h | h
        · have h6 := h4 h
          have e : i + 1 - la = 0 := by omega
          rw [e, Nat.zero_mod, if_pos rfl]
          omega
        · have h6 := h5 h
          have hr : (i - la) % z ≠ 0 := fun h0 => by
            obtain ⟨k, hk⟩ := Nat.dvd_of_mod_eq_zero h0
            rw [Nat.mul_comm] at hk
            have := hF k (by omega)
            rw [← hk, show la + (i - la) = i by omega, hf] at this
            cases this
          rw [if_neg hr] at h6
          have hlt := Nat.mod_lt (i - la) (show z > 0 by omega)
          by_cases hz1 : (i - la) % z + 1 = z
          · have e : (i + 1 - la) % z = 0 := by
              rw [show i + 1 - la = (i - la) + 1 by omega, Nat.add_mod]
              rcases Nat.lt_or_ge 1 z with h1 | h1
              · rw [Nat.mod_eq_of_lt h1, hz1, Nat.mod_self]
              · have : z = 1 := by omega
                subst this
                omega
            rw [e, if_pos rfl]
            omega
          · have e : (i + 1 - la) % z = (i - la) % z + 1 := by
              rw [show i + 1 - la = (i - la) + 1 by omega, Nat.add_mod, Nat.mod_eq_of_lt (show 1 < z by omega), Nat.mod_eq_of_lt (by omega)]
            rw [e, if_neg (by omega)]
            omega)
    (b.length + 1) [] 0 0 ⟨by omega, by omega, by simp, by simp [literal], fun _ => by simp [literal], fun h => by
      have : la = 0 := by omega
      subst this
      simp [literal]
      omega⟩ (by omega)
  obtain ⟨h1, h2, h3, h0, h4, h5⟩ := hI
  have hw := whole_len (b.drop (srch F z b (b.length + 1) [] 0 0).2)
  unfold search fin
  rw [if_neg (by rw [List.length_append]; omega), literal_append, literal_whole, List.length_drop]
  rcases Nat.lt_or_ge i' la with h | h
  · have := h4 h
    omega
  · have h6 := h5 h
    have hlt := Nat.mod_lt (i' - la) (show z > 0 by omega)
    split at h6 <;> omega
end Tm
end Go.Proofs.YtiofkhjpknfkgaaDoor
