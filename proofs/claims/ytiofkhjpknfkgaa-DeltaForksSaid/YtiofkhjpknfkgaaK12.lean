/- Any bytes, piece by piece, are the operations that the document says: the walk of the statement. -/
import Derived.Test.YtiofkhjpknfkgaaK01
import Derived.Test.YtiofkhjpknfkgaaK02
import Derived.Test.YtiofkhjpknfkgaaK03
import Derived.Test.YtiofkhjpknfkgaaK04
import Derived.Test.YtiofkhjpknfkgaaK05
import Derived.Test.YtiofkhjpknfkgaaK06
import Derived.Test.YtiofkhjpknfkgaaK07
import Derived.Test.YtiofkhjpknfkgaaK08
import Derived.Test.YtiofkhjpknfkgaaK09
import Derived.Test.YtiofkhjpknfkgaaK10
import Derived.Test.YtiofkhjpknfkgaaK11
namespace Go.Proofs.Ytiofkhjpknfkgaa
namespace Dm
open Tm
theorem loop_inv (old : Int) : ∀ (f : Nat) (out : List O) (m : Int) (r : List UInt8), 0 ≤ m → m ≤ 65536 → 0 ≤ (loop old f out m r).2.1 ∧ (loop old f out m r).2.1 ≤ 65536 ∧ (loop old f out m r).2.2.1.length ≤ r.length
  | 0, out, m, r, h1, h2 => ⟨h1, h2, Nat.le_refl _⟩
  | f + 1, out, m, r, h1, h2 => by
    by_cases h : takeOk r old (65536 - m)
    · rw [loop_go old f out m r h]
      have h3 := one_makes r old h.2.1
      have h4 := h.2.2
      obtain ⟨a, b, c⟩ := loop_inv old f (out ++ [(one r old).1]) (m + makes (one r old).1) (r.drop (one r old).2.1) (by omega) (by omega)
      rw [List.length_drop] at c
      exact ⟨a, b, by omega⟩
    · rw [loop_stop old f out m r h]
      split
      · exact ⟨h1, h2, Nat.le_refl _⟩
      · exact ⟨h1, h2, Nat.le_refl _⟩
theorem feed_inv (old : Int) (d : D) (x : List UInt8) (h1 : 0 ≤ d.made) (h2 : d.made ≤ 65536) : 0 ≤ (feed old d x).1.made ∧ (feed old d x).1.made ≤ 65536 ∧ (feed old d x).1.b.length ≤ d.b.length + x.length := by
  have h := loop_inv old ((d.b ++ x).length + 1) [] d.made (d.b ++ x) h1 h2
  have hl : (d.b ++ x).length = d.b.length + x.length := List.length_append
  unfold feed
  split
  · exact ⟨h1, h2, by show d.b.length ≤ _; omega⟩
  · split
    · exact ⟨h1, h2, by show d.b.length ≤ _; omega⟩
    · exact ⟨h.1, h.2.1, Nat.le_trans h.2.2 (Nat.le_of_eq hl)⟩
end Dm
namespace Dl
open Go.RowKit Ba Tm Dm Os_
set_option linter.unusedVariables false
set_option maxRecDepth 100000 in
set_option maxHeartbeats 16000000 in
theorem feeds_calls (old : Int) (Ps : List (List UInt8)) (A : Option Addr) (c : Nat) (ho : -9223372036854775808 ≤ old ∧ old ≤ 9223372036854775807) (hlm : Ps.length ≤ 9223372036854775807) (w : World) (hP : ReadBB w w.heap.size A Ps) :
    Calls Try.prog 4 #[.int .i64 old, .slice A Ps.length c] w fun e w' => e = .returned (.bool true) ∧ Below w.heap.size w w' := by
  obtain ⟨n, hn⟩ : ∃ n, n = Ps.length := ⟨_, rfl⟩
  rw [← hn]
  have Hn := Lib.hid hn
  have HP := Lib.hid hP
  have hnl : n ≤ 9223372036854775807 := by omega
  have Haw := Lib.hid (fun w => awake_calls w)
  obtain ⟨i0, hi0⟩ := isByte_of Vi.info5
  have Hi0 := Lib.hid hi0
  clear hn hP hlm hi0
  by_cases h1 : 60 < n
  · go_enter Try.func4, Try.ntmps4
    go_wp2_with fail
    refine Calls.mono (Haw.out _) ?_
    rintro e9 w9 ⟨rfl, hb9⟩
    go_wp2_with fail
    go_ret
    exact ⟨rfl, hb9⟩
  go_enter Try.func4, Try.ntmps4
  go_wp2_with fail
  refine (new_calls old _).mono ?_
  rintro e1 w1 ⟨g, rfl, hg1, hD1, hb1⟩
  have hx1 := Blk.new w1 37 #[.int .i64 old, .int .i64 0, .slice none 0 0, .int .i64 0]
  have hb2 : Below w.heap.size w (w1.alloc (.cells #[.int .i64 old, .int .i64 0, .slice none 0 0, .int .i64 0] 37)) := hb1.alloc hb1.size _
  have HD2 := Lib.hid (hD1.below ((Below.refl _ _).alloc (Nat.le_refl _) (.cells #[.int .i64 old, .int .i64 0, .slice none 0 0, .int .i64 0] 37)))
  have HX2 := Lib.hid hx1
  have HB2 := Lib.hid hb2
  have Hg := Lib.hid hg1
  have Hgx : Hid (w.heap.size ≤ w1.heap.size) := Lib.hid hb1.size
  have Hgg : Hid (g < w1.heap.size) := Lib.hid hD1.lt
  clear hx1 hb2 hD1 hb1 hg1
  go_wp2_with fail
  generalize w1.heap.size = gx at *
  go_loopg [7, 8] n (fun q v7 v8 wr => ∃ (i s : Nat) (d : Dm.D) (BA : Option Addr) (bc : Nat), i ≤ n ∧ q = n - i ∧ v8 = .int .i64 (i : Int) ∧ v7 = .int .i64 (s : Int) ∧ s ≤ 4000 ∧ 0 ≤ d.made ∧ d.made ≤ 65536 ∧ d.b.length ≤ s ∧ IsD wr g old d.made d.b d.e ∧ Blk wr gx 37 #[.int .i64 old, .int .i64 d.made, .slice BA d.b.length bc, .int .i64 d.e] ∧ d.b.length ≤ bc ∧ bc ≤ 9223372036854775807 ∧ RT wr BA d.b ∧ Below w.heap.size w wr)
  case atStart => exact ⟨0, 0, ⟨0, [], 0⟩, none, 0, by omega, rfl, rfl, rfl, by omega, by simp, by simp, by simp, HD2.out, HX2.out, by simp, by omega, RT.nil, HB2.out⟩
  case round =>
    obtain ⟨i, s, d, BA, bc, hi, hq, rfl, rfl, hs, hd1, hd2, hd3, hD, hX, hbc, hbm, hR, hbw⟩ := hrel
    have Hq := Lib.hid hq
    have HD := Lib.hid hD
    have HX := Lib.hid hX
    have HR := Lib.hid hR
    have HW := Lib.hid hbw
    clear hq hD hX hR hbw HD2 HX2 HB2
    by_cases hin : i < n
    · obtain ⟨pb, po, hA, hpb, hpc⟩ := HP.out (by rw [← Hn.out]; omega)
      subst hA
      obtain ⟨Ak, ck, hc1, hc2, hc3, hc4⟩ := hpc i (by rw [← Hn.out]; exact hin)
      generalize Ps.getD i [] = p at *
      have xb : wr.cell? ⟨pb, po + i, none⟩ = some (.slice Ak p.length ck) := (HW.out.cell (p := ⟨pb, po + i, none⟩) hpb).trans hc1
      have HP4 : Hid (ReadB wr w.heap.size Ak p) := Lib.hid (hc4.below HW.out)
      obtain ⟨pl, hpl⟩ : ∃ pl, pl = p.length := ⟨_, rfl⟩
      rw [← hpl] at xb hc2
      have Hpl := Lib.hid hpl
      have Hpb := Lib.hid hpb
      have Hxb := Lib.hid xb
      clear hpc hc1 hc4 hpl hpb
      by_cases hov : s + pl ≤ 4000
      · have ho1 : pl < 4001 := by omega
        have ho2 : pl ≤ 4001 := by omega
        have ho3 : ¬ 4001 < pl := by omega
        have hlit := OwnB.lit0 wr 5 wr.heap.size wr.heap.size rfl (Nat.le_refl _)
        have Hlit := Lib.hid hlit
        have hfinv := feed_inv old d p hd1 hd2
        have Hfinv := Lib.hid hfinv
        obtain ⟨dm, db, de⟩ := d
        simp only at hd1 hd2 hd3 HD HX hbc HR
        obtain ⟨dl, hdl⟩ : ∃ dl, dl = db.length := ⟨_, rfl⟩
        have Hdl := Lib.hid hdl
        have xb2 : (wr.alloc (.cells #[] 5)).cell? ⟨pb, po + i, none⟩ = some (.slice Ak pl ck) := (((Below.refl wr.heap.size wr).alloc (Nat.le_refl _) (.cells #[] 5)).cell (p := ⟨pb, po + i, none⟩) (Nat.lt_of_lt_of_le Hpb.out HW.out.size)).trans Hxb.out
        clear hlit hfinv
        go_wp2_with (at_builtin; go_loud (refine wpList_appB _ rfl (.tmp 41) (.tmp 45) 22 rfl wr.heap.size 5 i0 Try.underlying22 Hi0.out _ [] rfl Hlit.out w.heap.size Ak pl ck p rfl Hpl.out (HP4.out.alloc HW.out.size _) (by have := Hpl.out; simp; omega) (by simp) ?_); intro v5 w5 ho5 hg5 _ hb5; rw [List.nil_append] at ho5; obtain ⟨A5, c5, hv5, hp5, hm5, hr5, -⟩ := ho5.opens; subst hv5; have HW5 : Hid (Below w.heap.size w w5) := Lib.hid (HW.out.trans (((Below.refl wr.heap.size wr).alloc (Nat.le_refl _) _).trans hb5 |>.mono HW.out.size)); have hbr5 : Below wr.heap.size wr w5 := ((Below.refl wr.heap.size wr).alloc (Nat.le_refl _) _).trans hb5; have HD5 := Lib.hid (HD.out.below hbr5); have HX5 := Lib.hid (HX.out.below hbr5 HX.out.lt); have HR5 := Lib.hid (HR.out.below hbr5); have HP5 := Lib.hid (HP4.out.below (hbr5.mono HW.out.size)); have Hxb5 : Hid (w5.cell? ⟨pb, po + i, none⟩ = some (.slice Ak pl ck)) := Lib.hid ((hbr5.cell (p := ⟨pb, po + i, none⟩) (Nat.lt_of_lt_of_le Hpb.out HW.out.size)).trans Hxb.out); rw [← Hpl.out] at hp5 ⊢; have hfd := feed_calls g old dm db de p A5 pl c5 Hpl.out hp5 hm5 ho ⟨hd1, hd2⟩ (by omega) w5 HD5.out hr5; have Hfd := Lib.hid hfd; clear ho5 hg5 hb5 hp5 hm5 hr5 hfd hbr5 xb xb2)
        refine Calls.mono Hfd.out ?_
        rintro e6 w6 ⟨v6, M6, rfl, hO6, hop6, hD6, hg6⟩
        have hneg : ∀ g', some g = some g' → ∃ t cs, Blk w5 g' t cs ∧ 5 ≠ t := fun g' hg' => by injection hg' with hg'; subst hg'; obtain ⟨_, _, hB, _⟩ := HD5.out; exact ⟨_, _, hB, dec_ne⟩
        have HW6 : Hid (Below w.heap.size w w6) := Lib.hid (HW5.out.trans (below_of_only hg6 Hg.out HW5.out.size))
        have HX6 := Lib.hid (HX5.out.grown hg6 (by have := Hgg.out; simp; omega))
        have HR6 := Lib.hid (HR5.out.row hg6 hneg)
        have HP6 : Hid (ReadB w6 w.heap.size Ak p) := Lib.hid (HP5.out.below (below_of_only hg6 Hg.out HW5.out.size))
        have Hxb6 : Hid (w6.cell? ⟨pb, po + i, none⟩ = some (.slice Ak pl ck)) := Lib.hid (((below_of_only hg6 Hg.out HW5.out.size).cell (p := ⟨pb, po + i, none⟩) Hpb.out).trans Hxb5.out)
        obtain ⟨A6, c6, hv6, -, -, hL6, -⟩ := hO6.opens
        subst hv6
        have HO6 := Lib.hid hO6
        have Hop6 := Lib.hid hop6
        have HD6 := Lib.hid hD6
        obtain ⟨F1, hF1⟩ : ∃ F1, F1 = feed old ⟨dm, db, de⟩ p := ⟨_, rfl⟩
        rw [← hF1] at Hfinv Hop6 HD6 ⊢
        obtain ⟨⟨fm, fb, fe⟩, fo, fr⟩ := F1
        simp only at Hfinv Hop6 HD6 ⊢
        have HF1 := Lib.hid hF1
        obtain ⟨l6, hl6⟩ : ∃ l6, l6 = M6.length := ⟨_, rfl⟩
        have Hl6 := Lib.hid hl6
        rw [← hl6]
        have hrf := fun W (hb : RT W BA db) (hx : ReadB W W.heap.size Ak p) => rfeed_calls old dm db de BA bc p Ak pl ck Hpl.out hc2 hc3 hbc hbm ho ⟨hd1, hd2⟩ (by omega) W hb hx
        have Hrf := Lib.hid hrf
        rw [← hdl] at HX6 Hrf
        have hX6r : w6.drew.rangeAt gx 0 [.int .i64 old, .int .i64 dm, .slice BA dl bc, .int .i64 de] := fun j v hv => by
          have : w6.cell? ⟨gx, 0 + j, none⟩ = some v := by rw [Blk.cell HX6.out, Nat.zero_add]; simpa using hv
          exact this
        have HX6r := Lib.hid hX6r
        clear hO6 hop6 hD6 hg6 hneg hL6 hF1 hl6 hrf hdl hX6r HW5 HX5 HR5 HP5 HD5 Hxb5 Hfd HP4 Hxb HD HX HR HW
        go_wp2_with fail
        refine CanT.region (fun W => W.rangeAt gx 0 [.int .i64 old, .int .i64 dm, .slice BA dl bc, .int .i64 de] ∧ W.cell? ⟨pb, po + i, none⟩ = some (.slice Ak pl ck)) 11 (.op 0 1 (.op 1 2 (.op 2 2 (.op 3 2 (.op 4 1 (.fork (.op 5 0 (.op 6 2 (.op 7 2 (.op 8 2 (.op 9 2 (.op 10 0 (.op 11 0 (.op 12 2 (.op 13 2 (.nil)))))))))) (.op 10 0 (.op 5 0 (.op 6 2 (.op 7 2 (.op 8 2 (.op 9 2 (.op 11 0 (.op 12 2 (.op 13 2 (.nil)))))))))))))))) (by kernel_rfl) (by kernel_rfl) ⟨HX6r.out, Hxb6.out⟩ ?_
        have HWd := Lib.hid HW6.out.drew
        have HXd : Hid (Blk w6.drew gx 37 #[.int .i64 old, .int .i64 dm, .slice BA dl bc, .int .i64 de]) := HX6
        have HXr : Hid (w6.drew.rangeAt gx 0 [.int .i64 old, .int .i64 dm, .slice BA dl bc, .int .i64 de]) := HX6r
        have HRd : Hid (RT w6.drew BA db) := HR6
        have HPd : Hid (ReadB w6.drew w.heap.size Ak p) := HP6
        have Hxd : Hid (w6.drew.cell? ⟨pb, po + i, none⟩ = some (.slice Ak pl ck)) := Hxb6
        have HDd : Hid (IsD w6.drew g old fm fb fe) := HD6
        have HOd : Hid (OwnO w6.drew w5.heap.size (.slice A6 M6.length c6) M6) := HO6
        rw [← Hl6.out] at HOd
        clear HW6 HX6 HX6r HR6 HP6 Hxb6 HD6 HO6
        generalize w6.drew = wd at *
        repeat (first | (refine CanT.skip rfl ?_ (fun K hK => ?_); (focus (go_simp; done)); go_simp; refine hK _ ?_; clear hK K) | (refine CanT.pur rfl ?_ ?_; (focus (go_simp; done)); refine ⟨?_, ?_, ?_⟩; rotate_left; (focus (intro w'; go_simp; rfl)); (focus (intro K hK; go_simp; refine hK _ ?_; clear hK K))) | (refine CanT.heldR rfl ?_ 37 _ rfl gx (0) ([.int .i64 old, .int .i64 dm, .slice BA dl bc, .int .i64 de]) rfl (fun w1 h => h.1) _ Try.underlying37 rfl (by kernel_rfl) (fun K hK => ?_); (focus (go_simp; done)); go_simp; refine hK _ ?_; clear hK K) | (refine CanT.cellG rfl ?_ (.slice Ak pl ck) (.slice Ak pl ck) ⟨pb, po + i, none⟩ (fun w1 h => h.2) ?_ (fun K hK => ?_); (focus (go_simp; done)); (focus (intro w' hc'; go_simp; (try rfl))); go_simp; refine hK _ ?_; clear hK K))
        refine CanT.both ?_ ?_
        · refine CanT.imp rfl (fun K hK => ?_)
          go_simp
          refine Calls.mono (Hrf.out wd HRd.out (HPd.out.more HWd.out.size)) ?_
          rintro e7 w7 ⟨hb7, A7, c7, v7, M7, rfl, hO7, hop7, hp7, hm7, hR7⟩
          rw [← HF1.out] at hop7 hp7 hR7 ⊢
          simp only at hop7 hp7 hR7 ⊢
          (try go_simp)
          refine hK.out _ _ ⟨fun jj v hv => (hb7.cell (p := ⟨gx, 0 + jj, none⟩) HXd.out.lt).trans (HXr.out jj v hv), (hb7.cell (p := ⟨pb, po + i, none⟩) (Nat.lt_of_lt_of_le Hpb.out HWd.out.size)).trans Hxd.out⟩ ?_
          clear hK K
          repeat (first | (refine CanT.skip rfl ?_ (fun K hK => ?_); (focus (go_simp; done)); go_simp; refine hK _ ?_; clear hK K) | (refine CanT.pur rfl ?_ ?_; (focus (go_simp; done)); refine ⟨?_, ?_, ?_⟩; rotate_left; (focus (intro w'; go_simp; rfl)); (focus (intro K hK; go_simp; refine hK _ ?_; clear hK K))))
          refine CanT.imp rfl (fun K hK => ?_)
          go_simp
          have hba : Below wd.heap.size wd (w7.alloc (.cells #[.int .i64 0, .int .i64 0, .slice none 0 0, .int .i64 0] 37)) := hb7.alloc hb7.size _
          refine hK.out _ _ ⟨fun jj v hv => (hba.cell (p := ⟨gx, 0 + jj, none⟩) HXd.out.lt).trans (HXr.out jj v hv), (hba.cell (p := ⟨pb, po + i, none⟩) (Nat.lt_of_lt_of_le Hpb.out HWd.out.size)).trans Hxd.out⟩ ?_
          clear hK K
          have hy0 := Blk.new w7 37 #[.int .i64 0, .int .i64 0, .slice none 0 0, .int .i64 0]
          obtain ⟨gy, hgy⟩ : ∃ gy, gy = w7.heap.size := ⟨_, rfl⟩
          rw [← hgy] at hy0 ⊢
          have hgyd : wd.heap.size ≤ gy := by rw [hgy]; exact hb7.size
          have hO7a := hO7.alloc (.cells #[.int .i64 0, .int .i64 0, .slice none 0 0, .int .i64 0] 37)
          have hR7a := hR7.below ((Below.refl _ _).alloc (Nat.le_refl _) (.cells #[.int .i64 0, .int .i64 0, .slice none 0 0, .int .i64 0] 37))
          clear hO7 hR7 hb7 hgy
          generalize w7.alloc (.cells #[.int .i64 0, .int .i64 0, .slice none 0 0, .int .i64 0] 37) = wa at *
          refine CanT.last rfl (fun K hK => ?_)
          refine step_storeR ?_ 37 (.tmp 11) (.tmp 57) rfl gy #[.int .i64 old, .int .i64 fm, .slice A7 fb.length c7, .int .i64 fe] rfl rfl 37 _ hy0 (by kernel_rfl) rfl (all_oneCell_toArray (cs := [.int .i64 old, .int .i64 fm, .slice A7 fb.length c7, .int .i64 fe]) (fun u hu => by simp only [List.mem_cons, List.not_mem_nil, or_false] at hu; rcases hu with rfl | rfl | rfl | rfl <;> rfl)) ?_
          focus (go_simp; done)
          intro w8 hS8 hg8
          have hB8 : ∀ g', some gy = some g' → ∃ t cs, Blk wa g' t cs ∧ 5 ≠ t := fun g' hg' => by injection hg' with hg'; subst hg'; exact ⟨_, _, hy0, rdec_ne⟩
          have hb8 : Below wd.heap.size wd w8 := hba.trans (below_of_only hg8 hgyd hba.size)
          have hne8 : v7.ownBlock = none ∨ v7.ownBlock ≠ some gy := .inr fun hh => by
            obtain ⟨cs, hcs⟩ := own_blk hO7a.1 _ hh
            exact hcs.ne_ hy0 rdop_ne rfl
          have hO8 := hO7a.grown hg8 hne8 hB8
          have hR8 := hR7a.row hg8 hB8
          have HS8 := Lib.hid hS8
          have HW8 := Lib.hid (HWd.out.trans (hb8.mono HWd.out.size))
          have HX8 := Lib.hid (HXd.out.below hb8 HXd.out.lt)
          have HD8 := Lib.hid (HDd.out.below hb8)
          have HM8 := Lib.hid (HOd.out.keptB hb8)
          have HO8 := Lib.hid hO8
          have HQ8 := Lib.hid hR8
          have Hop7 := Lib.hid hop7
          have Hp7 := Lib.hid hp7
          have Hgyx : Hid (gx < gy) := Lib.hid (Nat.lt_of_lt_of_le HXd.out.lt hgyd)
          obtain ⟨A8, c8, hv8, -, -, -, -⟩ := hO8.opens
          subst hv8
          (try go_simp)
          refine hK.out _ _ ?_
          clear hK K hy0 hS8 hg8 hB8 hb8 hne8 hO8 hR8 hO7a hR7a hba hop7 hp7 HWd HXd HXr HRd HPd Hxd HDd HOd Hrf hgyd
          repeat (first | (refine CanT.skip rfl ?_ (fun K hK => ?_); (focus (go_simp; done)); go_simp; refine hK _ ?_; clear hK K) | (refine CanT.pur rfl ?_ ?_; (focus (go_simp; done)); refine ⟨?_, ?_, ?_⟩; rotate_left; (focus (intro w'; go_simp; rfl)); (focus (intro K hK; go_simp; refine hK _ ?_; clear hK K))))
          refine CanT.done ?_
          have hy8 : w8.rangeAt gy 0 [.int .i64 old, .int .i64 fm, .slice A7 fb.length c7, .int .i64 fe] := fun j v hv => by rw [Blk.cell HS8.out, Nat.zero_add]; simpa using hv
          have HY8 := Lib.hid hy8
          clear hy8
          obtain ⟨l8, hl8⟩ : ∃ l8, l8 = M7.length := ⟨_, rfl⟩
          have Hl8 := Lib.hid hl8
          rw [← hl8] at HO8 ⊢
          obtain ⟨fl, hfl⟩ : ∃ fl, fl = fb.length := ⟨_, rfl⟩
          have Hfl := Lib.hid hfl
          clear hl8 hfl
          go_wp2_with (first | (refine wpList_load_mid rfl 37 (.tmp 11) rfl gy 0 rfl [.int .i64 old, .int .i64 fm, .slice A7 fb.length c7, .int .i64 fe] _ HY8.out Try.underlying37 rfl (by kernel_rfl) ?_) | (refine Sm.wpList_store_blk rfl 37 (.tmp 6) (.tmp 60) rfl gx 0 37 [] [.int .i64 old, .int .i64 dm, .slice BA dl bc, .int .i64 de] [] [.int .i64 old, .int .i64 fm, .slice A7 fb.length c7, .int .i64 fe] rfl rfl HX8.out rfl rfl (by kernel_rfl) (fun u hu => by simp only [List.mem_cons, List.not_mem_nil, or_false] at hu; rcases hu with rfl | rfl | rfl | rfl <;> rfl) ?_; intro w9 hS9 hg9))
          have hB9 : ∀ g', some gx = some g' → ∃ t cs, Blk w8 g' t cs ∧ 5 ≠ t := fun g' hg' => by injection hg' with hg'; subst hg'; exact ⟨_, _, HX8.out, rdec_ne⟩
          have hne9 : ∀ {base} {v : Value} {M : List Ow}, OwnO w8 base v M → (v.ownBlock = none ∨ v.ownBlock ≠ some gx) := fun ho => .inr fun hh => by
            obtain ⟨cs, hcs⟩ := own_blk ho.1 _ hh
            exact hcs.ne_ HX8.out rdop_ne rfl
          have HX9 : Hid (Blk w9 gx 37 #[.int .i64 old, .int .i64 fm, .slice A7 fb.length c7, .int .i64 fe]) := Lib.hid (by simpa using hS9)
          have HW9 : Hid (Below w.heap.size w w9) := Lib.hid (HW8.out.trans (below_of_only hg9 Hgx.out HW8.out.size))
          have HD9 := Lib.hid (HD8.out.row hg9 (by have := Hgg.out; simp; omega) hB9)
          have HM9 := Lib.hid (HM8.out.grown hg9 (hne9 HM8.out) hB9)
          have HO9 := Lib.hid (HO8.out.grown hg9 (hne9 HO8.out) hB9)
          have HQ9 := Lib.hid (HQ8.out.row hg9 hB9)
          obtain ⟨Am, cm, hvm, hs1, hs2, hLm, -⟩ := (HM9.out.keptB ((Below.refl w9.heap.size w9).drew)).opens
          obtain ⟨Ao, co, hvo, hs3, hs4, hLo, -⟩ := (HO9.out.keptB ((Below.refl w9.heap.size w9).drew)).opens
          injection hvm with e1 e2 e3
          injection hvo with f1 f2 f3
          subst e1 e3 f1 f3
          have hsm := same_calls M6 M7 A6 l6 c6 A8 l8 c8 Hl6.out Hl8.out (by rw [Hl6.out]; omega) (by rw [Hl8.out]; omega) w9.drew hLm hLo
          rw [Hop6.out, Hop7.out, same_refl] at hsm
          have Hsm := Lib.hid hsm
          clear hB9 hne9 hS9 hg9 e2 f2 hs1 hs2 hs3 hs4 hLm hLo hsm HX8 HD8 HM8 HO8 HQ8 HW8 HS8 HY8
          have k1 : w9.drew.cell? ⟨gx, 1, none⟩ = some (.int .i64 fm) := by
            have : w9.cell? ⟨gx, 1, none⟩ = some (.int .i64 fm) := by rw [Blk.cell HX9.out]; rfl
            exact this
          have k2 : w9.drew.cell? ⟨gx, 2, none⟩ = some (.slice A7 fl c7) := by
            have : w9.cell? ⟨gx, 2, none⟩ = some (.slice A7 fb.length c7) := by rw [Blk.cell HX9.out]; rfl
            rw [Hfl.out]
            exact this
          have HFC : Hid (∀ W : World, Below w9.drew.heap.size w9.drew W → W.cell? ⟨gx, 1, none⟩ = some (.int .i64 fm) ∧ W.cell? ⟨gx, 2, none⟩ = some (.slice A7 fl c7)) := Lib.hid fun W h => ⟨(h.cell (p := ⟨gx, 1, none⟩) HX9.out.lt).trans k1, (h.cell (p := ⟨gx, 2, none⟩) HX9.out.lt).trans k2⟩
          go_wp2_with fail
          refine CanT.region (fun W => W.cell? ⟨gx, 1, none⟩ = some (.int .i64 fm) ∧ W.cell? ⟨gx, 2, none⟩ = some (.slice A7 fl c7)) 1000 (.op 0 2 (.op 1 2 (.op 2 0 (.op 3 2 (.op 4 2 (.op 5 2 (.op 6 2 (.op 7 2 (.op 8 2 (.op 9 2 (.op 10 2 (.op 12 2 (.op 13 1 (.op 11 0 (.op 14 2 (.op 15 2 (.op 16 2 (.op 17 2 (.op 19 2 (.op 20 1 (.op 21 2 (.op 18 0 (.op 22 2 (.op 23 2 (.nil))))))))))))))))))))))))) (by kernel_rfl) (by kernel_rfl) ⟨k1, k2⟩ ?_
          have HDe : Hid (IsD w9.drew g old fm fb fe) := HD9
          have HXe : Hid (Blk w9.drew gx 37 #[.int .i64 old, .int .i64 fm, .slice A7 fb.length c7, .int .i64 fe]) := HX9
          have HWe := Lib.hid HW9.out.drew
          have HQe : Hid (RT w9.drew A7 fb) := HQ9
          clear k1 k2 HD9 HX9 HW9 HM9 HO9 HQ9
          generalize w9.drew = we at *
          repeat (first | (refine CanT.skip rfl ?_ (fun K hK => ?_); (focus (go_simp; done)); go_simp; refine hK _ ?_; clear hK K) | (refine CanT.pur rfl ?_ ?_; (focus (go_simp; done)); refine ⟨?_, ?_, ?_⟩; rotate_left; (focus (intro w'; go_simp; rfl)); (focus (intro K hK; go_simp; refine hK _ ?_; clear hK K))) | (refine CanT.cellG rfl ?_ (.int .i64 fm) (.int .i64 fm) ⟨gx, 1, none⟩ (fun w1 h => h.1) ?_ (fun K hK => ?_); (focus (go_simp; done)); (focus (intro w' hc'; go_simp; (try rfl))); go_simp; refine hK _ ?_; clear hK K) | (refine CanT.cellG rfl ?_ (.slice A7 fl c7) (.slice A7 fl c7) ⟨gx, 2, none⟩ (fun w1 h => h.2) ?_ (fun K hK => ?_); (focus (go_simp; done)); (focus (intro w' hc'; go_simp; (try rfl))); go_simp; refine hK _ ?_; clear hK K))
          refine CanT.imp rfl (fun K hK => ?_)
          go_simp
          refine Calls.mono Hsm.out ?_
          rintro e10 w10 ⟨rfl, hb10⟩
          have HD10 := Lib.hid (HDe.out.below hb10)
          have HX10 := Lib.hid (HXe.out.below hb10 HXe.out.lt)
          have HW10 := Lib.hid (HWe.out.trans (hb10.mono HWe.out.size))
          have HQ10 := Lib.hid (HQe.out.below hb10)
          have hfc := HFC.out w10 hb10
          (try go_simp)
          refine hK.out _ _ hfc ?_
          clear hK K hb10
          have t1 : (fr != fr) = false := by simp
          repeat (first | (refine CanT.skip rfl ?_ (fun K hK => ?_); (focus (go_simp; done)); go_simp; refine hK _ ?_; clear hK K) | (refine CanT.pur rfl ?_ ?_; (focus (go_simp; done)); refine ⟨?_, ?_, ?_⟩; rotate_left; (focus (intro w'; go_simp; rfl)); (focus (intro K hK; go_simp; refine hK _ ?_; clear hK K))) | (refine CanT.cellG rfl ?_ (.int .i64 fm) (.int .i64 fm) ⟨gx, 1, none⟩ (fun w1 h => h.1) ?_ (fun K hK => ?_); (focus (go_simp; done)); (focus (intro w' hc'; go_simp; (try rfl))); go_simp; refine hK _ ?_; clear hK K) | (refine CanT.cellG rfl ?_ (.slice A7 fl c7) (.slice A7 fl c7) ⟨gx, 2, none⟩ (fun w1 h => h.2) ?_ (fun K hK => ?_); (focus (go_simp; done)); (focus (intro w' hc'; go_simp; (try rfl))); go_simp; refine hK _ ?_; clear hK K))
          refine CanT.imp rfl (fun K hK => ?_)
          go_simp
          refine Calls.mono (made_calls HD10.out) ?_
          rintro e11 w11 ⟨rfl, rfl⟩
          (try go_simp)
          refine hK.out _ _ hfc ?_
          clear hK K
          repeat (first | (refine CanT.skip rfl ?_ (fun K hK => ?_); (focus (go_simp; done)); go_simp; refine hK _ ?_; clear hK K) | (refine CanT.pur rfl ?_ ?_; (focus (go_simp; done)); refine ⟨?_, ?_, ?_⟩; rotate_left; (focus (intro w'; go_simp; rfl)); (focus (intro K hK; go_simp; refine hK _ ?_; clear hK K))) | (refine CanT.cellG rfl ?_ (.int .i64 fm) (.int .i64 fm) ⟨gx, 1, none⟩ (fun w1 h => h.1) ?_ (fun K hK => ?_); (focus (go_simp; done)); (focus (intro w' hc'; go_simp; (try rfl))); go_simp; refine hK _ ?_; clear hK K) | (refine CanT.cellG rfl ?_ (.slice A7 fl c7) (.slice A7 fl c7) ⟨gx, 2, none⟩ (fun w1 h => h.2) ?_ (fun K hK => ?_); (focus (go_simp; done)); (focus (intro w' hc'; go_simp; (try rfl))); go_simp; refine hK _ ?_; clear hK K))
          refine CanT.imp rfl (fun K hK => ?_)
          go_simp
          refine Calls.mono (rest_calls HD10.out) ?_
          rintro e11 w11 ⟨rfl, rfl⟩
          rw [← Hfl.out]
          (try go_simp)
          refine hK.out _ _ hfc ?_
          clear hK K
          repeat (first | (refine CanT.skip rfl ?_ (fun K hK => ?_); (focus (go_simp; done)); go_simp; refine hK _ ?_; clear hK K) | (refine CanT.pur rfl ?_ ?_; (focus (go_simp; done)); refine ⟨?_, ?_, ?_⟩; rotate_left; (focus (intro w'; go_simp; rfl)); (focus (intro K hK; go_simp; refine hK _ ?_; clear hK K))) | (refine CanT.cellG rfl ?_ (.int .i64 fm) (.int .i64 fm) ⟨gx, 1, none⟩ (fun w1 h => h.1) ?_ (fun K hK => ?_); (focus (go_simp; done)); (focus (intro w' hc'; go_simp; (try rfl))); go_simp; refine hK _ ?_; clear hK K) | (refine CanT.cellG rfl ?_ (.slice A7 fl c7) (.slice A7 fl c7) ⟨gx, 2, none⟩ (fun w1 h => h.2) ?_ (fun K hK => ?_); (focus (go_simp; done)); (focus (intro w' hc'; go_simp; (try rfl))); go_simp; refine hK _ ?_; clear hK K))
          refine CanT.done ?_
          clear hfc
          go_wp2_with fail
          go_roundg (n - (i + 1))
          case rel => exact ⟨i + 1, s + pl, ⟨fm, fb, fe⟩, A7, c7, by omega, rfl, rfl, rfl, hov, Hfinv.out.1, Hfinv.out.2.1, by have := Hfinv.out.2.2; have := Hpl.out; have := Hdl.out; show fb.length ≤ s + pl; omega, HD10.out, HX10.out, Hp7.out, hm7, HQ10.out, HW10.out⟩
          case measure => have := Hq.out; omega
        · refine CanT.imp rfl (fun K hK => ?_)
          go_simp
          have hba0 : Below wd.heap.size wd (wd.alloc (.cells #[.int .i64 0, .int .i64 0, .slice none 0 0, .int .i64 0] 37)) := (Below.refl _ _).alloc (Nat.le_refl _) _
          refine hK.out _ _ ⟨fun jj v hv => (hba0.cell (p := ⟨gx, 0 + jj, none⟩) HXd.out.lt).trans (HXr.out jj v hv), (hba0.cell (p := ⟨pb, po + i, none⟩) (Nat.lt_of_lt_of_le Hpb.out HWd.out.size)).trans Hxd.out⟩ ?_
          clear hK K
          have hy00 := Blk.new wd 37 #[.int .i64 0, .int .i64 0, .slice none 0 0, .int .i64 0]
          refine CanT.imp rfl (fun K hK => ?_)
          go_simp
          refine Calls.mono (Hrf.out (wd.alloc (.cells #[.int .i64 0, .int .i64 0, .slice none 0 0, .int .i64 0] 37)) (HRd.out.below hba0) ((HPd.out.alloc HWd.out.size _).more (by have := HWd.out.size; simp; omega))) ?_
          rintro e7 w7 ⟨hb7, A7, c7, v7, M7, rfl, hO7, hop7, hp7, hm7, hR7⟩
          rw [← HF1.out] at hop7 hp7 hR7 ⊢
          simp only at hop7 hp7 hR7 ⊢
          (try go_simp)
          have hba : Below wd.heap.size wd w7 := hba0.trans (hb7.mono (by simp))
          refine hK.out _ _ ⟨fun jj v hv => (hba.cell (p := ⟨gx, 0 + jj, none⟩) HXd.out.lt).trans (HXr.out jj v hv), (hba.cell (p := ⟨pb, po + i, none⟩) (Nat.lt_of_lt_of_le Hpb.out HWd.out.size)).trans Hxd.out⟩ ?_
          clear hK K
          repeat (first | (refine CanT.skip rfl ?_ (fun K hK => ?_); (focus (go_simp; done)); go_simp; refine hK _ ?_; clear hK K) | (refine CanT.pur rfl ?_ ?_; (focus (go_simp; done)); refine ⟨?_, ?_, ?_⟩; rotate_left; (focus (intro w'; go_simp; rfl)); (focus (intro K hK; go_simp; refine hK _ ?_; clear hK K))))
          have hy0 := hy00.below hb7 hy00.lt
          obtain ⟨gy, hgy⟩ : ∃ gy, gy = wd.heap.size := ⟨_, rfl⟩
          rw [← hgy] at hy0 ⊢
          have hgyd : wd.heap.size ≤ gy := by omega
          have hO7a := hO7.weak (b2 := wd.heap.size) (by simp)
          have hR7a := hR7
          clear hO7 hR7 hb7 hgy hy00 hba0
          generalize w7 = wa at *
          refine CanT.last rfl (fun K hK => ?_)
          refine step_storeR ?_ 37 (.tmp 11) (.tmp 57) rfl gy #[.int .i64 old, .int .i64 fm, .slice A7 fb.length c7, .int .i64 fe] rfl rfl 37 _ hy0 (by kernel_rfl) rfl (all_oneCell_toArray (cs := [.int .i64 old, .int .i64 fm, .slice A7 fb.length c7, .int .i64 fe]) (fun u hu => by simp only [List.mem_cons, List.not_mem_nil, or_false] at hu; rcases hu with rfl | rfl | rfl | rfl <;> rfl)) ?_
          focus (go_simp; done)
          intro w8 hS8 hg8
          have hB8 : ∀ g', some gy = some g' → ∃ t cs, Blk wa g' t cs ∧ 5 ≠ t := fun g' hg' => by injection hg' with hg'; subst hg'; exact ⟨_, _, hy0, rdec_ne⟩
          have hb8 : Below wd.heap.size wd w8 := hba.trans (below_of_only hg8 hgyd hba.size)
          have hne8 : v7.ownBlock = none ∨ v7.ownBlock ≠ some gy := .inr fun hh => by
            obtain ⟨cs, hcs⟩ := own_blk hO7a.1 _ hh
            exact hcs.ne_ hy0 rdop_ne rfl
          have hO8 := hO7a.grown hg8 hne8 hB8
          have hR8 := hR7a.row hg8 hB8
          have HS8 := Lib.hid hS8
          have HW8 := Lib.hid (HWd.out.trans (hb8.mono HWd.out.size))
          have HX8 := Lib.hid (HXd.out.below hb8 HXd.out.lt)
          have HD8 := Lib.hid (HDd.out.below hb8)
          have HM8 := Lib.hid (HOd.out.keptB hb8)
          have HO8 := Lib.hid hO8
          have HQ8 := Lib.hid hR8
          have Hop7 := Lib.hid hop7
          have Hp7 := Lib.hid hp7
          have Hgyx : Hid (gx < gy) := Lib.hid (Nat.lt_of_lt_of_le HXd.out.lt hgyd)
          obtain ⟨A8, c8, hv8, -, -, -, -⟩ := hO8.opens
          subst hv8
          (try go_simp)
          refine hK.out _ _ ?_
          clear hK K hy0 hS8 hg8 hB8 hb8 hne8 hO8 hR8 hO7a hR7a hba hop7 hp7 HWd HXd HXr HRd HPd Hxd HDd HOd Hrf hgyd
          repeat (first | (refine CanT.skip rfl ?_ (fun K hK => ?_); (focus (go_simp; done)); go_simp; refine hK _ ?_; clear hK K) | (refine CanT.pur rfl ?_ ?_; (focus (go_simp; done)); refine ⟨?_, ?_, ?_⟩; rotate_left; (focus (intro w'; go_simp; rfl)); (focus (intro K hK; go_simp; refine hK _ ?_; clear hK K))))
          refine CanT.done ?_
          have hy8 : w8.rangeAt gy 0 [.int .i64 old, .int .i64 fm, .slice A7 fb.length c7, .int .i64 fe] := fun j v hv => by rw [Blk.cell HS8.out, Nat.zero_add]; simpa using hv
          have HY8 := Lib.hid hy8
          clear hy8
          obtain ⟨l8, hl8⟩ : ∃ l8, l8 = M7.length := ⟨_, rfl⟩
          have Hl8 := Lib.hid hl8
          rw [← hl8] at HO8 ⊢
          obtain ⟨fl, hfl⟩ : ∃ fl, fl = fb.length := ⟨_, rfl⟩
          have Hfl := Lib.hid hfl
          clear hl8 hfl
          go_wp2_with (first | (refine wpList_load_mid rfl 37 (.tmp 11) rfl gy 0 rfl [.int .i64 old, .int .i64 fm, .slice A7 fb.length c7, .int .i64 fe] _ HY8.out Try.underlying37 rfl (by kernel_rfl) ?_) | (refine Sm.wpList_store_blk rfl 37 (.tmp 6) (.tmp 60) rfl gx 0 37 [] [.int .i64 old, .int .i64 dm, .slice BA dl bc, .int .i64 de] [] [.int .i64 old, .int .i64 fm, .slice A7 fb.length c7, .int .i64 fe] rfl rfl HX8.out rfl rfl (by kernel_rfl) (fun u hu => by simp only [List.mem_cons, List.not_mem_nil, or_false] at hu; rcases hu with rfl | rfl | rfl | rfl <;> rfl) ?_; intro w9 hS9 hg9))
          have hB9 : ∀ g', some gx = some g' → ∃ t cs, Blk w8 g' t cs ∧ 5 ≠ t := fun g' hg' => by injection hg' with hg'; subst hg'; exact ⟨_, _, HX8.out, rdec_ne⟩
          have hne9 : ∀ {base} {v : Value} {M : List Ow}, OwnO w8 base v M → (v.ownBlock = none ∨ v.ownBlock ≠ some gx) := fun ho => .inr fun hh => by
            obtain ⟨cs, hcs⟩ := own_blk ho.1 _ hh
            exact hcs.ne_ HX8.out rdop_ne rfl
          have HX9 : Hid (Blk w9 gx 37 #[.int .i64 old, .int .i64 fm, .slice A7 fb.length c7, .int .i64 fe]) := Lib.hid (by simpa using hS9)
          have HW9 : Hid (Below w.heap.size w w9) := Lib.hid (HW8.out.trans (below_of_only hg9 Hgx.out HW8.out.size))
          have HD9 := Lib.hid (HD8.out.row hg9 (by have := Hgg.out; simp; omega) hB9)
          have HM9 := Lib.hid (HM8.out.grown hg9 (hne9 HM8.out) hB9)
          have HO9 := Lib.hid (HO8.out.grown hg9 (hne9 HO8.out) hB9)
          have HQ9 := Lib.hid (HQ8.out.row hg9 hB9)
          obtain ⟨Am, cm, hvm, hs1, hs2, hLm, -⟩ := (HM9.out.keptB ((Below.refl w9.heap.size w9).drew)).opens
          obtain ⟨Ao, co, hvo, hs3, hs4, hLo, -⟩ := (HO9.out.keptB ((Below.refl w9.heap.size w9).drew)).opens
          injection hvm with e1 e2 e3
          injection hvo with f1 f2 f3
          subst e1 e3 f1 f3
          have hsm := same_calls M6 M7 A6 l6 c6 A8 l8 c8 Hl6.out Hl8.out (by rw [Hl6.out]; omega) (by rw [Hl8.out]; omega) w9.drew hLm hLo
          rw [Hop6.out, Hop7.out, same_refl] at hsm
          have Hsm := Lib.hid hsm
          clear hB9 hne9 hS9 hg9 e2 f2 hs1 hs2 hs3 hs4 hLm hLo hsm HX8 HD8 HM8 HO8 HQ8 HW8 HS8 HY8
          have k1 : w9.drew.cell? ⟨gx, 1, none⟩ = some (.int .i64 fm) := by
            have : w9.cell? ⟨gx, 1, none⟩ = some (.int .i64 fm) := by rw [Blk.cell HX9.out]; rfl
            exact this
          have k2 : w9.drew.cell? ⟨gx, 2, none⟩ = some (.slice A7 fl c7) := by
            have : w9.cell? ⟨gx, 2, none⟩ = some (.slice A7 fb.length c7) := by rw [Blk.cell HX9.out]; rfl
            rw [Hfl.out]
            exact this
          have HFC : Hid (∀ W : World, Below w9.drew.heap.size w9.drew W → W.cell? ⟨gx, 1, none⟩ = some (.int .i64 fm) ∧ W.cell? ⟨gx, 2, none⟩ = some (.slice A7 fl c7)) := Lib.hid fun W h => ⟨(h.cell (p := ⟨gx, 1, none⟩) HX9.out.lt).trans k1, (h.cell (p := ⟨gx, 2, none⟩) HX9.out.lt).trans k2⟩
          go_wp2_with fail
          refine CanT.region (fun W => W.cell? ⟨gx, 1, none⟩ = some (.int .i64 fm) ∧ W.cell? ⟨gx, 2, none⟩ = some (.slice A7 fl c7)) 1000 (.op 0 2 (.op 1 2 (.op 2 0 (.op 3 2 (.op 4 2 (.op 5 2 (.op 6 2 (.op 7 2 (.op 8 2 (.op 9 2 (.op 10 2 (.op 12 2 (.op 13 1 (.op 11 0 (.op 14 2 (.op 15 2 (.op 16 2 (.op 17 2 (.op 19 2 (.op 20 1 (.op 21 2 (.op 18 0 (.op 22 2 (.op 23 2 (.nil))))))))))))))))))))))))) (by kernel_rfl) (by kernel_rfl) ⟨k1, k2⟩ ?_
          have HDe : Hid (IsD w9.drew g old fm fb fe) := HD9
          have HXe : Hid (Blk w9.drew gx 37 #[.int .i64 old, .int .i64 fm, .slice A7 fb.length c7, .int .i64 fe]) := HX9
          have HWe := Lib.hid HW9.out.drew
          have HQe : Hid (RT w9.drew A7 fb) := HQ9
          clear k1 k2 HD9 HX9 HW9 HM9 HO9 HQ9
          generalize w9.drew = we at *
          repeat (first | (refine CanT.skip rfl ?_ (fun K hK => ?_); (focus (go_simp; done)); go_simp; refine hK _ ?_; clear hK K) | (refine CanT.pur rfl ?_ ?_; (focus (go_simp; done)); refine ⟨?_, ?_, ?_⟩; rotate_left; (focus (intro w'; go_simp; rfl)); (focus (intro K hK; go_simp; refine hK _ ?_; clear hK K))) | (refine CanT.cellG rfl ?_ (.int .i64 fm) (.int .i64 fm) ⟨gx, 1, none⟩ (fun w1 h => h.1) ?_ (fun K hK => ?_); (focus (go_simp; done)); (focus (intro w' hc'; go_simp; (try rfl))); go_simp; refine hK _ ?_; clear hK K) | (refine CanT.cellG rfl ?_ (.slice A7 fl c7) (.slice A7 fl c7) ⟨gx, 2, none⟩ (fun w1 h => h.2) ?_ (fun K hK => ?_); (focus (go_simp; done)); (focus (intro w' hc'; go_simp; (try rfl))); go_simp; refine hK _ ?_; clear hK K))
          refine CanT.imp rfl (fun K hK => ?_)
          go_simp
          refine Calls.mono Hsm.out ?_
          rintro e10 w10 ⟨rfl, hb10⟩
          have HD10 := Lib.hid (HDe.out.below hb10)
          have HX10 := Lib.hid (HXe.out.below hb10 HXe.out.lt)
          have HW10 := Lib.hid (HWe.out.trans (hb10.mono HWe.out.size))
          have HQ10 := Lib.hid (HQe.out.below hb10)
          have hfc := HFC.out w10 hb10
          (try go_simp)
          refine hK.out _ _ hfc ?_
          clear hK K hb10
          have t1 : (fr != fr) = false := by simp
          repeat (first | (refine CanT.skip rfl ?_ (fun K hK => ?_); (focus (go_simp; done)); go_simp; refine hK _ ?_; clear hK K) | (refine CanT.pur rfl ?_ ?_; (focus (go_simp; done)); refine ⟨?_, ?_, ?_⟩; rotate_left; (focus (intro w'; go_simp; rfl)); (focus (intro K hK; go_simp; refine hK _ ?_; clear hK K))) | (refine CanT.cellG rfl ?_ (.int .i64 fm) (.int .i64 fm) ⟨gx, 1, none⟩ (fun w1 h => h.1) ?_ (fun K hK => ?_); (focus (go_simp; done)); (focus (intro w' hc'; go_simp; (try rfl))); go_simp; refine hK _ ?_; clear hK K) | (refine CanT.cellG rfl ?_ (.slice A7 fl c7) (.slice A7 fl c7) ⟨gx, 2, none⟩ (fun w1 h => h.2) ?_ (fun K hK => ?_); (focus (go_simp; done)); (focus (intro w' hc'; go_simp; (try rfl))); go_simp; refine hK _ ?_; clear hK K))
          refine CanT.imp rfl (fun K hK => ?_)
          go_simp
          refine Calls.mono (made_calls HD10.out) ?_
          rintro e11 w11 ⟨rfl, rfl⟩
          (try go_simp)
          refine hK.out _ _ hfc ?_
          clear hK K
          repeat (first | (refine CanT.skip rfl ?_ (fun K hK => ?_); (focus (go_simp; done)); go_simp; refine hK _ ?_; clear hK K) | (refine CanT.pur rfl ?_ ?_; (focus (go_simp; done)); refine ⟨?_, ?_, ?_⟩; rotate_left; (focus (intro w'; go_simp; rfl)); (focus (intro K hK; go_simp; refine hK _ ?_; clear hK K))) | (refine CanT.cellG rfl ?_ (.int .i64 fm) (.int .i64 fm) ⟨gx, 1, none⟩ (fun w1 h => h.1) ?_ (fun K hK => ?_); (focus (go_simp; done)); (focus (intro w' hc'; go_simp; (try rfl))); go_simp; refine hK _ ?_; clear hK K) | (refine CanT.cellG rfl ?_ (.slice A7 fl c7) (.slice A7 fl c7) ⟨gx, 2, none⟩ (fun w1 h => h.2) ?_ (fun K hK => ?_); (focus (go_simp; done)); (focus (intro w' hc'; go_simp; (try rfl))); go_simp; refine hK _ ?_; clear hK K))
          refine CanT.imp rfl (fun K hK => ?_)
          go_simp
          refine Calls.mono (rest_calls HD10.out) ?_
          rintro e11 w11 ⟨rfl, rfl⟩
          rw [← Hfl.out]
          (try go_simp)
          refine hK.out _ _ hfc ?_
          clear hK K
          repeat (first | (refine CanT.skip rfl ?_ (fun K hK => ?_); (focus (go_simp; done)); go_simp; refine hK _ ?_; clear hK K) | (refine CanT.pur rfl ?_ ?_; (focus (go_simp; done)); refine ⟨?_, ?_, ?_⟩; rotate_left; (focus (intro w'; go_simp; rfl)); (focus (intro K hK; go_simp; refine hK _ ?_; clear hK K))) | (refine CanT.cellG rfl ?_ (.int .i64 fm) (.int .i64 fm) ⟨gx, 1, none⟩ (fun w1 h => h.1) ?_ (fun K hK => ?_); (focus (go_simp; done)); (focus (intro w' hc'; go_simp; (try rfl))); go_simp; refine hK _ ?_; clear hK K) | (refine CanT.cellG rfl ?_ (.slice A7 fl c7) (.slice A7 fl c7) ⟨gx, 2, none⟩ (fun w1 h => h.2) ?_ (fun K hK => ?_); (focus (go_simp; done)); (focus (intro w' hc'; go_simp; (try rfl))); go_simp; refine hK _ ?_; clear hK K))
          refine CanT.done ?_
          clear hfc
          go_wp2_with fail
          go_roundg (n - (i + 1))
          case rel => exact ⟨i + 1, s + pl, ⟨fm, fb, fe⟩, A7, c7, by omega, rfl, rfl, rfl, hov, Hfinv.out.1, Hfinv.out.2.1, by have := Hfinv.out.2.2; have := Hpl.out; have := Hdl.out; show fb.length ≤ s + pl; omega, HD10.out, HX10.out, Hp7.out, hm7, HQ10.out, HW10.out⟩
          case measure => have := Hq.out; omega
      · by_cases ho1 : pl < 4001
        · have ho3 : ¬ 4001 < pl := by omega
          go_wp2_with fail
          refine Calls.mono (Haw.out _) ?_
          rintro e9 w9 ⟨rfl, hb9⟩
          have HB9 := Lib.hid (HW.out.trans (hb9.mono HW.out.size))
          clear hb9
          go_wp2_with fail
          go_ret
          exact ⟨rfl, HB9.out⟩
        · have ho2 : 4001 ≤ pl := by omega
          go_wp2_with fail
          all_goals
            refine Calls.mono (Haw.out _) ?_
            rintro e9 w9 ⟨rfl, hb9⟩
            have HB9 := Lib.hid (HW.out.trans (hb9.mono HW.out.size))
            clear hb9
            go_wp2_with fail
            go_ret
            exact ⟨rfl, HB9.out⟩
    · go_wp2_with fail
      refine Calls.mono (Haw.out _) ?_
      rintro e9 w9 ⟨rfl, hb9⟩
      have HB9 := Lib.hid (HW.out.trans (hb9.mono HW.out.size))
      clear hb9
      go_wp2_with fail
      go_ret
      exact ⟨rfl, HB9.out⟩
end Dl
end Go.Proofs.Ytiofkhjpknfkgaa
/- A decoder's fork; a decoder that is not there. -/
namespace Go.Proofs.Ytiofkhjpknfkgaa
namespace Dl
open Go.RowKit Ba Tm Dm Os_
set_option linter.unusedVariables false
set_option maxHeartbeats 1000000 in
theorem made_nil (w : World) : Calls Try.prog 17 #[.pointer none] w fun e w' => e = .returned (.int .i64 0) ∧ w = w' := by
  go_enter Try.func17, Try.ntmps17
  go_wp2
  go_ret
  exact ⟨rfl, rfl⟩
set_option maxHeartbeats 1000000 in
theorem rest_nil (w : World) : Calls Try.prog 18 #[.pointer none] w fun e w' => e = .returned (.int .i64 0) ∧ w = w' := by
  go_enter Try.func18, Try.ntmps18
  go_wp2
  go_ret
  exact ⟨rfl, rfl⟩
set_option maxHeartbeats 1000000 in
theorem fork_nil (w : World) : Calls Try.prog 20 #[.pointer none] w fun e w' => e = .returned (.pointer none) ∧ w = w' := by
  go_enter Try.func20, Try.ntmps20
  go_wp2
  go_ret
  exact ⟨rfl, rfl⟩
set_option maxHeartbeats 1000000 in
theorem feed_nil (A : Option Addr) (n c : Nat) (w : World) : Calls Try.prog 14 #[.pointer none, .slice A n c] w fun e w' => e = .returned (.tuple #[.slice none 0 0, .int .i64 1]) ∧ w = w' := by
  go_enter Try.func14, Try.ntmps14
  go_wp2
  go_ret2
  exact ⟨rfl, rfl⟩
set_option maxRecDepth 100000 in
set_option maxHeartbeats 2000000 in
theorem fork_calls {w : World} {g : Nat} {old made : Int} {b : List UInt8} {e : Int} (h : IsD w g old made b e) (hl : b.length ≤ 140737488355328) : Calls Try.prog 20 #[.pointer (some ⟨g, 0, none⟩)] w
    fun e1 w' => ∃ g', e1 = .returned (.pointer (some ⟨g', 0, none⟩)) ∧ w.heap.size ≤ g' ∧ IsD w' g' old made b e ∧ Below w.heap.size w w' := by
  obtain ⟨A, c, h1, h2, h3, h4⟩ := h
  have hcc : w.cell? ⟨g, 2, none⟩ = some (.slice A b.length c) := by rw [Blk.cell h1]; rfl
  have hc : (w.alloc (.cells #[.int .i64 old, .int .i64 made, .slice A b.length c, .int .i64 e] 60)).cell? ⟨g, 2, none⟩ = some (.slice A b.length c) := by rw [Blk.cell (h1.alloc _)]; rfl
  have hr : w.rangeAt g 0 [.int .i64 old, .int .i64 made, .slice A b.length c, .int .i64 e] := fun j v hv => by rw [Blk.cell h1, Nat.zero_add]; simpa using hv
  have hcl := Cl.cloneN (c := c) (A := A) (n := b.length) (w := w.alloc (.cells #[.int .i64 old, .int .i64 made, .slice A b.length c, .int .i64 e] 60)) (l := b) rfl h2 hl (((h4.readB).alloc (Nat.le_refl _) _).more (by simp))
  have hB0 : Blk (w.alloc (.cells #[.int .i64 old, .int .i64 made, .slice A b.length c, .int .i64 e] 60)) w.heap.size 60 #[.int .i64 old, .int .i64 made, .slice A b.length c, .int .i64 e] := heap_alloc_new w _
  have HR := Lib.hid hr
  have Hcl := Lib.hid hcl
  have HB0 := Lib.hid hB0
  have H2 := Lib.hid h2
  have H3 := Lib.hid h3
  clear h1 h4 hr hcl hB0
  go_enter Try.func20, Try.ntmps20
  go_wp2_with (refine wpList_load_mid rfl 60 (.tmp 7) rfl g 0 rfl [.int .i64 old, .int .i64 made, .slice A b.length c, .int .i64 e] _ HR.out Try.underlying60 rfl (by kernel_rfl) ?_)
  refine Calls.mono Hcl.out ?_
  rintro e1 w1' ⟨v1, rfl, ho1, hb1⟩
  obtain ⟨A1, c1, rfl, hp1, hm1, -, -⟩ := ho1.opens
  have hB1 := HB0.out.below hb1 HB0.out.lt
  have f5 := Blk.frozen hB1
  have f6 : w1'.cell? ⟨w.heap.size, 2, none⟩ = some (.slice A b.length c) := by rw [Blk.cell hB1]; rfl
  have hB2 : Blk (w1'.setCell ⟨w.heap.size, 2, none⟩ (.slice A1 b.length c1)) w.heap.size 60 #[.int .i64 old, .int .i64 made, .slice A1 b.length c1, .int .i64 e] := Blk.set_ hB1 2 _
  have hrt2 : RT (w1'.setCell ⟨w.heap.size, 2, none⟩ (.slice A1 b.length c1)) A1 b := (RT.of_own ho1).row (only_set w1' w.heap.size 2 _) (fun g hg => by injection hg with hg; subst hg; exact ⟨_, _, hB1, dec_ne⟩)
  have Hbw2 : Hid (Below w.heap.size w (w1'.setCell ⟨w.heap.size, 2, none⟩ (.slice A1 b.length c1))) := Lib.hid ((((Below.refl _ _).alloc (Nat.le_refl _) _).trans (hb1.mono (by simp))).setCell (Nat.le_refl _) _)
  have HB2 := Lib.hid hB2
  have HR2 := Lib.hid hrt2
  have Hp := Lib.hid hp1
  have Hm := Lib.hid hm1
  clear hB1 hB2 hrt2 ho1 hb1 HB0 hp1 hm1
  go_wp2_with fail
  go_ret
  exact ⟨w.heap.size, rfl, Nat.le_refl _, ⟨A1, c1, HB2.out, Hp.out, Hm.out, HR2.out⟩, Hbw2.out⟩
end Dl
end Go.Proofs.Ytiofkhjpknfkgaa
