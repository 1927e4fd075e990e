/- Texts put one behind the other: Wstep, Wmono, Wdown, Wwhnf, Wfilled, Wtop, Wnew, Wown. -/
import Derived.Test.YtiampoebdmflgaaGreatF7
import Derived.Test.YtiampoebdmflgaaGreatF5
import Derived.Test.YtiampoebdmflgaaGreatF6
import Derived.Carry
import Derived.Test.YtiampoebdmflgaaGreatF3
/- (machine).step. -/
namespace Go.Proofs.YtiampoebdmflgaaGreat
open Go.RowKit
set_option linter.unusedVariables false
set_option maxRecDepth 100000
set_option maxHeartbeats 1500000
set_option linter.unusedSimpArgs false
theorem step_any (G : List Glb) (ev : Value) (mb fuel : Nat) (t : Tm) (tcs : Array Value) (D : Nat → Prop) (w : World) (hD : Within D w) (hmb : ¬ D mb) (hmw : mb < w.heap.size) (hE : EnvV D w ev G) (ht : TmIs D w t tcs) (hM : MacIs w mb ev fuel) (hrec : ∀ x ∈ (tspine t).2, WhnfC G ev mb fuel x) :
    Calls Tryz.prog 58 #[.pointer (some ⟨mb, 0, none⟩), .agg tcs] w fun e w' => ∃ (n f1 : Nat) (nx : Nx) (err : Int) (fv : Value), wstep G (fun f x => wwhnf G n f x) fuel t = some (f1, nx, err) ∧
     e = .returned (.tuple #[fv, .int .i64 err]) ∧ NextIs (grow D w w') w' fv nx ∧ MacIs w' mb ev f1 ∧ Upd (fun q => q = mb) w w' ∧ f1 ≤ fuel := by
 have hz := tm_zero
 obtain ⟨yp, yq, yB, ym, yd, yE, yx, yE', yx', rfl⟩ := ht.lit8
 obtain ⟨W1, hW1⟩ : ∃ W1, w.alloc (.cells #[.int .i64 t.k, .int .i64 t.n, .string t.nm, .int .i64 yp, .int .i64 yq, .slice yB ym yd, .slice yE t.ls.length yx, .slice yE' t.ks.length yx'] 28) = W1 := ⟨_, rfl⟩
 have hu1 : Upd nob w W1 := by rw [← hW1]; exact (Upd.refl nob w).alloc _
 have hs1 : W1.heap.size = w.heap.size + 1 := by rw [← hW1]; simp
 have HB3 := Lib.hid (show Blk W1 w.heap.size 28 #[.int .i64 t.k, .int .i64 t.n, .string t.nm, .int .i64 yp, .int .i64 yq, .slice yB ym yd, .slice yE t.ls.length yx, .slice yE' t.ks.length yx'] by rw [← hW1]; exact Blk.new w _ _)
 have r3 := HB3.out.rowAt
 have HW1 := Lib.hid hW1
 have HS1 := Lib.hid hs1
 have HE := Lib.hid hE
 have HM := Lib.hid hM
 have hcall := tspine_any t #[.int .i64 t.k, .int .i64 t.n, .string t.nm, .int .i64 yp, .int .i64 yq, .slice yB ym yd, .slice yE t.ls.length yx, .slice yE' t.ks.length yx'] D W1 (hD.up hu1) (ht.old (hD.old hu1) (fun _ h => h))
 have HC := Lib.hid hcall
 clear hW1 hs1 hE hM hcall
 go_enter Tryz.func58, Tryz.ntmps58
 go_wp2_with fail
 rw [HW1.out]
 go_wp2_with fail
 refine HC.out.mono ?_
 rintro e w2 ⟨hcs, A, c, rfl, hst, ⟨hal, hac⟩, hat, hb2⟩
 have hu2 : Upd nob W1 w2 := Upd.of_below hb2
 obtain ⟨⟨h, args⟩, hsp⟩ : ∃ s, tspine t = s := ⟨_, rfl⟩
 have hF2 := tspine_len t
 rw [hsp] at hst hal hac hat hF2 hrec ⊢
 simp only at hF2 hst hal hac hat hrec ⊢
 obtain ⟨hp, hq, hB, hm, hd, hE_, hx, hE', hx', rfl⟩ := hst.lit8
 obtain ⟨N, hN⟩ : ∃ N, args.length = N := ⟨_, rfl⟩
 rw [hN] at hal hac hF2 ⊢
 have HN := Lib.hid hN
 have HSP := Lib.hid hsp
 have HREC := Lib.hid hrec
 have hu02 := hu1.trans hu2
 have hz2 := hu2.size
 have hs1 := HS1.out
 have hDg : Within (grow D W1 w2) w2 := (hD.up hu1).grow hu2.size
 obtain ⟨W4, hW4⟩ : ∃ W4, (w2.alloc (.cells #[.int .i64 h.k, .int .i64 h.n, .string h.nm, .int .i64 hp, .int .i64 hq, .slice hB hm hd, .slice hE_ h.ls.length hx, .slice hE' h.ks.length hx'] 28)).alloc (.cells #[.slice A N c] 26) = W4 := ⟨_, rfl⟩
 have huW4 : Upd nob w2 W4 := by rw [← hW4]; exact ((Upd.refl nob w2).alloc _).alloc _
 have hsW4 : W4.heap.size = w2.heap.size + 2 := by rw [← hW4]; simp
 have b0 : Blk W4 (w2.heap.size) 28 #[.int .i64 h.k, .int .i64 h.n, .string h.nm, .int .i64 hp, .int .i64 hq, .slice hB hm hd, .slice hE_ h.ls.length hx, .slice hE' h.ks.length hx'] := by
  rw [← hW4]
  have h := Blk.new (w2) 28 #[.int .i64 h.k, .int .i64 h.n, .string h.nm, .int .i64 hp, .int .i64 hq, .slice hB hm hd, .slice hE_ h.ls.length hx, .slice hE' h.ks.length hx']
  exact h.alloc _
 have b1 : Blk W4 (w2.heap.size + 1) 26 #[.slice A N c] := by
  rw [← hW4]
  have h := Blk.new (w2.alloc (.cells #[.int .i64 h.k, .int .i64 h.n, .string h.nm, .int .i64 hp, .int .i64 hq, .slice hB hm hd, .slice hE_ h.ls.length hx, .slice hE' h.ks.length hx'] 28)) 26 #[.slice A N c]
  rw [World.size_alloc] at h
  exact h
 have HW4 := Lib.hid hW4
 have HB6 := Lib.hid b0
 have HB7 := Lib.hid b1
 have HSZ4 := Lib.hid hsW4
 have hu24 := huW4
 clear hsW4
 have hu04 := hu02.trans hu24
 have hz4 := hu04.size
 have hst4 : TmIs (grow D w W4) W4 h #[.int .i64 h.k, .int .i64 h.n, .string h.nm, .int .i64 hp, .int .i64 hq, .slice hB hm hd, .slice hE_ h.ls.length hx, .slice hE' h.ks.length hx'] := hst.old (hDg.old hu24) (fun q hq => hq.imp (fun h => h) (fun h => ⟨by have := h.1; omega, by have := h.2; have := hu24.size; omega⟩))
 have hat4 : TmsAt (grow D w W4) W4 args A 0 := hat.old (hDg.old hu24) (fun q hq => hq.imp (fun h => h) (fun h => ⟨by have := h.1; omega, by have := h.2; have := hu24.size; omega⟩))
 have HST := Lib.hid hst4
 have HAT := Lib.hid hat4
 have BM4 := Lib.hid (show MacIs W4 mb ev fuel from Blk.upd HM.out hu04 (fun f => f))
 have hu04m : Upd (fun q => q = mb) w W4 := hu04.mono (fun _ f => f.elim)
 have hDW4 : Old D w W4 := hD.old hu04
 have c60 : W4.cell? ⟨w2.heap.size, 0, none⟩ = some (.int .i64 h.k) := HB6.out.cell 0
 have c67 : W4.cell? ⟨w2.heap.size, 7, none⟩ = some (.slice hE' h.ks.length hx') := HB6.out.cell 7
 have c70 : W4.cell? ⟨w2.heap.size + 1, 0, none⟩ = some (.slice A N c) := HB7.out.cell 0
 have l6 := HB6.out.lt
 have l7 := HB7.out.lt
 clear hW4 b0 b1 hst hat hst4 hat4 hN hsp hb2 hrec
 by_cases c1 : h.k = 4 ∧ h.ks.length = 2 ∧ 0 < N
 · obtain ⟨e1, e2, e3⟩ := c1
   have q1 : (h.k == 4) = true := by simp [e1]
   have q2 : ((h.ks.length : Int) == 2) = true := by simp [e2]
   have q3 : ((0 : Int) < (N : Int)) = True := by simp [e3]
   have q4 : (0 < N) = True := by simp [e3]
   have q5 : decide ((0 : Int) < (N : Int)) = true := by simp [e3]
   obtain ⟨k0, body, hks⟩ : ∃ k0 body, h.ks = [k0, body] := by
    match hh : h.ks, e2 with
    | [a, b], _ => exact ⟨a, b, rfl⟩
   obtain ⟨v, vs, hargs⟩ : ∃ v vs, args = v :: vs := by
    match hh : args, HN.out with
    | [], h0 => simp at h0; omega
    | v :: vs, _ => exact ⟨v, vs, rfl⟩
   have hres : ∀ n, wstep G (fun f x => wwhnf G n f x) fuel t = some (fuel, some (winst body v vs), 0) := fun n => by
    unfold wstep
    simp only [HSP.out, HN.out]
    rw [if_pos ⟨e1, e2, e3⟩, hks, hargs]
   have HR := Lib.hid hres
   have HKS := Lib.hid hks
   have HARGS := Lib.hid hargs
   clear hres hks hargs e1 e2 e3
   go_wp2_with fail
   rw [HW4.out]
   go_ret2
   exact ⟨0, fuel, some (winst body v vs), 0, _, HR.out 0, rfl, .inr ⟨_, _, _, _, rfl, rfl, fun _ _ => by go_simp, fun W hW hin => step1_any h args w2.heap.size (w2.heap.size + 1) k0 body v vs (grow D w W4) W hin
    ⟨_, (hW _ (.inr ⟨by omega, l6⟩)).trans HB6.out, HST.out.old hW (fun _ h => h)⟩ ⟨A, c, by rw [HN.out]; exact (hW _ (.inr ⟨by omega, l7⟩)).trans HB7.out, by rw [HN.out]; exact ⟨hal, hac⟩, HAT.out.old hW (fun _ h => h)⟩ HKS.out HARGS.out⟩, BM4.out, hu04m, Nat.le_refl _⟩
 by_cases c2 : h.k = 5 ∧ h.ks.length = 3
 · obtain ⟨e1, e2⟩ := c2
   have q0 : (h.k == 4) = false := by simp [e1]
   have q1 : (h.k == 5) = true := by simp [e1]
   have q2 : ((h.ks.length : Int) == 3) = true := by simp [e2]
   obtain ⟨k0, v, body, hks⟩ : ∃ k0 v body, h.ks = [k0, v, body] := by
    match hh : h.ks, e2 with
    | [a, b, c], _ => exact ⟨a, b, c, rfl⟩
   have hres : ∀ n, wstep G (fun f x => wwhnf G n f x) fuel t = some (fuel, some (winst body v args), 0) := fun n => by
    unfold wstep
    simp only [HSP.out, HN.out]
    rw [if_neg c1, if_pos ⟨e1, e2⟩, hks]
   have HR := Lib.hid hres
   have HKS := Lib.hid hks
   clear hres hks e1 e2 c1
   go_wp2_with fail
   rw [HW4.out]
   go_ret2
   exact ⟨0, fuel, some (winst body v args), 0, _, HR.out 0, rfl, .inr ⟨_, _, _, _, rfl, rfl, fun _ _ => by go_simp, fun W hW hin => step2_any h args w2.heap.size (w2.heap.size + 1) k0 v body (grow D w W4) W hin
    ⟨_, (hW _ (.inr ⟨by omega, l6⟩)).trans HB6.out, HST.out.old hW (fun _ h => h)⟩ ⟨A, c, by rw [HN.out]; exact (hW _ (.inr ⟨by omega, l7⟩)).trans HB7.out, by rw [HN.out]; exact ⟨hal, hac⟩, HAT.out.old hW (fun _ h => h)⟩ HKS.out⟩, BM4.out, hu04m, Nat.le_refl _⟩
 by_cases c3 : h.k ≠ 7
 · have hres : ∀ n, wstep G (fun f x => wwhnf G n f x) fuel t = some (fuel, none, 0) := fun n => by
     unfold wstep
     simp only [HSP.out, HN.out]
     rw [if_neg c1, if_neg c2, if_pos c3]
   have HR := Lib.hid hres
   have q7 : (h.k != 7) = true := by simp [c3]
   clear hres
   by_cases e4 : h.k = 4
   · have q4 : (h.k == 4) = true := by simp [e4]
     have q5 : (h.k == 5) = false := by simp [e4]
     by_cases e2 : h.ks.length = 2
     · have e3 : N = 0 := by
         have h1 := fun h3 => c1 ⟨e4, e2, h3⟩
         omega
       have q2 : ((h.ks.length : Int) == 2) = true := by simp [e2]
       have p3 : ((0 : Int) < (N : Int)) = False := by simp [e3]
       have p4 : (0 < N) = False := by simp [e3]
       have p5 : decide ((0 : Int) < (N : Int)) = false := by simp [e3]
       clear c1 c2 c3 e4 e2 e3
       go_wp2_with fail
       rw [HW4.out]
       go_ret2
       exact ⟨0, fuel, none, 0, _, HR.out 0, rfl, .inl ⟨rfl, rfl⟩, BM4.out, hu04m, Nat.le_refl _⟩
     · have q2 : ((h.ks.length : Int) == 2) = false := by simp; omega
       clear c1 c2 c3 e4 e2
       go_wp2_with fail
       rw [HW4.out]
       go_ret2
       exact ⟨0, fuel, none, 0, _, HR.out 0, rfl, .inl ⟨rfl, rfl⟩, BM4.out, hu04m, Nat.le_refl _⟩
   have q4 : (h.k == 4) = false := by simp [e4]
   by_cases e5 : h.k = 5
   · have q5 : (h.k == 5) = true := by simp [e5]
     have q2 : ((h.ks.length : Int) == 3) = false := by
      have h1 := fun h3 => c2 ⟨e5, h3⟩
      simp; omega
     clear c1 c2 c3 e4 e5
     go_wp2_with fail
     rw [HW4.out]
     go_ret2
     exact ⟨0, fuel, none, 0, _, HR.out 0, rfl, .inl ⟨rfl, rfl⟩, BM4.out, hu04m, Nat.le_refl _⟩
   have q5 : (h.k == 5) = false := by simp [e5]
   clear c1 c2 c3 e4 e5
   go_wp2_with fail
   rw [HW4.out]
   go_ret2
   exact ⟨0, fuel, none, 0, _, HR.out 0, rfl, .inl ⟨rfl, rfl⟩, BM4.out, hu04m, Nat.le_refl _⟩
 · have k7 : h.k = 7 := by omega
   have q4 : (h.k == 4) = false := by simp [k7]
   have q5 : (h.k == 5) = false := by simp [k7]
   have q7 : (h.k != 7) = false := by simp [k7]
   have C1 := Lib.hid c1
   have C2 := Lib.hid c2
   have C3 := Lib.hid c3
   clear c1 c2 c3 k7
   have m0 : W4.cell? ⟨mb, 0, none⟩ = some ev := Blk.cell BM4.out 0
   have lM := Blk.lt BM4.out
   have s2 : W4.cell? ⟨w2.heap.size, 2, none⟩ = some (.string h.nm) := HB6.out.cell 2
   go_wp2_with fail
   rw [HW4.out]
   have hD4 : Within D W4 := hD.up hu04
   refine wp_region_P (by kernel_rfl) ?_
   refine wpAny_of_E (fun X : World => ∀ p : Addr, p.block < W4.heap.size → X.cell? p = W4.cell? p) 8 _ _ _ _ ?_
   have hS : ∀ p : Addr, p.block < W4.heap.size → W4.drew.cell? p = W4.cell? p := fun _ _ => rfl
   refine eT 0 ?_ [] rfl (by kernel_rfl) (by rfl) ?_ hS ?_
   rotate_left; · intro wx hx; clear hx; go_simp; with_reducible rfl
   try simp only [tl]
   refine eT 1 ?_ [] rfl (by kernel_rfl) (by rfl) ?_ hS ?_
   rotate_left; · intro wx hx; clear hx; go_simp; with_reducible rfl
   try simp only [tl]
   refine eT 2 ?_ [] rfl (by kernel_rfl) (by rfl) ?_ hS ?_
   rotate_left; · intro wx hx; clear hx; go_simp; with_reducible rfl
   try simp only [tl]
   refine eT 3 ?_ [] rfl (by kernel_rfl) (by rfl) ?_ hS ?_
   rotate_left
   · intro wx hx
     have q0 := (hx ⟨mb, 0, none⟩ lM).trans m0
     clear hx
     go_simp
     with_reducible rfl
   try simp only [tl]
   refine eT 4 ?_ [] rfl (by kernel_rfl) (by rfl) ?_ hS ?_
   rotate_left; · intro wx hx; clear hx; go_simp; with_reducible rfl
   try simp only [tl]
   refine eT 5 ?_ [] rfl (by kernel_rfl) (by rfl) ?_ hS ?_
   rotate_left
   · intro wx hx
     have q0 := (hx ⟨w2.heap.size, 2, none⟩ l6).trans s2
     clear hx
     go_simp
     with_reducible rfl
   try simp only [tl]
   refine wpAnyE_br (i := 6) (j := 7) (by kernel_rfl) (by kernel_rfl) (by kernel_rfl) rfl rfl (by rfl) (by rfl) (fun K hK => ?_) (fun K hK => ?_)
   · go_simp
     refine (find_any ev G h.nm D W4.drew (HE.out.old (w' := W4.drew) hDW4 (fun _ h => h))).mono ?_
     rintro e wf ⟨qp, rfl, hfound, rfl⟩
     have HFO := Lib.hid (show FoundIs D W4 G h.nm qp from hfound.old (fun _ _ => rfl) (fun _ h => h))
     clear hfound
     refine hK _ _ (fun _ _ => rfl) ?_
     clear hK K; try simp only [tl]
     refine wpAnyE_one (i := 7) (by kernel_rfl) (by kernel_rfl) rfl (by rfl) fun K hK => ?_
     go_simp
     obtain ⟨v1, hwv1⟩ : ∃ x, (W4.alloc (.cells #[.pointer none] 88)).drew = x := ⟨_, rfl⟩
     have huv1 : Upd nob W4 v1 := by rw [← hwv1]; exact ((Upd.refl nob W4).alloc _).drew
     have hbv1 : Blk v1 W4.heap.size 88 #[.pointer none] := by rw [← hwv1]; exact Blk.new W4 _ _
     have hzv1 : v1.heap.size = W4.heap.size + 1 := by rw [← hwv1]; simp
     rw [hwv1]
     clear hwv1
     refine hK _ _ (cells_of_upd huv1) ?_
     clear hK K; try simp only [tl]
     have hS : ∀ p : Addr, p.block < W4.heap.size → v1.cell? p = W4.cell? p := cells_of_upd huv1
     have HBv1 := Lib.hid hbv1
     have HZv1 := Lib.hid hzv1
     clear hbv1 hzv1
     have hbc : v1.cell? ⟨W4.heap.size, 0, none⟩ = some (.pointer none) := HBv1.out.cell 0
     have hbz := HBv1.out.frozen 0
     have hbl := HBv1.out.lt
     rcases HFO.out with ⟨rfl, hfn⟩ | ⟨g, gb, gcs, rfl, hfs, hgD, hgb, hgl⟩
     · have HFS := Lib.hid hfn
       clear hfn
       refine wpAnyE_z (by kernel_rfl) rfl (by rfl) fun K hK => ?_
       go_simp
       refine hK _ _ ?_
       clear hK K; try simp only [tl]
       refine wpAny_done (by kernel_rfl) ?_ _
       refine NoPanic.normal ?_
       have hset : Upd (fun q => q = W4.heap.size) v1 (v1.setCell ⟨W4.heap.size, 0, none⟩ (.pointer none)) := (Upd.refl (fun q => q = W4.heap.size) v1).setCell (p := ⟨W4.heap.size, 0, none⟩) (.inl rfl) _
       have hBW : Blk (v1.setCell ⟨W4.heap.size, 0, none⟩ (.pointer none)) W4.heap.size 88 #[(.pointer none)] := HBv1.out.set 0 (.pointer none)
       obtain ⟨W5, hW5⟩ : ∃ x, v1.setCell ⟨W4.heap.size, 0, none⟩ (.pointer none) = x := ⟨_, rfl⟩
       rw [hW5] at hset hBW
       rw [hW5]
       clear hW5 hbc hbz hbl
       have hu45 : Upd nob W4 W5 := huv1.trans' hset (fun q hq h => by have : q = W4.heap.size := h; omega)
       have hz5 := hu45.size
       have l8 := hBW.lt
       have c8 : W5.cell? ⟨W4.heap.size, 0, none⟩ = some ((.pointer none)) := hBW.cell 0
       have HB8 := Lib.hid hBW
       clear hset hBW
       have BM5 := Lib.hid (show MacIs W5 mb ev fuel from Blk.upd BM4.out hu45 (fun f => f))
       have hu05m : Upd (fun q => q = mb) w W5 := hu04m.trans (hu45.mono (fun _ f => f.elim))
       have b65 := HB6.out.upd hu45 (fun f => f)
       have c64 : W5.cell? ⟨w2.heap.size, 6, none⟩ = some (.slice hE_ h.ls.length hx) := b65.cell 6
       have l65 := b65.lt
       clear b65 hS
       go_wp2_with fail
       have hres : ∀ n, wstep G (fun f x => wwhnf G n f x) fuel t = some (fuel, none, 0) := fun n => by
        unfold wstep
        simp only [HSP.out, HN.out]
        rw [if_neg C1.out, if_neg C2.out, if_neg C3.out, HFS.out]
       have HR := Lib.hid hres
       clear hres
       refine wp_region_P (by kernel_rfl) ?_
       refine wpAny_of_held (S := fun X : World => ∀ p : Addr, p.block < W5.heap.size → X.cell? p = W5.cell? p) _ _ _ _ ?_
       have hS : ∀ p : Addr, p.block < W5.heap.size → W5.drew.cell? p = W5.cell? p := fun _ _ => rfl
       refine hT 0 ?_ rfl (by kernel_rfl) (by rfl) ?_ hS ?_
       rotate_left
       · intro wx hx
         have q0 := (hx ⟨W4.heap.size, 0, none⟩ l8).trans c8
         clear hx
         go_simp
         with_reducible rfl
       try simp only [tl]
       refine hT 1 ?_ rfl (by kernel_rfl) (by rfl) ?_ hS ?_
       rotate_left; · intro wx hx; clear hx; go_simp; with_reducible rfl
       try simp only [tl]
       refine hT 2 ?_ rfl (by kernel_rfl) (by rfl) ?_ hS ?_
       rotate_left; · intro wx hx; clear hx; go_simp; with_reducible rfl
       try simp only [tl]
       refine wpAnyH_take (i := 3) (v := undef) rfl (by kernel_rfl) (by kernel_rfl) (by kernel_rfl) (fun _ _ _ h => h) (Or.inr ⟨by rfl, by rfl⟩) hS ?_
       try simp only [tl]
       refine wpAnyH_take (i := 4) (v := undef) rfl (by kernel_rfl) (by kernel_rfl) (by kernel_rfl) (fun _ _ _ h => h) (Or.inr ⟨by rfl, by rfl⟩) hS ?_
       try simp only [tl]
       refine wpAnyH_take (i := 5) (v := undef) rfl (by kernel_rfl) (by kernel_rfl) (by kernel_rfl) (fun _ _ _ h => h) (Or.inr ⟨by rfl, by rfl⟩) hS ?_
       try simp only [tl]
       refine wpAnyH_take (i := 6) (v := undef) rfl (by kernel_rfl) (by kernel_rfl) (by kernel_rfl) (fun _ _ _ h => h) (Or.inr ⟨by rfl, by rfl⟩) hS ?_
       try simp only [tl]
       refine wpAnyH_take (i := 7) (v := undef) rfl (by kernel_rfl) (by kernel_rfl) (by kernel_rfl) (fun _ _ _ h => h) (Or.inr ⟨by rfl, by rfl⟩) hS ?_
       try simp only [tl]
       refine wpAnyH_take (i := 8) (v := undef) rfl (by kernel_rfl) (by kernel_rfl) (by kernel_rfl) (fun _ _ _ h => h) (Or.inr ⟨by rfl, by rfl⟩) hS ?_
       try simp only [tl]
       refine wpAnyH_take (i := 9) (v := undef) rfl (by kernel_rfl) (by kernel_rfl) (by kernel_rfl) (fun _ _ _ h => h) (Or.inr ⟨by rfl, by rfl⟩) hS ?_
       try simp only [tl]
       refine wpAnyH_take (i := 10) (v := undef) rfl (by kernel_rfl) (by kernel_rfl) (by kernel_rfl) (fun _ _ _ h => h) (Or.inr ⟨by rfl, by rfl⟩) hS ?_
       try simp only [tl]
       refine hT 11 ?_ rfl (by kernel_rfl) (by rfl) ?_ hS ?_
       rotate_left; · intro wx hx; clear hx; go_simp; with_reducible rfl
       try simp only [tl]
       refine hT 12 ?_ rfl (by kernel_rfl) (by rfl) ?_ hS ?_
       rotate_left; · intro wx hx; clear hx; go_simp; with_reducible rfl
       try simp only [tl]
       refine wpAnyH_done (by kernel_rfl) ?_ _
       refine NoPanic.normal ?_
       go_wp2_with fail
       go_ret2
       exact ⟨0, fuel, none, 0, _, HR.out 0, rfl, .inl ⟨rfl, rfl⟩, BM5.out.drew', hu05m.drew, Nat.le_refl _⟩
     have HFS := Lib.hid hfs
     obtain ⟨ga0, ga1, ga2, ga3, ga4, ga5, ga6, ga7, gb0, gb1, gb2, gb3, gb4, gb5, gb6, gb7, gC, gcc, R, rc, rfl, gi_, gi2_, gty, gval, gct, gcl, gru, grl⟩ := id hgl
     have HGL := Lib.hid hgl
     clear hfs hgl gty gval gct gru
     refine wpAnyE_z (by kernel_rfl) rfl (by rfl) fun K hK => ?_
     go_simp
     refine hK _ _ ?_
     clear hK K; try simp only [tl]
     refine wpAny_done (by kernel_rfl) ?_ _
     refine NoPanic.normal ?_
     have hset : Upd (fun q => q = W4.heap.size) v1 (v1.setCell ⟨W4.heap.size, 0, none⟩ (.pointer (some ⟨gb, 0, none⟩))) := (Upd.refl (fun q => q = W4.heap.size) v1).setCell (p := ⟨W4.heap.size, 0, none⟩) (.inl rfl) _
     have hBW : Blk (v1.setCell ⟨W4.heap.size, 0, none⟩ (.pointer (some ⟨gb, 0, none⟩))) W4.heap.size 88 #[(.pointer (some ⟨gb, 0, none⟩))] := HBv1.out.set 0 (.pointer (some ⟨gb, 0, none⟩))
     obtain ⟨W5, hW5⟩ : ∃ x, v1.setCell ⟨W4.heap.size, 0, none⟩ (.pointer (some ⟨gb, 0, none⟩)) = x := ⟨_, rfl⟩
     rw [hW5] at hset hBW
     rw [hW5]
     clear hW5 hbc hbz hbl
     have hu45 : Upd nob W4 W5 := huv1.trans' hset (fun q hq h => by have : q = W4.heap.size := h; omega)
     have hz5 := hu45.size
     have l8 := hBW.lt
     have c8 : W5.cell? ⟨W4.heap.size, 0, none⟩ = some ((.pointer (some ⟨gb, 0, none⟩))) := hBW.cell 0
     have HB8 := Lib.hid hBW
     clear hset hBW
     have BM5 := Lib.hid (show MacIs W5 mb ev fuel from Blk.upd BM4.out hu45 (fun f => f))
     have hu05m : Upd (fun q => q = mb) w W5 := hu04m.trans (hu45.mono (fun _ f => f.elim))
     have b65 := HB6.out.upd hu45 (fun f => f)
     have c64 : W5.cell? ⟨w2.heap.size, 6, none⟩ = some (.slice hE_ h.ls.length hx) := b65.cell 6
     have l65 := b65.lt
     clear b65 hS
     go_wp2_with fail
     have hgW5 : Blk W5 gb 50 #[.int .i64 g.kind, .string g.nm, .int .i64 g.vars, ga0, ga1, ga2, ga3, ga4, ga5, ga6, ga7, gb0, gb1, gb2, gb3, gb4, gb5, gb6, gb7, .string g.ind, .int .i64 g.params, .int .i64 g.indices, .int .i64 g.fields, .slice gC g.ctors.length gcc, .int .i64 g.minors, .slice R g.rules.length rc] := hgb.upd hu45 (fun f => f)
     have c2 : W5.cell? ⟨gb, 2, none⟩ = some (.int .i64 g.vars) := hgW5.cell 2
     have lg := hgW5.lt
     have HG5 := Lib.hid hgW5
     clear hgW5
     by_cases hv : (h.ls.length : Int) ≠ g.vars
     · have qv : ((h.ls.length : Int) != g.vars) = true := by simp [hv]
       have hres : ∀ n, wstep G (fun f x => wwhnf G n f x) fuel t = some (fuel, none, 0) := fun n => by
        unfold wstep
        simp only [HSP.out, HN.out]
        rw [if_neg C1.out, if_neg C2.out, if_neg C3.out, HFS.out]
        simp only
        rw [if_pos hv]
       have HR := Lib.hid hres
       clear hres
       clear hv
       refine wp_region_P (by kernel_rfl) ?_
       refine wpAny_of_held (S := fun X : World => ∀ p : Addr, p.block < W5.heap.size → X.cell? p = W5.cell? p) _ _ _ _ ?_
       have hS : ∀ p : Addr, p.block < W5.heap.size → W5.drew.cell? p = W5.cell? p := fun _ _ => rfl
       refine hT 0 ?_ rfl (by kernel_rfl) (by rfl) ?_ hS ?_
       rotate_left
       · intro wx hx
         have q0 := (hx ⟨W4.heap.size, 0, none⟩ l8).trans c8
         clear hx
         go_simp
         with_reducible rfl
       try simp only [tl]
       refine hT 1 ?_ rfl (by kernel_rfl) (by rfl) ?_ hS ?_
       rotate_left; · intro wx hx; clear hx; go_simp; with_reducible rfl
       try simp only [tl]
       refine hT 2 ?_ rfl (by kernel_rfl) (by rfl) ?_ hS ?_
       rotate_left; · intro wx hx; clear hx; go_simp; with_reducible rfl
       try simp only [tl]
       refine hT 3 ?_ rfl (by kernel_rfl) (by rfl) ?_ hS ?_
       rotate_left; · intro wx hx; clear hx; go_simp; with_reducible rfl
       try simp only [tl]
       refine hT 4 ?_ rfl (by kernel_rfl) (by rfl) ?_ hS ?_
       rotate_left
       · intro wx hx
         have q0 := (hx ⟨w2.heap.size, 6, none⟩ l65).trans c64
         clear hx
         go_simp
         with_reducible rfl
       try simp only [tl]
       refine hT 5 ?_ rfl (by kernel_rfl) (by rfl) ?_ hS ?_
       rotate_left; · intro wx hx; clear hx; go_simp; with_reducible rfl
       try simp only [tl]
       refine hT 6 ?_ rfl (by kernel_rfl) (by rfl) ?_ hS ?_
       rotate_left
       · intro wx hx
         have q0 := (hx ⟨W4.heap.size, 0, none⟩ l8).trans c8
         clear hx
         go_simp
         with_reducible rfl
       try simp only [tl]
       refine hT 7 ?_ rfl (by kernel_rfl) (by rfl) ?_ hS ?_
       rotate_left; · intro wx hx; clear hx; go_simp; with_reducible rfl
       try simp only [tl]
       refine hT 8 ?_ rfl (by kernel_rfl) (by rfl) ?_ hS ?_
       rotate_left; · intro wx hx; clear hx; go_simp; with_reducible rfl
       try simp only [tl]
       refine hT 9 ?_ rfl (by kernel_rfl) (by rfl) ?_ hS ?_
       rotate_left
       · intro wx hx
         have q0 := (hx ⟨gb, 2, none⟩ lg).trans c2
         clear hx
         go_simp
         with_reducible rfl
       try simp only [tl]
       refine hT 10 ?_ rfl (by kernel_rfl) (by rfl) ?_ hS ?_
       rotate_left; · intro wx hx; clear hx; go_simp; with_reducible rfl
       try simp only [tl]
       refine hT 11 ?_ rfl (by kernel_rfl) (by rfl) ?_ hS ?_
       rotate_left; · intro wx hx; clear hx; go_simp; with_reducible rfl
       try simp only [tl]
       refine hT 12 ?_ rfl (by kernel_rfl) (by rfl) ?_ hS ?_
       rotate_left; · intro wx hx; clear hx; go_simp; with_reducible rfl
       try simp only [tl]
       refine wpAnyH_done (by kernel_rfl) ?_ _
       refine NoPanic.normal ?_
       go_wp2_with fail
       go_ret2
       exact ⟨0, fuel, none, 0, _, HR.out 0, rfl, .inl ⟨rfl, rfl⟩, BM5.out.drew', hu05m.drew, Nat.le_refl _⟩
     have qv : ((h.ls.length : Int) != g.vars) = false := by simp; omega
     have HV := Lib.hid hv
     clear hv
     refine wp_region_P (by kernel_rfl) ?_
     refine wpAny_of_held (S := fun X : World => ∀ p : Addr, p.block < W5.heap.size → X.cell? p = W5.cell? p) _ _ _ _ ?_
     have hS : ∀ p : Addr, p.block < W5.heap.size → W5.drew.cell? p = W5.cell? p := fun _ _ => rfl
     refine hT 0 ?_ rfl (by kernel_rfl) (by rfl) ?_ hS ?_
     rotate_left
     · intro wx hx
       have q0 := (hx ⟨W4.heap.size, 0, none⟩ l8).trans c8
       clear hx
       go_simp
       with_reducible rfl
     try simp only [tl]
     refine hT 1 ?_ rfl (by kernel_rfl) (by rfl) ?_ hS ?_
     rotate_left; · intro wx hx; clear hx; go_simp; with_reducible rfl
     try simp only [tl]
     refine hT 2 ?_ rfl (by kernel_rfl) (by rfl) ?_ hS ?_
     rotate_left; · intro wx hx; clear hx; go_simp; with_reducible rfl
     try simp only [tl]
     refine hT 3 ?_ rfl (by kernel_rfl) (by rfl) ?_ hS ?_
     rotate_left; · intro wx hx; clear hx; go_simp; with_reducible rfl
     try simp only [tl]
     refine hT 4 ?_ rfl (by kernel_rfl) (by rfl) ?_ hS ?_
     rotate_left
     · intro wx hx
       have q0 := (hx ⟨w2.heap.size, 6, none⟩ l65).trans c64
       clear hx
       go_simp
       with_reducible rfl
     try simp only [tl]
     refine hT 5 ?_ rfl (by kernel_rfl) (by rfl) ?_ hS ?_
     rotate_left; · intro wx hx; clear hx; go_simp; with_reducible rfl
     try simp only [tl]
     refine hT 6 ?_ rfl (by kernel_rfl) (by rfl) ?_ hS ?_
     rotate_left
     · intro wx hx
       have q0 := (hx ⟨W4.heap.size, 0, none⟩ l8).trans c8
       clear hx
       go_simp
       with_reducible rfl
     try simp only [tl]
     refine hT 7 ?_ rfl (by kernel_rfl) (by rfl) ?_ hS ?_
     rotate_left; · intro wx hx; clear hx; go_simp; with_reducible rfl
     try simp only [tl]
     refine hT 8 ?_ rfl (by kernel_rfl) (by rfl) ?_ hS ?_
     rotate_left; · intro wx hx; clear hx; go_simp; with_reducible rfl
     try simp only [tl]
     refine hT 9 ?_ rfl (by kernel_rfl) (by rfl) ?_ hS ?_
     rotate_left
     · intro wx hx
       have q0 := (hx ⟨gb, 2, none⟩ lg).trans c2
       clear hx
       go_simp
       with_reducible rfl
     try simp only [tl]
     refine hT 10 ?_ rfl (by kernel_rfl) (by rfl) ?_ hS ?_
     rotate_left; · intro wx hx; clear hx; go_simp; with_reducible rfl
     try simp only [tl]
     refine hT 11 ?_ rfl (by kernel_rfl) (by rfl) ?_ hS ?_
     rotate_left; · intro wx hx; clear hx; go_simp; with_reducible rfl
     try simp only [tl]
     refine hT 12 ?_ rfl (by kernel_rfl) (by rfl) ?_ hS ?_
     rotate_left; · intro wx hx; clear hx; go_simp; with_reducible rfl
     try simp only [tl]
     refine wpAnyH_done (by kernel_rfl) ?_ _
     refine NoPanic.normal ?_
     obtain ⟨W6, hW6⟩ : ∃ W6, W5.drew = W6 := ⟨_, rfl⟩
     have hu56 : Upd nob W5 W6 := by rw [← hW6]; exact (Upd.refl nob W5).drew
     first
      | rw [hW6]
      | rw [show ({ heap := W5.heap, tape := W5.tape, drawn := W5.drawn + 1, os := W5.os, output := W5.output } : World) = W6 from hW6]
     clear hW6 hS c8 c64 c2
     have hu46 := hu45.trans hu56
     have hu06m : Upd (fun q => q = mb) w W6 := hu04m.trans (hu46.mono (fun _ f => f.elim))
     have hu06 : Upd nob w W6 := hu04.trans hu46
     have hDW6 : Old D w W6 := hD.old hu06
     have BM6 := Lib.hid (show MacIs W6 mb ev fuel from Blk.upd BM5.out hu56 (fun f => f))
     have B8 := Lib.hid (HB8.out.upd hu56 (fun f => f))
     have G6 := Lib.hid (HG5.out.upd hu56 (fun f => f))
     have B6 := Lib.hid (HB6.out.upd hu46 (fun f => f))
     have B7 := Lib.hid (HB7.out.upd hu46 (fun f => f))
     have c8 : W6.cell? ⟨W4.heap.size, 0, none⟩ = some (.pointer (some ⟨gb, 0, none⟩)) := B8.out.cell 0
     have c0 : W6.cell? ⟨gb, 0, none⟩ = some (.int .i64 g.kind) := G6.out.cell 0
     have hz6 := hu46.size
     have hDg4 : Within (grow D w W4) W4 := hD.grow hu04.size
     have HST6 := Lib.hid (show TmIs (grow D w W6) W6 h #[.int .i64 h.k, .int .i64 h.n, .string h.nm, .int .i64 hp, .int .i64 hq, .slice hB hm hd, .slice hE_ h.ls.length hx, .slice hE' h.ks.length hx'] from HST.out.old (hDg4.old hu46) (fun q hq => hq.imp (fun h => h) (fun h => ⟨h.1, by have := h.2; omega⟩)))
     have HAT6 := Lib.hid (show TmsAt (grow D w W6) W6 args A 0 from HAT.out.old (hDg4.old hu46) (fun q hq => hq.imp (fun h => h) (fun h => ⟨h.1, by have := h.2; omega⟩)))
     have HGL6 := Lib.hid (show GlIs (grow D w W6) W6 g #[.int .i64 g.kind, .string g.nm, .int .i64 g.vars, ga0, ga1, ga2, ga3, ga4, ga5, ga6, ga7, gb0, gb1, gb2, gb3, gb4, gb5, gb6, gb7, .string g.ind, .int .i64 g.params, .int .i64 g.indices, .int .i64 g.fields, .slice gC g.ctors.length gcc, .int .i64 g.minors, .slice R g.rules.length rc] from HGL.out.old (hD4.old hu46) (fun _ h => .inl h))
     by_cases k2 : g.kind = 2
     · have qk : (g.kind == 2) = true := by simp [k2]
       have hres : ∀ n, wstep G (fun f x => wwhnf G n f x) fuel t = some (fuel, some (wlevels g.val h.ls args), 0) := fun n => by
        unfold wstep
        simp only [HSP.out, HN.out]
        rw [if_neg C1.out, if_neg C2.out, if_neg C3.out, HFS.out]
        simp only
        rw [if_neg HV.out, if_pos k2]
       have HR := Lib.hid hres
       clear hres
       clear k2
       go_wp2_with fail
       go_ret2
       have l66 := B6.out.lt
       have l67 := B7.out.lt
       have l68 := B8.out.lt
       have hz4' := hu04.size
       exact ⟨0, fuel, some (wlevels g.val h.ls args), 0, _, HR.out 0, rfl, .inr ⟨_, _, _, _, rfl, rfl, fun _ _ => by go_simp, fun W hW hin => step3_any h args W4.heap.size w2.heap.size (w2.heap.size + 1) gb g #[.int .i64 g.kind, .string g.nm, .int .i64 g.vars, ga0, ga1, ga2, ga3, ga4, ga5, ga6, ga7, gb0, gb1, gb2, gb3, gb4, gb5, gb6, gb7, .string g.ind, .int .i64 g.params, .int .i64 g.indices, .int .i64 g.fields, .slice gC g.ctors.length gcc, .int .i64 g.minors, .slice R g.rules.length rc] (grow D w W6) W hin ((hW _ (.inr ⟨by omega, l68⟩)).trans B8.out) ((hW _ (.inl hgD)).trans G6.out) (HGL6.out.old hW (fun _ h => h))
        ⟨_, (hW _ (.inr ⟨by omega, l66⟩)).trans B6.out, HST6.out.old hW (fun _ h => h)⟩ ⟨A, c, by rw [HN.out]; exact (hW _ (.inr ⟨by omega, l67⟩)).trans B7.out, by rw [HN.out]; exact ⟨hal, hac⟩, HAT6.out.old hW (fun _ h => h)⟩⟩, BM6.out, hu06m, Nat.le_refl _⟩
     have qk : (g.kind == 2) = false := by simp [k2]
     by_cases k5 : g.kind = 5
     · have qk5 : (g.kind == 5) = true := by simp [k5]
       have hwi : ∀ n, wstep G (fun f x => wwhnf G n f x) fuel t = wiota G (fun f x => wwhnf G n f x) fuel g h args := fun n => by
        unfold wstep
        simp only [HSP.out, HN.out]
        rw [if_neg C1.out, if_neg C2.out, if_neg C3.out, HFS.out]
        simp only
        rw [if_neg HV.out, if_neg k2, if_pos k5]
       have HR := Lib.hid hwi
       clear k2 k5 hwi
       have r6 := B6.out.rowAt
       have c70 : W6.cell? ⟨w2.heap.size + 1, 0, none⟩ = some (.slice A N c) := B7.out.cell 0
       have hcall := iota_any G ev mb fuel g #[.int .i64 g.kind, .string g.nm, .int .i64 g.vars, ga0, ga1, ga2, ga3, ga4, ga5, ga6, ga7, gb0, gb1, gb2, gb3, gb4, gb5, gb6, gb7, .string g.ind, .int .i64 g.params, .int .i64 g.indices, .int .i64 g.fields, .slice gC g.ctors.length gcc, .int .i64 g.minors, .slice R g.rules.length rc] gb h #[.int .i64 h.k, .int .i64 h.n, .string h.nm, .int .i64 hp, .int .i64 hq, .slice hB hm hd, .slice hE_ h.ls.length hx, .slice hE' h.ks.length hx'] args A c (grow D w W6) W6 (hD.grow hu06.size) (fun hq => hq.elim hmb (fun hq => by have := hq.1; omega)) (by have := hu06.size; omega) (HE.out.old hDW6 (fun _ h => .inl h)) (.inl hgD) G6.out HGL6.out HST6.out HAT6.out (by rw [HN.out]; exact ⟨hal, hac⟩) BM6.out (by rw [HN.out]; exact hF2) HREC.out
       rw [HN.out] at hcall
       have HC2 := Lib.hid hcall
       clear hcall
       go_wp2_with (first
        | ((with_reducible refine this_op (.load 28 (.tmp 6)) ?_); refine wpList_at rfl 28 (.tmp 6) rfl ⟨w2.heap.size, 0, none⟩ rfl _ _ r6 Tryz.underlying28 rfl tm_size ?_))
       refine HC2.out.mono ?_
       rintro e w9 ⟨n, f1, nx, err, fv, hio, rfl, hnx, hM9, hu9, hle⟩
       have HIO := Lib.hid ((HR.out n).trans hio)
       have HNX := Lib.hid (show NextIs (grow D w w9) w9 fv nx from hnx.old (Old.refl _ _) (fun q hq => by
        have := hu06.size
        have := hu9.size
        rcases hq with (hq | hq) | hq
        · exact .inl hq
        · exact .inr ⟨hq.1, by have := hq.2; omega⟩
        exact .inr ⟨by have := hq.1; omega, hq.2⟩))
       have HM9 := Lib.hid hM9
       have hu09m := hu06m.trans hu9
       clear hio hnx hM9
       go_wp2_with fail
       go_ret2
       exact ⟨n, f1, nx, err, fv, HIO.out, rfl, HNX.out, HM9.out, hu09m, hle⟩
     have qk5 : (g.kind == 5) = false := by simp [k5]
     have hres : ∀ n, wstep G (fun f x => wwhnf G n f x) fuel t = some (fuel, none, 0) := fun n => by
      unfold wstep
      simp only [HSP.out, HN.out]
      rw [if_neg C1.out, if_neg C2.out, if_neg C3.out, HFS.out]
      simp only
      rw [if_neg HV.out, if_neg k2, if_neg k5]
     have HR := Lib.hid hres
     clear hres
     clear k2 k5
     go_wp2_with fail
     go_ret2
     exact ⟨0, fuel, none, 0, _, HR.out 0, rfl, .inl ⟨rfl, rfl⟩, BM6.out, hu06m, Nat.le_refl _⟩
   go_simp
   obtain ⟨v1, hwv1⟩ : ∃ x, (W4.alloc (.cells #[.pointer none] 88)).drew = x := ⟨_, rfl⟩
   have huv1 : Upd nob W4 v1 := by rw [← hwv1]; exact ((Upd.refl nob W4).alloc _).drew
   have hbv1 : Blk v1 W4.heap.size 88 #[.pointer none] := by rw [← hwv1]; exact Blk.new W4 _ _
   have hzv1 : v1.heap.size = W4.heap.size + 1 := by rw [← hwv1]; simp
   rw [hwv1]
   clear hwv1
   refine hK _ _ (cells_of_upd huv1) ?_
   clear hK K; try simp only [tl]
   have hS : ∀ p : Addr, p.block < W4.heap.size → v1.cell? p = W4.cell? p := cells_of_upd huv1
   have HBv1 := Lib.hid hbv1
   have HZv1 := Lib.hid hzv1
   clear hbv1 hzv1
   refine wpAnyE_one (i := 6) (by kernel_rfl) (by kernel_rfl) rfl (by rfl) fun K hK => ?_
   go_simp
   refine (find_any ev G h.nm D v1 (HE.out.old (w' := v1) (hDW4.trans (Old.of_upd huv1 (fun q hq => ⟨fun f => f, hD4 q hq⟩))) (fun _ h => h))).mono ?_
   rintro e v1 ⟨qp, rfl, hfound, rfl⟩
   have HFO := Lib.hid (show FoundIs D W4 G h.nm qp from hfound.old (fun q hq => (huv1.block q (hD4 q hq) (fun f => f)).symm) (fun _ h => h))
   clear hfound
   refine hK _ _ (cells_of_upd huv1) ?_
   clear hK K; try simp only [tl]
   have hbc : v1.cell? ⟨W4.heap.size, 0, none⟩ = some (.pointer none) := HBv1.out.cell 0
   have hbz := HBv1.out.frozen 0
   have hbl := HBv1.out.lt
   rcases HFO.out with ⟨rfl, hfn⟩ | ⟨g, gb, gcs, rfl, hfs, hgD, hgb, hgl⟩
   · have HFS := Lib.hid hfn
     clear hfn
     refine wpAnyE_z (by kernel_rfl) rfl (by rfl) fun K hK => ?_
     go_simp
     refine hK _ _ ?_
     clear hK K; try simp only [tl]
     refine wpAny_done (by kernel_rfl) ?_ _
     refine NoPanic.normal ?_
     have hset : Upd (fun q => q = W4.heap.size) v1 (v1.setCell ⟨W4.heap.size, 0, none⟩ (.pointer none)) := (Upd.refl (fun q => q = W4.heap.size) v1).setCell (p := ⟨W4.heap.size, 0, none⟩) (.inl rfl) _
     have hBW : Blk (v1.setCell ⟨W4.heap.size, 0, none⟩ (.pointer none)) W4.heap.size 88 #[(.pointer none)] := HBv1.out.set 0 (.pointer none)
     obtain ⟨W5, hW5⟩ : ∃ x, v1.setCell ⟨W4.heap.size, 0, none⟩ (.pointer none) = x := ⟨_, rfl⟩
     rw [hW5] at hset hBW
     rw [hW5]
     clear hW5 hbc hbz hbl
     have hu45 : Upd nob W4 W5 := huv1.trans' hset (fun q hq h => by have : q = W4.heap.size := h; omega)
     have hz5 := hu45.size
     have l8 := hBW.lt
     have c8 : W5.cell? ⟨W4.heap.size, 0, none⟩ = some ((.pointer none)) := hBW.cell 0
     have HB8 := Lib.hid hBW
     clear hset hBW
     have BM5 := Lib.hid (show MacIs W5 mb ev fuel from Blk.upd BM4.out hu45 (fun f => f))
     have hu05m : Upd (fun q => q = mb) w W5 := hu04m.trans (hu45.mono (fun _ f => f.elim))
     have b65 := HB6.out.upd hu45 (fun f => f)
     have c64 : W5.cell? ⟨w2.heap.size, 6, none⟩ = some (.slice hE_ h.ls.length hx) := b65.cell 6
     have l65 := b65.lt
     clear b65 hS
     go_wp2_with fail
     have hres : ∀ n, wstep G (fun f x => wwhnf G n f x) fuel t = some (fuel, none, 0) := fun n => by
      unfold wstep
      simp only [HSP.out, HN.out]
      rw [if_neg C1.out, if_neg C2.out, if_neg C3.out, HFS.out]
     have HR := Lib.hid hres
     clear hres
     refine wp_region_P (by kernel_rfl) ?_
     refine wpAny_of_held (S := fun X : World => ∀ p : Addr, p.block < W5.heap.size → X.cell? p = W5.cell? p) _ _ _ _ ?_
     have hS : ∀ p : Addr, p.block < W5.heap.size → W5.drew.cell? p = W5.cell? p := fun _ _ => rfl
     refine hT 0 ?_ rfl (by kernel_rfl) (by rfl) ?_ hS ?_
     rotate_left
     · intro wx hx
       have q0 := (hx ⟨W4.heap.size, 0, none⟩ l8).trans c8
       clear hx
       go_simp
       with_reducible rfl
     try simp only [tl]
     refine hT 1 ?_ rfl (by kernel_rfl) (by rfl) ?_ hS ?_
     rotate_left; · intro wx hx; clear hx; go_simp; with_reducible rfl
     try simp only [tl]
     refine hT 2 ?_ rfl (by kernel_rfl) (by rfl) ?_ hS ?_
     rotate_left; · intro wx hx; clear hx; go_simp; with_reducible rfl
     try simp only [tl]
     refine wpAnyH_take (i := 3) (v := undef) rfl (by kernel_rfl) (by kernel_rfl) (by kernel_rfl) (fun _ _ _ h => h) (Or.inr ⟨by rfl, by rfl⟩) hS ?_
     try simp only [tl]
     refine wpAnyH_take (i := 4) (v := undef) rfl (by kernel_rfl) (by kernel_rfl) (by kernel_rfl) (fun _ _ _ h => h) (Or.inr ⟨by rfl, by rfl⟩) hS ?_
     try simp only [tl]
     refine wpAnyH_take (i := 5) (v := undef) rfl (by kernel_rfl) (by kernel_rfl) (by kernel_rfl) (fun _ _ _ h => h) (Or.inr ⟨by rfl, by rfl⟩) hS ?_
     try simp only [tl]
     refine wpAnyH_take (i := 6) (v := undef) rfl (by kernel_rfl) (by kernel_rfl) (by kernel_rfl) (fun _ _ _ h => h) (Or.inr ⟨by rfl, by rfl⟩) hS ?_
     try simp only [tl]
     refine wpAnyH_take (i := 7) (v := undef) rfl (by kernel_rfl) (by kernel_rfl) (by kernel_rfl) (fun _ _ _ h => h) (Or.inr ⟨by rfl, by rfl⟩) hS ?_
     try simp only [tl]
     refine wpAnyH_take (i := 8) (v := undef) rfl (by kernel_rfl) (by kernel_rfl) (by kernel_rfl) (fun _ _ _ h => h) (Or.inr ⟨by rfl, by rfl⟩) hS ?_
     try simp only [tl]
     refine wpAnyH_take (i := 9) (v := undef) rfl (by kernel_rfl) (by kernel_rfl) (by kernel_rfl) (fun _ _ _ h => h) (Or.inr ⟨by rfl, by rfl⟩) hS ?_
     try simp only [tl]
     refine wpAnyH_take (i := 10) (v := undef) rfl (by kernel_rfl) (by kernel_rfl) (by kernel_rfl) (fun _ _ _ h => h) (Or.inr ⟨by rfl, by rfl⟩) hS ?_
     try simp only [tl]
     refine hT 11 ?_ rfl (by kernel_rfl) (by rfl) ?_ hS ?_
     rotate_left; · intro wx hx; clear hx; go_simp; with_reducible rfl
     try simp only [tl]
     refine hT 12 ?_ rfl (by kernel_rfl) (by rfl) ?_ hS ?_
     rotate_left; · intro wx hx; clear hx; go_simp; with_reducible rfl
     try simp only [tl]
     refine wpAnyH_done (by kernel_rfl) ?_ _
     refine NoPanic.normal ?_
     go_wp2_with fail
     go_ret2
     exact ⟨0, fuel, none, 0, _, HR.out 0, rfl, .inl ⟨rfl, rfl⟩, BM5.out.drew', hu05m.drew, Nat.le_refl _⟩
   have HFS := Lib.hid hfs
   obtain ⟨ga0, ga1, ga2, ga3, ga4, ga5, ga6, ga7, gb0, gb1, gb2, gb3, gb4, gb5, gb6, gb7, gC, gcc, R, rc, rfl, gi_, gi2_, gty, gval, gct, gcl, gru, grl⟩ := id hgl
   have HGL := Lib.hid hgl
   clear hfs hgl gty gval gct gru
   refine wpAnyE_z (by kernel_rfl) rfl (by rfl) fun K hK => ?_
   go_simp
   refine hK _ _ ?_
   clear hK K; try simp only [tl]
   refine wpAny_done (by kernel_rfl) ?_ _
   refine NoPanic.normal ?_
   have hset : Upd (fun q => q = W4.heap.size) v1 (v1.setCell ⟨W4.heap.size, 0, none⟩ (.pointer (some ⟨gb, 0, none⟩))) := (Upd.refl (fun q => q = W4.heap.size) v1).setCell (p := ⟨W4.heap.size, 0, none⟩) (.inl rfl) _
   have hBW : Blk (v1.setCell ⟨W4.heap.size, 0, none⟩ (.pointer (some ⟨gb, 0, none⟩))) W4.heap.size 88 #[(.pointer (some ⟨gb, 0, none⟩))] := HBv1.out.set 0 (.pointer (some ⟨gb, 0, none⟩))
   obtain ⟨W5, hW5⟩ : ∃ x, v1.setCell ⟨W4.heap.size, 0, none⟩ (.pointer (some ⟨gb, 0, none⟩)) = x := ⟨_, rfl⟩
   rw [hW5] at hset hBW
   rw [hW5]
   clear hW5 hbc hbz hbl
   have hu45 : Upd nob W4 W5 := huv1.trans' hset (fun q hq h => by have : q = W4.heap.size := h; omega)
   have hz5 := hu45.size
   have l8 := hBW.lt
   have c8 : W5.cell? ⟨W4.heap.size, 0, none⟩ = some ((.pointer (some ⟨gb, 0, none⟩))) := hBW.cell 0
   have HB8 := Lib.hid hBW
   clear hset hBW
   have BM5 := Lib.hid (show MacIs W5 mb ev fuel from Blk.upd BM4.out hu45 (fun f => f))
   have hu05m : Upd (fun q => q = mb) w W5 := hu04m.trans (hu45.mono (fun _ f => f.elim))
   have b65 := HB6.out.upd hu45 (fun f => f)
   have c64 : W5.cell? ⟨w2.heap.size, 6, none⟩ = some (.slice hE_ h.ls.length hx) := b65.cell 6
   have l65 := b65.lt
   clear b65 hS
   go_wp2_with fail
   have hgW5 : Blk W5 gb 50 #[.int .i64 g.kind, .string g.nm, .int .i64 g.vars, ga0, ga1, ga2, ga3, ga4, ga5, ga6, ga7, gb0, gb1, gb2, gb3, gb4, gb5, gb6, gb7, .string g.ind, .int .i64 g.params, .int .i64 g.indices, .int .i64 g.fields, .slice gC g.ctors.length gcc, .int .i64 g.minors, .slice R g.rules.length rc] := hgb.upd hu45 (fun f => f)
   have c2 : W5.cell? ⟨gb, 2, none⟩ = some (.int .i64 g.vars) := hgW5.cell 2
   have lg := hgW5.lt
   have HG5 := Lib.hid hgW5
   clear hgW5
   by_cases hv : (h.ls.length : Int) ≠ g.vars
   · have qv : ((h.ls.length : Int) != g.vars) = true := by simp [hv]
     have hres : ∀ n, wstep G (fun f x => wwhnf G n f x) fuel t = some (fuel, none, 0) := fun n => by
      unfold wstep
      simp only [HSP.out, HN.out]
      rw [if_neg C1.out, if_neg C2.out, if_neg C3.out, HFS.out]
      simp only
      rw [if_pos hv]
     have HR := Lib.hid hres
     clear hres
     clear hv
     refine wp_region_P (by kernel_rfl) ?_
     refine wpAny_of_held (S := fun X : World => ∀ p : Addr, p.block < W5.heap.size → X.cell? p = W5.cell? p) _ _ _ _ ?_
     have hS : ∀ p : Addr, p.block < W5.heap.size → W5.drew.cell? p = W5.cell? p := fun _ _ => rfl
     refine hT 0 ?_ rfl (by kernel_rfl) (by rfl) ?_ hS ?_
     rotate_left
     · intro wx hx
       have q0 := (hx ⟨W4.heap.size, 0, none⟩ l8).trans c8
       clear hx
       go_simp
       with_reducible rfl
     try simp only [tl]
     refine hT 1 ?_ rfl (by kernel_rfl) (by rfl) ?_ hS ?_
     rotate_left; · intro wx hx; clear hx; go_simp; with_reducible rfl
     try simp only [tl]
     refine hT 2 ?_ rfl (by kernel_rfl) (by rfl) ?_ hS ?_
     rotate_left; · intro wx hx; clear hx; go_simp; with_reducible rfl
     try simp only [tl]
     refine hT 3 ?_ rfl (by kernel_rfl) (by rfl) ?_ hS ?_
     rotate_left; · intro wx hx; clear hx; go_simp; with_reducible rfl
     try simp only [tl]
     refine hT 4 ?_ rfl (by kernel_rfl) (by rfl) ?_ hS ?_
     rotate_left
     · intro wx hx
       have q0 := (hx ⟨w2.heap.size, 6, none⟩ l65).trans c64
       clear hx
       go_simp
       with_reducible rfl
     try simp only [tl]
     refine hT 5 ?_ rfl (by kernel_rfl) (by rfl) ?_ hS ?_
     rotate_left; · intro wx hx; clear hx; go_simp; with_reducible rfl
     try simp only [tl]
     refine hT 6 ?_ rfl (by kernel_rfl) (by rfl) ?_ hS ?_
     rotate_left
     · intro wx hx
       have q0 := (hx ⟨W4.heap.size, 0, none⟩ l8).trans c8
       clear hx
       go_simp
       with_reducible rfl
     try simp only [tl]
     refine hT 7 ?_ rfl (by kernel_rfl) (by rfl) ?_ hS ?_
     rotate_left; · intro wx hx; clear hx; go_simp; with_reducible rfl
     try simp only [tl]
     refine hT 8 ?_ rfl (by kernel_rfl) (by rfl) ?_ hS ?_
     rotate_left; · intro wx hx; clear hx; go_simp; with_reducible rfl
     try simp only [tl]
     refine hT 9 ?_ rfl (by kernel_rfl) (by rfl) ?_ hS ?_
     rotate_left
     · intro wx hx
       have q0 := (hx ⟨gb, 2, none⟩ lg).trans c2
       clear hx
       go_simp
       with_reducible rfl
     try simp only [tl]
     refine hT 10 ?_ rfl (by kernel_rfl) (by rfl) ?_ hS ?_
     rotate_left; · intro wx hx; clear hx; go_simp; with_reducible rfl
     try simp only [tl]
     refine hT 11 ?_ rfl (by kernel_rfl) (by rfl) ?_ hS ?_
     rotate_left; · intro wx hx; clear hx; go_simp; with_reducible rfl
     try simp only [tl]
     refine hT 12 ?_ rfl (by kernel_rfl) (by rfl) ?_ hS ?_
     rotate_left; · intro wx hx; clear hx; go_simp; with_reducible rfl
     try simp only [tl]
     refine wpAnyH_done (by kernel_rfl) ?_ _
     refine NoPanic.normal ?_
     go_wp2_with fail
     go_ret2
     exact ⟨0, fuel, none, 0, _, HR.out 0, rfl, .inl ⟨rfl, rfl⟩, BM5.out.drew', hu05m.drew, Nat.le_refl _⟩
   have qv : ((h.ls.length : Int) != g.vars) = false := by simp; omega
   have HV := Lib.hid hv
   clear hv
   refine wp_region_P (by kernel_rfl) ?_
   refine wpAny_of_held (S := fun X : World => ∀ p : Addr, p.block < W5.heap.size → X.cell? p = W5.cell? p) _ _ _ _ ?_
   have hS : ∀ p : Addr, p.block < W5.heap.size → W5.drew.cell? p = W5.cell? p := fun _ _ => rfl
   refine hT 0 ?_ rfl (by kernel_rfl) (by rfl) ?_ hS ?_
   rotate_left
   · intro wx hx
     have q0 := (hx ⟨W4.heap.size, 0, none⟩ l8).trans c8
     clear hx
     go_simp
     with_reducible rfl
   try simp only [tl]
   refine hT 1 ?_ rfl (by kernel_rfl) (by rfl) ?_ hS ?_
   rotate_left; · intro wx hx; clear hx; go_simp; with_reducible rfl
   try simp only [tl]
   refine hT 2 ?_ rfl (by kernel_rfl) (by rfl) ?_ hS ?_
   rotate_left; · intro wx hx; clear hx; go_simp; with_reducible rfl
   try simp only [tl]
   refine hT 3 ?_ rfl (by kernel_rfl) (by rfl) ?_ hS ?_
   rotate_left; · intro wx hx; clear hx; go_simp; with_reducible rfl
   try simp only [tl]
   refine hT 4 ?_ rfl (by kernel_rfl) (by rfl) ?_ hS ?_
   rotate_left
   · intro wx hx
     have q0 := (hx ⟨w2.heap.size, 6, none⟩ l65).trans c64
     clear hx
     go_simp
     with_reducible rfl
   try simp only [tl]
   refine hT 5 ?_ rfl (by kernel_rfl) (by rfl) ?_ hS ?_
   rotate_left; · intro wx hx; clear hx; go_simp; with_reducible rfl
   try simp only [tl]
   refine hT 6 ?_ rfl (by kernel_rfl) (by rfl) ?_ hS ?_
   rotate_left
   · intro wx hx
     have q0 := (hx ⟨W4.heap.size, 0, none⟩ l8).trans c8
     clear hx
     go_simp
     with_reducible rfl
   try simp only [tl]
   refine hT 7 ?_ rfl (by kernel_rfl) (by rfl) ?_ hS ?_
   rotate_left; · intro wx hx; clear hx; go_simp; with_reducible rfl
   try simp only [tl]
   refine hT 8 ?_ rfl (by kernel_rfl) (by rfl) ?_ hS ?_
   rotate_left; · intro wx hx; clear hx; go_simp; with_reducible rfl
   try simp only [tl]
   refine hT 9 ?_ rfl (by kernel_rfl) (by rfl) ?_ hS ?_
   rotate_left
   · intro wx hx
     have q0 := (hx ⟨gb, 2, none⟩ lg).trans c2
     clear hx
     go_simp
     with_reducible rfl
   try simp only [tl]
   refine hT 10 ?_ rfl (by kernel_rfl) (by rfl) ?_ hS ?_
   rotate_left; · intro wx hx; clear hx; go_simp; with_reducible rfl
   try simp only [tl]
   refine hT 11 ?_ rfl (by kernel_rfl) (by rfl) ?_ hS ?_
   rotate_left; · intro wx hx; clear hx; go_simp; with_reducible rfl
   try simp only [tl]
   refine hT 12 ?_ rfl (by kernel_rfl) (by rfl) ?_ hS ?_
   rotate_left; · intro wx hx; clear hx; go_simp; with_reducible rfl
   try simp only [tl]
   refine wpAnyH_done (by kernel_rfl) ?_ _
   refine NoPanic.normal ?_
   obtain ⟨W6, hW6⟩ : ∃ W6, W5.drew = W6 := ⟨_, rfl⟩
   have hu56 : Upd nob W5 W6 := by rw [← hW6]; exact (Upd.refl nob W5).drew
   first
    | rw [hW6]
    | rw [show ({ heap := W5.heap, tape := W5.tape, drawn := W5.drawn + 1, os := W5.os, output := W5.output } : World) = W6 from hW6]
   clear hW6 hS c8 c64 c2
   have hu46 := hu45.trans hu56
   have hu06m : Upd (fun q => q = mb) w W6 := hu04m.trans (hu46.mono (fun _ f => f.elim))
   have hu06 : Upd nob w W6 := hu04.trans hu46
   have hDW6 : Old D w W6 := hD.old hu06
   have BM6 := Lib.hid (show MacIs W6 mb ev fuel from Blk.upd BM5.out hu56 (fun f => f))
   have B8 := Lib.hid (HB8.out.upd hu56 (fun f => f))
   have G6 := Lib.hid (HG5.out.upd hu56 (fun f => f))
   have B6 := Lib.hid (HB6.out.upd hu46 (fun f => f))
   have B7 := Lib.hid (HB7.out.upd hu46 (fun f => f))
   have c8 : W6.cell? ⟨W4.heap.size, 0, none⟩ = some (.pointer (some ⟨gb, 0, none⟩)) := B8.out.cell 0
   have c0 : W6.cell? ⟨gb, 0, none⟩ = some (.int .i64 g.kind) := G6.out.cell 0
   have hz6 := hu46.size
   have hDg4 : Within (grow D w W4) W4 := hD.grow hu04.size
   have HST6 := Lib.hid (show TmIs (grow D w W6) W6 h #[.int .i64 h.k, .int .i64 h.n, .string h.nm, .int .i64 hp, .int .i64 hq, .slice hB hm hd, .slice hE_ h.ls.length hx, .slice hE' h.ks.length hx'] from HST.out.old (hDg4.old hu46) (fun q hq => hq.imp (fun h => h) (fun h => ⟨h.1, by have := h.2; omega⟩)))
   have HAT6 := Lib.hid (show TmsAt (grow D w W6) W6 args A 0 from HAT.out.old (hDg4.old hu46) (fun q hq => hq.imp (fun h => h) (fun h => ⟨h.1, by have := h.2; omega⟩)))
   have HGL6 := Lib.hid (show GlIs (grow D w W6) W6 g #[.int .i64 g.kind, .string g.nm, .int .i64 g.vars, ga0, ga1, ga2, ga3, ga4, ga5, ga6, ga7, gb0, gb1, gb2, gb3, gb4, gb5, gb6, gb7, .string g.ind, .int .i64 g.params, .int .i64 g.indices, .int .i64 g.fields, .slice gC g.ctors.length gcc, .int .i64 g.minors, .slice R g.rules.length rc] from HGL.out.old (hD4.old hu46) (fun _ h => .inl h))
   by_cases k2 : g.kind = 2
   · have qk : (g.kind == 2) = true := by simp [k2]
     have hres : ∀ n, wstep G (fun f x => wwhnf G n f x) fuel t = some (fuel, some (wlevels g.val h.ls args), 0) := fun n => by
      unfold wstep
      simp only [HSP.out, HN.out]
      rw [if_neg C1.out, if_neg C2.out, if_neg C3.out, HFS.out]
      simp only
      rw [if_neg HV.out, if_pos k2]
     have HR := Lib.hid hres
     clear hres
     clear k2
     go_wp2_with fail
     go_ret2
     have l66 := B6.out.lt
     have l67 := B7.out.lt
     have l68 := B8.out.lt
     have hz4' := hu04.size
     exact ⟨0, fuel, some (wlevels g.val h.ls args), 0, _, HR.out 0, rfl, .inr ⟨_, _, _, _, rfl, rfl, fun _ _ => by go_simp, fun W hW hin => step3_any h args W4.heap.size w2.heap.size (w2.heap.size + 1) gb g #[.int .i64 g.kind, .string g.nm, .int .i64 g.vars, ga0, ga1, ga2, ga3, ga4, ga5, ga6, ga7, gb0, gb1, gb2, gb3, gb4, gb5, gb6, gb7, .string g.ind, .int .i64 g.params, .int .i64 g.indices, .int .i64 g.fields, .slice gC g.ctors.length gcc, .int .i64 g.minors, .slice R g.rules.length rc] (grow D w W6) W hin ((hW _ (.inr ⟨by omega, l68⟩)).trans B8.out) ((hW _ (.inl hgD)).trans G6.out) (HGL6.out.old hW (fun _ h => h))
      ⟨_, (hW _ (.inr ⟨by omega, l66⟩)).trans B6.out, HST6.out.old hW (fun _ h => h)⟩ ⟨A, c, by rw [HN.out]; exact (hW _ (.inr ⟨by omega, l67⟩)).trans B7.out, by rw [HN.out]; exact ⟨hal, hac⟩, HAT6.out.old hW (fun _ h => h)⟩⟩, BM6.out, hu06m, Nat.le_refl _⟩
   have qk : (g.kind == 2) = false := by simp [k2]
   by_cases k5 : g.kind = 5
   · have qk5 : (g.kind == 5) = true := by simp [k5]
     have hwi : ∀ n, wstep G (fun f x => wwhnf G n f x) fuel t = wiota G (fun f x => wwhnf G n f x) fuel g h args := fun n => by
      unfold wstep
      simp only [HSP.out, HN.out]
      rw [if_neg C1.out, if_neg C2.out, if_neg C3.out, HFS.out]
      simp only
      rw [if_neg HV.out, if_neg k2, if_pos k5]
     have HR := Lib.hid hwi
     clear k2 k5 hwi
     have r6 := B6.out.rowAt
     have c70 : W6.cell? ⟨w2.heap.size + 1, 0, none⟩ = some (.slice A N c) := B7.out.cell 0
     have hcall := iota_any G ev mb fuel g #[.int .i64 g.kind, .string g.nm, .int .i64 g.vars, ga0, ga1, ga2, ga3, ga4, ga5, ga6, ga7, gb0, gb1, gb2, gb3, gb4, gb5, gb6, gb7, .string g.ind, .int .i64 g.params, .int .i64 g.indices, .int .i64 g.fields, .slice gC g.ctors.length gcc, .int .i64 g.minors, .slice R g.rules.length rc] gb h #[.int .i64 h.k, .int .i64 h.n, .string h.nm, .int .i64 hp, .int .i64 hq, .slice hB hm hd, .slice hE_ h.ls.length hx, .slice hE' h.ks.length hx'] args A c (grow D w W6) W6 (hD.grow hu06.size) (fun hq => hq.elim hmb (fun hq => by have := hq.1; omega)) (by have := hu06.size; omega) (HE.out.old hDW6 (fun _ h => .inl h)) (.inl hgD) G6.out HGL6.out HST6.out HAT6.out (by rw [HN.out]; exact ⟨hal, hac⟩) BM6.out (by rw [HN.out]; exact hF2) HREC.out
     rw [HN.out] at hcall
     have HC2 := Lib.hid hcall
     clear hcall
     go_wp2_with (first
      | ((with_reducible refine this_op (.load 28 (.tmp 6)) ?_); refine wpList_at rfl 28 (.tmp 6) rfl ⟨w2.heap.size, 0, none⟩ rfl _ _ r6 Tryz.underlying28 rfl tm_size ?_))
     refine HC2.out.mono ?_
     rintro e w9 ⟨n, f1, nx, err, fv, hio, rfl, hnx, hM9, hu9, hle⟩
     have HIO := Lib.hid ((HR.out n).trans hio)
     have HNX := Lib.hid (show NextIs (grow D w w9) w9 fv nx from hnx.old (Old.refl _ _) (fun q hq => by
      have := hu06.size
      have := hu9.size
      rcases hq with (hq | hq) | hq
      · exact .inl hq
      · exact .inr ⟨hq.1, by have := hq.2; omega⟩
      exact .inr ⟨by have := hq.1; omega, hq.2⟩))
     have HM9 := Lib.hid hM9
     have hu09m := hu06m.trans hu9
     clear hio hnx hM9
     go_wp2_with fail
     go_ret2
     exact ⟨n, f1, nx, err, fv, HIO.out, rfl, HNX.out, HM9.out, hu09m, hle⟩
   have qk5 : (g.kind == 5) = false := by simp [k5]
   have hres : ∀ n, wstep G (fun f x => wwhnf G n f x) fuel t = some (fuel, none, 0) := fun n => by
    unfold wstep
    simp only [HSP.out, HN.out]
    rw [if_neg C1.out, if_neg C2.out, if_neg C3.out, HFS.out]
    simp only
    rw [if_neg HV.out, if_neg k2, if_neg k5]
   have HR := Lib.hid hres
   clear hres
   clear k2 k5
   go_wp2_with fail
   go_ret2
   exact ⟨0, fuel, none, 0, _, HR.out 0, rfl, .inl ⟨rfl, rfl⟩, BM6.out, hu06m, Nat.le_refl _⟩
end Go.Proofs.YtiampoebdmflgaaGreat
/- whnf's model: more depth does not change an answer. -/
namespace Go.Proofs.YtiampoebdmflgaaGreat
open Go.RowKit
set_option linter.unusedVariables false
theorem wiota_mono {G : List Glb} {rec rec' : Nat → Tm → Option WRes} (hr : ∀ f x r, rec f x = some r → rec' f x = some r) {fuel : Nat} {g : Glb} {h : Tm} {args : List Tm} {r : Nat × Nx × Int} (hh : wiota G rec fuel g h args = some r) : wiota G rec' fuel g h args = some r := by
 unfold wiota at hh ⊢
 by_cases h1 : wmajor g.params g.minors g.indices args.length < 0
 · rw [if_pos h1] at hh ⊢; exact hh
 rw [if_neg h1] at hh ⊢
 cases ha : args[(wmajor g.params g.minors g.indices args.length).toNat]? with
 | none => rw [ha] at hh; cases hh
 | some a =>
  rw [ha] at hh
  simp only at hh ⊢
  cases hr' : rec fuel a with
  | none => rw [hr'] at hh; cases hh
  | some r' => rw [hr'] at hh; rw [hr _ _ _ hr']; exact hh
theorem wstep_mono {G : List Glb} {rec rec' : Nat → Tm → Option WRes} (hr : ∀ f x r, rec f x = some r → rec' f x = some r) {fuel : Nat} {t : Tm} {r : Nat × Nx × Int} (hh : wstep G rec fuel t = some r) : wstep G rec' fuel t = some r := by
 unfold wstep at hh ⊢
 simp only at hh ⊢
 by_cases c1 : (tspine t).1.k = 4 ∧ (tspine t).1.ks.length = 2 ∧ 0 < (tspine t).2.length
 · rw [if_pos c1] at hh ⊢; exact hh
 rw [if_neg c1] at hh ⊢
 by_cases c2 : (tspine t).1.k = 5 ∧ (tspine t).1.ks.length = 3
 · rw [if_pos c2] at hh ⊢; exact hh
 rw [if_neg c2] at hh ⊢
 by_cases c3 : (tspine t).1.k ≠ 7
 · rw [if_pos c3] at hh ⊢; exact hh
 rw [if_neg c3] at hh ⊢
 cases hg : gfind G (tspine t).1.nm with
 | none => rw [hg] at hh; exact hh
 | some g =>
  rw [hg] at hh
  simp only at hh ⊢
  by_cases c4 : ((tspine t).1.ls.length : Int) ≠ g.vars
  · rw [if_pos c4] at hh ⊢; exact hh
  rw [if_neg c4] at hh ⊢
  by_cases c5 : g.kind = 2
  · rw [if_pos c5] at hh ⊢; exact hh
  rw [if_neg c5] at hh ⊢
  by_cases c6 : g.kind = 5
  · rw [if_pos c6] at hh ⊢; exact wiota_mono hr hh
  rw [if_neg c6] at hh ⊢; exact hh
theorem wloop_mono {G : List Glb} : ∀ (n m fuel : Nat) (t : Tm) (r : WRes), n ≤ m → wloop G n fuel t = some r → wloop G m fuel t = some r := by
 intro n
 induction n with
 | zero => intro m fuel t r _ h; cases h
 | succ n ih =>
  intro m fuel t r hm h
  match m, hm with
  | m + 1, hm =>
   have hnm : n ≤ m := Nat.le_of_succ_le_succ hm
   unfold wloop at h ⊢
   cases hs : wstep G (fun f x => if wfits x = true then wloop G n f x else some (tmz, 6, f)) fuel t with
   | none => rw [hs] at h; cases h
   | some s =>
    rw [hs] at h
    have hs' : wstep G (fun f x => if wfits x = true then wloop G m f x else some (tmz, 6, f)) fuel t = some s := by
     refine wstep_mono ?_ hs
     intro f x r h
     by_cases hf : wfits x = true
     · rw [if_pos hf] at h ⊢; exact ih m f x r hnm h
     rw [if_neg hf] at h ⊢; exact h
    rw [hs']
    obtain ⟨f1, nx, e⟩ := s
    simp only at h ⊢
    by_cases he : e ≠ 0
    · rw [if_pos he] at h ⊢; exact h
    rw [if_neg he] at h ⊢
    match nx with
    | none => exact h
    | some (t', ok) =>
     simp only at h ⊢
     by_cases h0 : f1 = 0
     · rw [if_pos h0] at h ⊢; exact h
     rw [if_neg h0] at h ⊢
     by_cases ho : ok = true
     · rw [if_pos ho] at h ⊢; exact ih m _ _ _ hnm h
     rw [if_neg ho] at h ⊢; exact h
theorem wwhnf_mono {G : List Glb} {n m fuel : Nat} {t : Tm} {r : WRes} (hm : n ≤ m) (h : wwhnf G n fuel t = some r) : wwhnf G m fuel t = some r := by
 unfold wwhnf at h ⊢
 by_cases hf : wfits t = true
 · rw [if_pos hf] at h ⊢; exact wloop_mono n m fuel t r hm h
 rw [if_neg hf] at h ⊢; exact h
theorem wloop_turn {G : List Glb} {n m fuel f1 : Nat} {t : Tm} {nx : Nx} {r : WRes} (hs : wstep G (fun f x => wwhnf G n f x) fuel t = some (f1, nx, 0))
    (hr : (match nx with | none => some (wown t, (0 : Int), f1) | some (t', ok) => if f1 = 0 then some (tmz, 5, 0) else if ok = true then wloop G m (f1 - 1) t' else some (tmz, 6, f1 - 1)) = some r) : ∃ k, wloop G k fuel t = some r := by
 refine ⟨max n m + 1, ?_⟩
 unfold wloop
 have hs' : wstep G (fun f x => if wfits x = true then wloop G (max n m) f x else some (tmz, 6, f)) fuel t = some (f1, nx, 0) := wstep_mono (fun f x r h => wwhnf_mono (Nat.le_max_left n m) h) hs
 rw [hs']
 simp only [ne_eq, not_true, if_false]
 match nx with
 | none => exact hr
 | some (t', ok) =>
  simp only at hr ⊢
  by_cases h0 : f1 = 0
  · rw [if_pos h0] at hr ⊢; exact hr
  rw [if_neg h0] at hr ⊢
  by_cases ho : ok = true
  · rw [if_pos ho] at hr ⊢; exact wloop_mono m _ _ _ _ (Nat.le_max_right n m) hr
  rw [if_neg ho] at hr ⊢; exact hr
theorem wloop_err {G : List Glb} {n fuel f1 : Nat} {t : Tm} {nx : Nx} {e : Int} (he : e ≠ 0) (hs : wstep G (fun f x => wwhnf G n f x) fuel t = some (f1, nx, e)) : ∃ k, wloop G k fuel t = some (tmz, e, f1) := by
 refine ⟨n + 1, ?_⟩
 unfold wloop
 have hs' : wstep G (fun f x => if wfits x = true then wloop G n f x else some (tmz, 6, f)) fuel t = some (f1, nx, e) := hs
 rw [hs']
 simp only
 rw [if_pos he]
end Go.Proofs.YtiampoebdmflgaaGreat
/- The parts that Spine hands back stand lower than the term. -/
namespace Go.Proofs.YtiampoebdmflgaaGreat
open Go.RowKit
set_option linter.unusedVariables false
theorem Tm.vh_pos (t : Tm) : 1 ≤ t.vh := by cases t; simp only [Tm.vh]; omega
theorem tnode_vh (t : Tm) : (tnode t).vh ≤ t.vh := by
 have := t.vh_pos
 unfold tnode
 split
 · simp only [Tm.vh, Tm.vhs]; omega
 split
 · simp only [Tm.vh, Tm.vhs]; omega
 split
 · simp only [Tm.vh, Tm.vhs]; omega
 simp only [Tm.vh, Tm.vhs]; omega
theorem trebs_len (F : Tm → Int → Tm) (k : Int) (N : Nat) (i : Int) (ks : List Tm) : (trebs F k N ks 0 i).length ≤ N := by
 rw [trebs_eq]; simp; omega
mutual
theorem treb_vh (F : Tm → Int → Tm) (hF : ∀ t i, (F t i).vh ≤ t.vh) : (t : Tm) → (i : Int) → (treb F t i).vh ≤ t.vh
 | .mk k n nm lv ls ks, i => by
  simp only [treb]
  split
  · exact hF _ _
  simp only [Tm.vh]
  have h1 := trebs_vh F hF k (nk k ks.length) (nk k (trebs F k (nk k ks.length) ks 0 i).length) (Nat.le_trans (nk_le _ _) (trebs_len F k _ i ks)) ks 0 i
  omega
theorem trebs_vh (F : Tm → Int → Tm) (hF : ∀ t i, (F t i).vh ≤ t.vh) (k : Int) (N N' : Nat) (hN : N' ≤ N) : (ts : List Tm) → (j : Nat) → (i : Int) → Tm.vhs N' (trebs F k N ts j i) j ≤ Tm.vhs N ts j
 | [], j, i => by simp [trebs, Tm.vhs]
 | t :: ts, j, i => by
  have h1 := treb_vh F hF t (i + bnd k j)
  have h2 := trebs_vh F hF k N N' hN ts (j + 1) i
  by_cases hj : j < N
  · simp only [trebs, if_pos hj, Tm.vhs]
    split <;> omega
  simp [trebs, hj, Tm.vhs]
end
theorem town_vh (t : Tm) : (town t).vh ≤ t.vh := by
 unfold town
 split
 · exact Nat.le_refl _
 exact treb_vh _ (fun t _ => tnode_vh t) t 0
theorem spineF_vh (M : Nat) : ∀ (n : Nat) (t : Tm) (acc : List Tm), t.vh ≤ M → (∀ x ∈ acc, x.vh < M) → ∀ x ∈ (spineF n t acc).2, x.vh < M := by
 intro n
 induction n with
 | zero => intro t acc _ h; exact h
 | succ n ih =>
  intro t acc ht h
  unfold spineF
  split
  · next hk =>
    obtain ⟨k, m, nm, lv, ls, ks⟩ := t
    match ks, ht, hk with
    | [], _, _ => exact h
    | [_], _, _ => exact h
    | f :: a :: r, ht, hk =>
     have hk6 : k = 6 := hk.1
     subst hk6
     have hn : nk 6 (f :: a :: r).length = 2 := by
      unfold nk
      rw [if_neg (by simp [tar]; omega)]
      simp [tar]
     have h0 := Tm.vh_kid (k := 6) (n := m) (nm := nm) (lv := lv) (ls := ls) (ks := f :: a :: r) 0 (by simp) (by rw [hn]; omega)
     have h1 := Tm.vh_kid (k := 6) (n := m) (nm := nm) (lv := lv) (ls := ls) (ks := f :: a :: r) 1 (by simp) (by rw [hn]; omega)
     simp only [List.getElem_cons_zero, List.getElem_cons_succ] at h0 h1
     refine ih f _ (by omega) fun x hx => ?_
     rcases List.mem_append.1 hx with hx | hx
     · exact h x hx
     have hx' : x = town a := by simpa using hx
     subst hx'
     have := town_vh a
     omega
  · exact h
theorem tspine_vh (t : Tm) : ∀ x ∈ (tspine t).2, x.vh < t.vh := by
 unfold tspine
 split
 · intro x hx; cases hx
 intro x hx
 have hx' : x ∈ (spineF t.vh t []).2 := by simpa using hx
 exact spineF_vh t.vh t.vh t [] (Nat.le_refl _) (fun x hx => by cases hx) x hx'
end Go.Proofs.YtiampoebdmflgaaGreat
/- (machine).whnf. -/
namespace Go.Proofs.YtiampoebdmflgaaGreat
open Go.RowKit
set_option linter.unusedVariables false
set_option maxRecDepth 100000
set_option maxHeartbeats 2000000
set_option linter.unusedSimpArgs false
theorem wh_end {D : Nat → Prop} {w wr : World} {u : Tm} {cs : Array Value} {mb f : Nat} {ev : Value} (hmw : mb < w.heap.size) (hu : Upd (fun q => q = mb) w wr) (hsz : w.heap.size + 2 ≤ wr.heap.size)
    (hl : TmIs (fun q => D q ∨ (w.heap.size + 2 ≤ q ∧ q < wr.heap.size)) wr u cs) (hD : Within D w) (hM : MacIs wr mb ev f) :
    TmIs (grow D w (wr.setRow (w.heap.size + 1) cs)) (wr.setRow (w.heap.size + 1) cs) u cs ∧ MacIs (wr.setRow (w.heap.size + 1) cs) mb ev f ∧ Upd (fun q => q = mb) w (wr.setRow (w.heap.size + 1) cs) := by
 have hset : Upd (fun q => q = w.heap.size + 1) wr (wr.setRow (w.heap.size + 1) cs) := (Upd.refl (fun q => q = w.heap.size + 1) wr).setRow (.inl rfl) _
 have hs9 := hset.size
 refine ⟨hl.old (Old.of_upd hset (fun q hq => ?_)) (fun q hq => ?_), Blk.upd hM hset (fun h => ?_), hu.trans' hset (fun q hq h => ?_)⟩
 · rcases hq with hq | hq
   · have := hD q hq
     exact ⟨fun h => by have h : q = w.heap.size + 1 := h; omega, by omega⟩
   exact ⟨fun h => by have h : q = w.heap.size + 1 := h; omega, hq.2⟩
 · rcases hq with hq | hq
   · exact .inl hq
   exact .inr ⟨by omega, by omega⟩
 · have h : mb = w.heap.size + 1 := h; omega
 have h : q = w.heap.size + 1 := h; omega
theorem run_eql_nil_nil {P : Program} {ps rs : Array TypeId} {vr : Bool} (t : TypeId) (h : P.underlying t = some (.func ps rs vr)) (w : World) :
    (binOp .eql t .nilFunc .nilFunc).run P w = .ok (.bool true) w := by
 have h1 : ∀ d : Nat, (Op.equalIn (d + 1) t .nilFunc .nilFunc).run P w = .ok true w := fun d => by
  simp [Op.equalIn, run_underlying h]
 simp only [binOp]
 simp [Op.equal, Op.maxDepth, h1 9999]
theorem tmz_is (D : Nat → Prop) (w : World) : TmIs D w tmz #[.int .i64 0, .int .i64 0, .string ByteArray.empty, .int .i64 0, .int .i64 0, .slice none 0 0, .slice none 0 0, .slice none 0 0] := by
 exact TmIs.short D w (by unfold InI; omega) (by unfold InI; omega)
theorem whnf_walk (G : List Glb) (ev : Value) (mb F : Nat) (x : Tm) (hF63 : F ≤ 4611686018427387904) (hrec1 : ∀ y : Tm, y.vh < x.vh → WhnfC G ev mb F y) (hrec2 : ∀ f < F, ∀ y : Tm, WhnfC G ev mb f y) : WhnfC G ev mb F x := by
 intro D w cs hD hmb hE ht hM
 have hz := tm_zero
 have he1 := run_eql_func_nil (P := Tryz.prog) 121 Tryz.underlying121
 have he2 := run_eql_nil_nil (P := Tryz.prog) 121 Tryz.underlying121
 obtain ⟨yp, yq, yB, ym, yd, yE, yx, yE', yx', rfl⟩ := ht.lit8
 obtain ⟨W1, hW1⟩ : ∃ W1, (w.alloc (.cells #[.int .i64 x.k, .int .i64 x.n, .string x.nm, .int .i64 yp, .int .i64 yq, .slice yB ym yd, .slice yE x.ls.length yx, .slice yE' x.ks.length yx'] 28)).alloc (.cells #[.int .i64 0, .int .i64 0, .string ByteArray.empty, .int .i64 0, .int .i64 0, .slice none 0 0, .slice none 0 0, .slice none 0 0] 28) = W1 := ⟨_, rfl⟩
 have huW1 : Upd nob w W1 := by rw [← hW1]; exact ((Upd.refl nob w).alloc _).alloc _
 have hsW1 : W1.heap.size = w.heap.size + 2 := by rw [← hW1]; simp
 have b0 : Blk W1 (w.heap.size) 28 #[.int .i64 x.k, .int .i64 x.n, .string x.nm, .int .i64 yp, .int .i64 yq, .slice yB ym yd, .slice yE x.ls.length yx, .slice yE' x.ks.length yx'] := by
  rw [← hW1]
  have h := Blk.new (w) 28 #[.int .i64 x.k, .int .i64 x.n, .string x.nm, .int .i64 yp, .int .i64 yq, .slice yB ym yd, .slice yE x.ls.length yx, .slice yE' x.ks.length yx']
  exact h.alloc _
 have b1 : Blk W1 (w.heap.size + 1) 28 #[.int .i64 0, .int .i64 0, .string ByteArray.empty, .int .i64 0, .int .i64 0, .slice none 0 0, .slice none 0 0, .slice none 0 0] := by
  rw [← hW1]
  have h := Blk.new (w.alloc (.cells #[.int .i64 x.k, .int .i64 x.n, .string x.nm, .int .i64 yp, .int .i64 yq, .slice yB ym yd, .slice yE x.ls.length yx, .slice yE' x.ks.length yx'] 28)) 28 #[.int .i64 0, .int .i64 0, .string ByteArray.empty, .int .i64 0, .int .i64 0, .slice none 0 0, .slice none 0 0, .slice none 0 0]
  rw [World.size_alloc] at h
  exact h
 have HW1 := Lib.hid hW1
 have B3 := Lib.hid b0
 have B4 := Lib.hid b1
 have HE := Lib.hid hE
 have HM := Lib.hid hM
 have HT := Lib.hid ht
 have HR1 := Lib.hid hrec1
 have HR2 := Lib.hid hrec2
 have HS1 := Lib.hid hsW1
 have r3 := b0.rowAt
 have hmw : mb < w.heap.size := Blk.lt hM
 have hcall := wfits_any x _ D W1 (hD.up huW1) (ht.old (hD.old huW1) (fun _ h => h))
 have HC := Lib.hid hcall
 clear hW1 hsW1 b0 b1 hE hM ht hrec1 hrec2 hcall
 go_enter Tryz.func36, Tryz.ntmps36
 go_wp2_with fail
 rw [HW1.out]
 go_wp2_with fail
 refine HC.out.mono ?_
 rintro e w2 ⟨rfl, hb2⟩
 have hu2 : Upd nob W1 w2 := Upd.of_below hb2
 have hu02 := huW1.trans hu2
 have hu02m : Upd (fun q => q = mb) w w2 := hu02.mono (fun _ f => f.elim)
 have M2 := Lib.hid (show MacIs w2 mb ev F from Blk.upd HM.out hu02 (fun f => f))
 have C3 := Lib.hid (B3.out.upd hu2 (fun f => f))
 have C4 := Lib.hid (B4.out.upd hu2 (fun f => f))
 have hsz2 : w.heap.size + 2 ≤ w2.heap.size := by have := hu2.size; have := HS1.out; omega
 have ht2 : TmIs D w2 x #[.int .i64 x.k, .int .i64 x.n, .string x.nm, .int .i64 yp, .int .i64 yq, .slice yB ym yd, .slice yE x.ls.length yx, .slice yE' x.ks.length yx'] := HT.out.old (hD.old hu02) (fun _ h => h)
 have HT2 := Lib.hid ht2
 clear hb2 ht2
 cases hf : wfits x with
 | false =>
  have hres : ∀ n, wwhnf G n F x = some (tmz, 6, F) := fun n => by unfold wwhnf; rw [if_neg (by rw [hf]; decide)]
  have HR := Lib.hid hres
  clear hres hf
  have c4 := C4.out
  go_wp2_with (first
        | ((with_reducible refine this_op (.store 28 (.tmp 4) (.tmp 12)) ?_); refine wpList_store_row rfl 28 (.tmp 4) (.tmp 12) rfl (w.heap.size + 1) _ rfl rfl 28 _ c4 tm_size rfl (by simp [Value.oneCell']) ?_))
  refine bodyPost_ret (results_cell_tmp rfl _ _ (w.heap.size + 1) 28 #[.int .i64 0, .int .i64 0, .string ByteArray.empty, .int .i64 0, .int .i64 0, .slice none 0 0, .slice none 0 0, .slice none 0 0] (0, 0) _ _ rfl rfl (C4.out.row _) Tryz.underlying28 rfl tm_size) rfl ?_
  have h9 := wh_end hmw hu02m hsz2 (tmz_is _ _) hD M2.out
  exact ⟨0, tmz, 6, F, _, HR.out 0, rfl, h9.1, h9.2.1, h9.2.2, Nat.le_refl _⟩
 | true =>
  have HF := Lib.hid hf
  clear hf
  go_wp2_with fail
  go_loopg [] F (fun n wr => ∃ (f : Nat) (cur : Tm) (ccs : Array Value), f ≤ n ∧ f ≤ F ∧ (f < F ∨ (f = F ∧ cur = x)) ∧ Blk wr w.heap.size 28 ccs ∧ TmIs (fun q => D q ∨ (w.heap.size + 2 ≤ q ∧ q < wr.heap.size)) wr cur ccs ∧ Blk wr (w.heap.size + 1) 28 #[.int .i64 0, .int .i64 0, .string ByteArray.empty, .int .i64 0, .int .i64 0, .slice none 0 0, .slice none 0 0, .slice none 0 0] ∧
   MacIs wr mb ev f ∧ Upd (fun q => q = mb) w wr ∧ w.heap.size + 2 ≤ wr.heap.size ∧ (∀ n r, wloop G n f cur = some r → ∃ n', wloop G n' F x = some r))
  case atStart => exact ⟨F, x, _, Nat.le_refl _, Nat.le_refl _, .inr ⟨rfl, rfl⟩, C3.out, HT2.out.old (Old.refl _ _) (fun _ h => .inl h), C4.out, M2.out, hu02m, hsz2, fun n r h => ⟨n, h⟩⟩
  case round =>
   clear r3 hu02m hu02 hsz2 HT2 C3 C4 M2 HC
   obtain ⟨f, cur, ccs, hfn, hfF, hfc, b3, hcur, b4, hMr, hur, hszr, hch⟩ := hrel
   obtain ⟨zp, zq, zB, zm, zd, zE, zx, zE', zx', rfl⟩ := hcur.lit8
   have hEW : Within (fun q => D q ∨ (w.heap.size + 2 ≤ q ∧ q < wr.heap.size)) wr := fun q hq => by
    rcases hq with hq | hq
    · have := hD q hq; omega
    exact hq.2
   have hDr : Old D w wr := Old.of_upd hur (fun q hq => ⟨fun h => hmb (h ▸ hq), hD q hq⟩)
   have hcall := step_any G ev mb f cur _ (fun q => D q ∨ (w.heap.size + 2 ≤ q ∧ q < wr.heap.size)) wr hEW (fun hq => hq.elim hmb (fun hq => by have := hq.1; omega)) (by omega) (HE.out.old hDr (fun _ h => .inl h)) hcur hMr (fun y hy => by
    rcases hfc with h | ⟨rfl, rfl⟩
    · exact HR2.out f h y
    exact HR1.out y (tspine_vh _ y hy))
   have HC := Lib.hid hcall
   have R3 := b3.rowAt
   have B3r := Lib.hid b3
   have B4r := Lib.hid b4
   have HCH := Lib.hid hch
   have HCUR := Lib.hid hcur
   clear hcall b3 b4 hch hcur hMr
   go_wp2_with (first
         | ((with_reducible refine this_op (.load 28 (.tmp 3)) ?_); refine wpList_at rfl 28 (.tmp 3) rfl ⟨w.heap.size, 0, none⟩ rfl _ _ R3 Tryz.underlying28 rfl tm_size ?_))
   refine HC.out.mono ?_
   rintro e w5 ⟨n5, f1, nx, err, fv, hst, rfl, hnx, hM5, hu5, hle⟩
   have hz5 := hu5.size
   have b35 := B3r.out.upd hu5 (fun h => by have h : w.heap.size = mb := h; omega)
   have b45 := B4r.out.upd hu5 (fun h => by have h : w.heap.size + 1 = mb := h; omega)
   have hu05 := hur.trans hu5
   have R35 := b35.rowAt
   have B35 := Lib.hid b35
   have B45 := Lib.hid b45
   have HST := Lib.hid hst
   have HNX := Lib.hid hnx
   have HM5 := Lib.hid hM5
   clear b35 b45 hst hnx hM5 R3 HC
   by_cases herr : err = 0
   · subst herr
     rcases HNX.out with ⟨rfl, rfl⟩ | ⟨t', ok, id, caps, rfl, rfl, hent, hcl⟩
     · have hw : ∃ k, wwhnf G k F x = some (wown cur, 0, f1) := by
         obtain ⟨k, hk⟩ := wloop_turn (m := 0) (r := (wown cur, 0, f1)) HST.out rfl
         obtain ⟨k', hk'⟩ := HCH.out _ _ hk
         exact ⟨k', by unfold wwhnf; rw [if_pos HF.out]; exact hk'⟩
       obtain ⟨k, hk⟩ := hw
       have HK := Lib.hid hk
       have hcur5 : TmIs (fun q => D q ∨ (w.heap.size + 2 ≤ q ∧ q < w5.heap.size)) w5 cur _ := HCUR.out.old (Old.of_upd hu5 (fun q hq => ⟨fun h => hq.elim (fun h' => hmb (h ▸ h')) (fun h' => by have h : q = mb := h; have := h'.1; omega), hEW q hq⟩)) (fun q hq => hq.imp (fun h => h) (fun h => ⟨h.1, by have := h.2; omega⟩))
       have hE5 : Within (fun q => D q ∨ (w.heap.size + 2 ≤ q ∧ q < w5.heap.size)) w5 := fun q hq => by
        rcases hq with hq | hq
        · have := hD q hq; omega
        exact hq.2
       have hcall := wown_any cur _ _ w5 hE5 hcur5
       have HC5 := Lib.hid hcall
       clear hk hcur5 hcall
       go_wp2_with (first
             | ((with_reducible refine this_op (.load 28 (.tmp 3)) ?_); refine wpList_at rfl 28 (.tmp 3) rfl ⟨w.heap.size, 0, none⟩ rfl _ _ R35 Tryz.underlying28 rfl tm_size ?_))
       refine HC5.out.mono ?_
       rintro e w6 ⟨cs6, rfl, hl6, hb6⟩
       have hu6 : Upd nob w5 w6 := Upd.of_below hb6
       have hz6 := hu6.size
       have hs6 := hl6.oneCell
       have hsi6 : (Tryz.prog.info? 28).map (·.size) = some cs6.size := by rw [hs6.1]; exact tm_size
       have b46 := B45.out.upd hu6 (fun f => f)
       have HL6 := Lib.hid hl6
       clear hl6 hb6 R35
       go_wp2_with (first
             | ((with_reducible refine this_op (.store 28 (.tmp 4) (.tmp 28)) ?_); refine wpList_store_row rfl 28 (.tmp 4) (.tmp 28) rfl (w.heap.size + 1) _ rfl rfl 28 _ b46 hsi6 (by rw [hs6.1]; rfl) hs6.2 ?_))
       refine bodyPost_ret (results_cell_tmp rfl _ _ (w.heap.size + 1) 28 cs6 (0, 0) _ _ rfl rfl (b46.row _) Tryz.underlying28 rfl hsi6) rfl ?_
       have h9 := wh_end (f := f1) (ev := ev) (u := wown cur) (cs := cs6) hmw (hu05.trans (hu6.mono (fun _ f => f.elim))) (by omega) (HL6.out.old (Old.refl _ _) (fun q hq => by
        rcases hq with (hq | hq) | hq
        · exact .inl hq
        · exact .inr ⟨hq.1, by have := hq.2; omega⟩
        exact .inr ⟨by have := hq.1; omega, hq.2⟩)) hD (Blk.upd HM5.out hu6 (fun f => f))
       exact ⟨k, wown cur, 0, f1, _, HK.out, rfl, h9.1, h9.2.1, h9.2.2, by omega⟩
     · have hm5 : Blk w5 mb 81 #[ev, .int .i64 f1] := HM5.out
       have m1 : w5.cell? ⟨mb, 1, none⟩ = some (.int .i64 (f1 : Int)) := hm5.cell 1
       have lm := hm5.lt
       have zm_ := hm5.frozen 1
       clear hm5
       by_cases hf0 : f1 = 0
       · have qf : ((f1 : Int) == 0) = true := by simp [hf0]
         have hw : ∃ k, wwhnf G k F x = some (tmz, 5, 0) := by
          obtain ⟨k, hk⟩ := wloop_turn (m := 0) (r := (tmz, 5, 0)) HST.out (by simp only; rw [if_pos hf0])
          obtain ⟨k', hk'⟩ := HCH.out _ _ hk
          exact ⟨k', by unfold wwhnf; rw [if_pos HF.out]; exact hk'⟩
         obtain ⟨k, hk⟩ := hw
         have HK := Lib.hid hk
         have hM0 : MacIs w5 mb ev 0 := by have := HM5.out; rw [hf0] at this; exact this
         have HM0 := Lib.hid hM0
         clear hk hf0 hM0
         go_wp2_with (first
               | ((with_reducible refine this_op (.store 28 (.tmp 4) (.tmp 35)) ?_); refine wpList_store_row rfl 28 (.tmp 4) (.tmp 35) rfl (w.heap.size + 1) _ rfl rfl 28 _ B45.out tm_size rfl (by simp [Value.oneCell']) ?_))
         refine bodyPost_ret (results_cell_tmp rfl _ _ (w.heap.size + 1) 28 #[.int .i64 0, .int .i64 0, .string ByteArray.empty, .int .i64 0, .int .i64 0, .slice none 0 0, .slice none 0 0, .slice none 0 0] (0, 0) _ _ rfl rfl (B45.out.row _) Tryz.underlying28 rfl tm_size) rfl ?_
         have h9 := wh_end hmw hu05 (by omega) (tmz_is _ _) hD HM0.out
         exact ⟨k, tmz, 5, 0, _, HK.out, rfl, h9.1, h9.2.1, h9.2.2, by omega⟩
       have qf : ((f1 : Int) == 0) = false := by simp [hf0]
       obtain ⟨f2, hf2⟩ : ∃ f2, f1 = f2 + 1 := ⟨f1 - 1, by omega⟩
       subst hf2
       have ew : wrap64 (((f2 + 1 : Nat) : Int) - 1) = (f2 : Int) := by unfold wrap64; omega
       have HCL := Lib.hid hcl
       clear hf0 hcl
       go_wp2_with fail
       obtain ⟨W6, hW6⟩ : ∃ W6, w5.setCell ⟨mb, 1, none⟩ (.int .i64 (f2 : Int)) = W6 := ⟨_, rfl⟩
       have hu6 : Upd (fun q => q = mb) w5 W6 := by rw [← hW6]; exact (Upd.refl (fun q => q = mb) w5).setCell (p := ⟨mb, 1, none⟩) (.inl rfl) _
       have hM6 : MacIs W6 mb ev f2 := by rw [← hW6]; exact Blk.set HM5.out 1 (.int .i64 (f2 : Int))
       rw [hW6]
       clear hW6 m1 zm_ R35
       have hz6 := hu6.size
       have hcall := HCL.out W6 (Old.of_upd hu6 (fun q hq => by
        rcases hq with (hq | hq) | hq
        · exact ⟨fun h => hmb (h ▸ hq), by have := hD q hq; omega⟩
        · exact ⟨fun h => by have h : q = mb := h; have := hq.1; omega, by have := hq.2; omega⟩
        · exact ⟨fun h => by have h : q = mb := h; have := hq.1; omega, hq.2⟩)) (fun q hq => by
        rcases hq with (hq | hq) | hq
        · have := hD q hq; omega
        · have := hq.2; omega
        have := hq.2; omega)
       refine hcall.mono ?_
       clear hcall
       rintro e w7 ⟨cs7, rfl, hl7, hb7⟩
       have hu7 : Upd nob W6 w7 := Upd.of_below hb7
       have hz7 := hu7.size
       have b37 := (B35.out.upd hu6 (fun h => by have h : w.heap.size = mb := h; omega)).upd hu7 (fun f => f)
       have b47 := (B45.out.upd hu6 (fun h => by have h : w.heap.size + 1 = mb := h; omega)).upd hu7 (fun f => f)
       have hM7 : MacIs w7 mb ev f2 := Blk.upd hM6 hu7 (fun f => f)
       have hu07 : Upd (fun q => q = mb) w w7 := (hu05.trans hu6).trans (hu7.mono (fun _ f => f.elim))
       have hs7 := hl7.oneCell
       have hsi7 : (Tryz.prog.info? 28).map (·.size) = some cs7.size := by rw [hs7.1]; exact tm_size
       have hset : Upd (fun q => q = w.heap.size) w7 (w7.setRow w.heap.size cs7) := (Upd.refl (fun q => q = w.heap.size) w7).setRow (.inl rfl) _
       have hz8 := hset.size
       have b48 := b47.upd hset (fun h => by have h : w.heap.size + 1 = w.heap.size := h; omega)
       have b38 : Blk (w7.setRow w.heap.size cs7) w.heap.size 28 cs7 := b37.row cs7
       have hM8 : MacIs (w7.setRow w.heap.size cs7) mb ev f2 := Blk.upd hM7 hset (fun h => by have h : mb = w.heap.size := h; omega)
       have hu08 : Upd (fun q => q = mb) w (w7.setRow w.heap.size cs7) := hu07.trans' hset (fun q hq h => by have h : q = w.heap.size := h; omega)
       have hl8 : TmIs (fun q => D q ∨ (w.heap.size + 2 ≤ q ∧ q < (w7.setRow w.heap.size cs7).heap.size)) (w7.setRow w.heap.size cs7) t' cs7 := hl7.old (Old.of_upd hset (fun q hq => by
        rcases hq with ((hq | hq) | hq) | hq
        · have := hD q hq; exact ⟨fun h => by have h : q = w.heap.size := h; omega, by omega⟩
        · exact ⟨fun h => by have h : q = w.heap.size := h; have := hq.1; omega, by have := hq.2; omega⟩
        · exact ⟨fun h => by have h : q = w.heap.size := h; have := hq.1; omega, by have := hq.2; omega⟩
        · exact ⟨fun h => by have h : q = w.heap.size := h; have := hq.1; omega, hq.2⟩)) (fun q hq => by
        rcases hq with ((hq | hq) | hq) | hq
        · exact .inl hq
        · exact .inr ⟨hq.1, by have := hq.2; omega⟩
        · exact .inr ⟨by have := hq.1; omega, by have := hq.2; omega⟩
        exact .inr ⟨by have := hq.1; omega, by have := hq.2; omega⟩)
       have HL8 := Lib.hid hl8
       have HM8 := Lib.hid hM8
       have B38 := Lib.hid b38
       have B48 := Lib.hid b48
       clear hl7 hl8 hM7 hM8 hM6 hb7 b38 b47
       cases ok with
       | false =>
        have hw : ∃ k, wwhnf G k F x = some (tmz, 6, f2) := by
         obtain ⟨k, hk⟩ := wloop_turn (m := 0) (r := (tmz, 6, f2)) HST.out (by simp)
         obtain ⟨k', hk'⟩ := HCH.out _ _ hk
         exact ⟨k', by unfold wwhnf; rw [if_pos HF.out]; exact hk'⟩
        obtain ⟨k, hk⟩ := hw
        have HK := Lib.hid hk
        clear hk
        go_wp2_with (first
              | ((with_reducible refine this_op (.store 28 (.tmp 4) (.tmp 50)) ?_); refine wpList_store_row rfl 28 (.tmp 4) (.tmp 50) rfl (w.heap.size + 1) _ rfl rfl 28 _ B48.out tm_size rfl (by simp [Value.oneCell']) ?_)
              | ((with_reducible refine this_op (.store 28 (.tmp 3) (.tmp 46)) ?_); refine wpList_store_row rfl 28 (.tmp 3) (.tmp 46) rfl w.heap.size _ rfl rfl 28 _ b37 hsi7 (by rw [hs7.1]; rfl) hs7.2 ?_))
        refine bodyPost_ret (results_cell_tmp rfl _ _ (w.heap.size + 1) 28 #[.int .i64 0, .int .i64 0, .string ByteArray.empty, .int .i64 0, .int .i64 0, .slice none 0 0, .slice none 0 0, .slice none 0 0] (0, 0) _ _ rfl rfl (B48.out.row _) Tryz.underlying28 rfl tm_size) rfl ?_
        have h9 := wh_end hmw hu08 (by omega) (tmz_is _ _) hD HM8.out
        exact ⟨k, tmz, 6, f2, _, HK.out, rfl, h9.1, h9.2.1, h9.2.2, by omega⟩
       | true =>
        go_wp2_with (first
              | ((with_reducible refine this_op (.store 28 (.tmp 3) (.tmp 46)) ?_); refine wpList_store_row rfl 28 (.tmp 3) (.tmp 46) rfl w.heap.size _ rfl rfl 28 _ b37 hsi7 (by rw [hs7.1]; rfl) hs7.2 ?_))
        go_roundg (gk - 1)
        case measure => omega
        case rel => exact ⟨f2, t', cs7, by omega, by omega, .inl (by omega), B38.out, HL8.out, B48.out, HM8.out, hu08, by omega, fun n r h => by
         obtain ⟨k, hk⟩ := wloop_turn (m := n) (r := r) HST.out (by simpa using h)
         exact HCH.out _ _ hk⟩
   have qe : (err != 0) = true := by simp [herr]
   have hw : ∃ k, wwhnf G k F x = some (tmz, err, f1) := by
    obtain ⟨k, hk⟩ := wloop_err herr HST.out
    obtain ⟨k', hk'⟩ := HCH.out _ _ hk
    exact ⟨k', by unfold wwhnf; rw [if_pos HF.out]; exact hk'⟩
   obtain ⟨k, hk⟩ := hw
   have HK := Lib.hid hk
   clear hk herr
   go_wp2_with (first
         | ((with_reducible refine this_op (.store 28 (.tmp 4) (.tmp 22)) ?_); refine wpList_store_row rfl 28 (.tmp 4) (.tmp 22) rfl (w.heap.size + 1) _ rfl rfl 28 _ B45.out tm_size rfl (by simp [Value.oneCell']) ?_))
   refine bodyPost_ret (results_cell_tmp rfl _ _ (w.heap.size + 1) 28 #[.int .i64 0, .int .i64 0, .string ByteArray.empty, .int .i64 0, .int .i64 0, .slice none 0 0, .slice none 0 0, .slice none 0 0] (0, 0) _ _ rfl rfl (B45.out.row _) Tryz.underlying28 rfl tm_size) rfl ?_
   have h9 := wh_end hmw hu05 (by omega) (tmz_is _ _) hD HM5.out
   exact ⟨k, tmz, err, f1, _, HK.out, rfl, h9.1, h9.2.1, h9.2.2, by omega⟩
theorem whnf_any (G : List Glb) (ev : Value) (mb : Nat) : ∀ (F : Nat) (x : Tm), F ≤ 4611686018427387904 → WhnfC G ev mb F x := by
 intro F
 induction F using Nat.strongRecOn with
 | ind F ihF =>
  intro x hF
  obtain ⟨V, hV⟩ : ∃ V, x.vh = V := ⟨_, rfl⟩
  induction V using Nat.strongRecOn generalizing x with
  | ind V ihV => exact whnf_walk G ev mb F x hF (fun y hy => ihV y.vh (by omega) y rfl) (fun f hf y => ihF f hf y (by omega))
end Go.Proofs.YtiampoebdmflgaaGreat
/- filled. -/
namespace Go.Proofs.YtiampoebdmflgaaGreat
open Go.RowKit
set_option linter.unusedVariables false
set_option maxRecDepth 100000
set_option maxHeartbeats 1000000
set_option linter.unusedSimpArgs false
def wfuel (n : Int) : Int := max 0 (min n 1000000)
theorem wfuel_in (n : Int) : 0 ≤ wfuel n ∧ wfuel n ≤ 1000000 := by unfold wfuel; omega
theorem filled_any (v : Value) (G : List Glb) (D : Nat → Prop) (n : Int) (w : World) (hE : EnvV D w v G) :
    Calls Tryz.prog 35 #[v, .int .i64 n] w fun e w' => e = .returned (.pointer (some ⟨w.heap.size, 0, none⟩)) ∧ Blk w' w.heap.size 81 #[v, .int .i64 (wfuel n)] ∧ Upd nob w w' ∧ w.heap.size < w'.heap.size := by
 rcases hE with ⟨rfl, rfl⟩ | ⟨eb, rfl, _⟩ <;>
 · go_enter Tryz.func35, Tryz.ntmps35
   go_wp2_with fail
   go_ret
   exact ⟨rfl, Blk.new w _ _, (Upd.refl nob w).alloc _, by simp⟩
theorem filled_mac (v : Value) (G : List Glb) (D : Nat → Prop) (n : Int) (w : World) (hE : EnvV D w v G) :
    Calls Tryz.prog 35 #[v, .int .i64 n] w fun e w' => e = .returned (.pointer (some ⟨w.heap.size, 0, none⟩)) ∧ MacIs w' w.heap.size v (wfuel n).toNat ∧ Upd nob w w' ∧ w.heap.size < w'.heap.size := by
 refine (filled_any v G D n w hE).mono ?_
 rintro e w' ⟨h1, h2, h3, h4⟩
 have hc : (((wfuel n).toNat : Nat) : Int) = wfuel n := by have := wfuel_in n; omega
 exact ⟨h1, by unfold MacIs; rw [hc]; exact h2, h3, h4⟩
end Go.Proofs.YtiampoebdmflgaaGreat
/- Whnf. -/
namespace Go.Proofs.YtiampoebdmflgaaGreat
open Go.RowKit
set_option linter.unusedVariables false
set_option maxRecDepth 100000
set_option maxHeartbeats 2000000
set_option linter.unusedSimpArgs false
theorem results_cell_tmp2 {P : Program} {fn : Func} {p q r : Tmp} {ty : TypeId} (h : fn.results = #[.cell p ty, .tmp q, .tmp r]) (tmps : Array Value) (w : World) (g : Nat) (t : TypeId) (cs : Array Value) (fr : Nat × Nat) (d : TypeDesc) (v v2 : Value)
    (hp : tmps.getD p undef = .pointer (some ⟨g, 0, none⟩)) (hq : tmps.getD q undef = v) (hr : tmps.getD r undef = v2) (hg : w.heap[g]? = some (.cells cs t fr))
    (hu : P.underlying ty = some d) (hd : (match d with | .struct _ | .array _ _ => true | _ => false) = true) (hi : (P.info? ty).map (·.size) = some cs.size) :
    (results fn tmps).run P w = .ok (.tuple #[.agg cs, v, v2]) w := by
 have hp' : tmps[p]?.getD undef = .pointer (some ⟨g, 0, none⟩) := by simpa using hp
 have hq' : tmps[q]?.getD undef = v := by simpa using hq
 have hr' : tmps[r]?.getD undef = v2 := by simpa using hr
 simp [results, h, hp', hq', hr', asAddr, run_loadVar_row w g t ty cs fr d hg hu hd hi]
theorem whnf_top (G : List Glb) (ev : Value) (fuel : Int) (x : Tm) (D : Nat → Prop) (w : World) (cs : Array Value) (hD : Within D w) (hE : EnvV D w ev G) (ht : TmIs D w x cs) :
    Calls Tryz.prog 13 #[ev, .agg cs, .int .i64 fuel] w fun e w' => ∃ (n : Nat) (u : Tm) (err : Int) (left : Nat) (cs' : Array Value), wwhnf G n (wfuel fuel).toNat x = some (u, err, left) ∧
     e = .returned (.tuple #[.agg cs', .int .i64 left, .int .i64 err]) ∧ TmIs (grow D w w') w' u cs' ∧ Upd nob w w' ∧ left ≤ (wfuel fuel).toNat := by
 have hz := tm_zero
 obtain ⟨yp, yq, yB, ym, yd, yE, yx, yE', yx', rfl⟩ := ht.lit8
 obtain ⟨W1, hW1⟩ : ∃ W1, (w.alloc (.cells #[.int .i64 x.k, .int .i64 x.n, .string x.nm, .int .i64 yp, .int .i64 yq, .slice yB ym yd, .slice yE x.ls.length yx, .slice yE' x.ks.length yx'] 28)).alloc (.cells #[.int .i64 0, .int .i64 0, .string ByteArray.empty, .int .i64 0, .int .i64 0, .slice none 0 0, .slice none 0 0, .slice none 0 0] 28) = W1 := ⟨_, rfl⟩
 have huW1 : Upd nob w W1 := by rw [← hW1]; exact ((Upd.refl nob w).alloc _).alloc _
 have hsW1 : W1.heap.size = w.heap.size + 2 := by rw [← hW1]; simp
 have b0 : Blk W1 (w.heap.size) 28 #[.int .i64 x.k, .int .i64 x.n, .string x.nm, .int .i64 yp, .int .i64 yq, .slice yB ym yd, .slice yE x.ls.length yx, .slice yE' x.ks.length yx'] := by
  rw [← hW1]
  have h := Blk.new (w) 28 #[.int .i64 x.k, .int .i64 x.n, .string x.nm, .int .i64 yp, .int .i64 yq, .slice yB ym yd, .slice yE x.ls.length yx, .slice yE' x.ks.length yx']
  exact h.alloc _
 have b1 : Blk W1 (w.heap.size + 1) 28 #[.int .i64 0, .int .i64 0, .string ByteArray.empty, .int .i64 0, .int .i64 0, .slice none 0 0, .slice none 0 0, .slice none 0 0] := by
  rw [← hW1]
  have h := Blk.new (w.alloc (.cells #[.int .i64 x.k, .int .i64 x.n, .string x.nm, .int .i64 yp, .int .i64 yq, .slice yB ym yd, .slice yE x.ls.length yx, .slice yE' x.ks.length yx'] 28)) 28 #[.int .i64 0, .int .i64 0, .string ByteArray.empty, .int .i64 0, .int .i64 0, .slice none 0 0, .slice none 0 0, .slice none 0 0]
  rw [World.size_alloc] at h
  exact h
 have HW1 := Lib.hid hW1
 have B4 := Lib.hid b0
 have B6 := Lib.hid b1
 have HE := Lib.hid hE
 have HT := Lib.hid ht
 have HS1 := Lib.hid hsW1
 have hcall := filled_mac ev G D fuel W1 (hE.old (hD.old huW1) (fun _ h => h))
 obtain ⟨F, hF⟩ : ∃ F, (wfuel fuel).toNat = F := ⟨_, rfl⟩
 rw [hF] at hcall ⊢
 have hF6 : F ≤ 4611686018427387904 := by have := wfuel_in fuel; omega
 have HC := Lib.hid hcall
 clear hW1 hsW1 b0 b1 hE ht hcall hF
 go_enter Tryz.func13, Tryz.ntmps13
 go_wp2_with fail
 rw [HW1.out]
 refine HC.out.mono ?_
 rintro e w2 ⟨rfl, hM2, hu2, hlt2⟩
 have hu02 := huW1.trans hu2
 have r4 := (B4.out.upd hu2 (fun f => f)).rowAt
 have HS2 := Lib.hid (show W1.heap.size = w.heap.size + 2 from HS1.out)
 have hcall := whnf_any G ev W1.heap.size F x hF6 D w2 _ (hD.up hu02) (fun h => by have := hD _ h; have := HS2.out; omega) (HE.out.old (hD.old hu02) (fun _ h => h)) (HT.out.old (hD.old hu02) (fun _ h => h)) hM2
 have HC2 := Lib.hid hcall
 clear hcall HC
 go_wp2_with (first
       | ((with_reducible refine this_op (.load 28 (.tmp 4)) ?_); refine wpList_at rfl 28 (.tmp 4) rfl ⟨w.heap.size, 0, none⟩ rfl _ _ r4 Tryz.underlying28 rfl tm_size ?_))
 refine HC2.out.mono ?_
 rintro e w3 ⟨n, u, err, left, ucs, hw3, rfl, hut, hM3, hu3, hle⟩
 obtain ⟨up, uq, uB, um, ud, uE, ux, uE', ux', rfl⟩ := hut.lit8
 have hu03 : Upd (fun q => q = W1.heap.size) w w3 := (hu02.mono (fun _ f => f.elim)).trans hu3
 obtain ⟨W4, hW4⟩ : ∃ W4, w3.alloc (.cells #[.int .i64 u.k, .int .i64 u.n, .string u.nm, .int .i64 up, .int .i64 uq, .slice uB um ud, .slice uE u.ls.length ux, .slice uE' u.ks.length ux'] 28) = W4 := ⟨_, rfl⟩
 have hu4 : Upd nob w3 W4 := by rw [← hW4]; exact (Upd.refl nob w3).alloc _
 have b10 : Blk W4 w3.heap.size 28 #[.int .i64 u.k, .int .i64 u.n, .string u.nm, .int .i64 up, .int .i64 uq, .slice uB um ud, .slice uE u.ls.length ux, .slice uE' u.ks.length ux'] := by rw [← hW4]; exact Blk.new w3 _ _
 have hs4 : W4.heap.size = w3.heap.size + 1 := by rw [← hW4]; simp
 have hz3 := hu3.size
 have hz2 := hu2.size
 have hsz1 := HS2.out
 have b6 := ((B6.out.upd hu2 (fun f => f)).upd hu3 (fun h => by have h : w.heap.size + 1 = W1.heap.size := h; omega)).upd hu4 (fun f => f)
 have bm : Blk W4 W1.heap.size 81 #[ev, .int .i64 left] := Blk.upd hM3 hu4 (fun f => f)
 have m1 : W4.cell? ⟨W1.heap.size, 1, none⟩ = some (.int .i64 (left : Int)) := bm.cell 1
 have r10 := b10.rowAt
 have HUT := Lib.hid hut
 have B66 := Lib.hid b6
 have HW3 := Lib.hid hw3
 have HS4 := Lib.hid hs4
 have hset : Upd (fun q => q = w.heap.size + 1) W4 (W4.setRow (w.heap.size + 1) #[.int .i64 u.k, .int .i64 u.n, .string u.nm, .int .i64 up, .int .i64 uq, .slice uB um ud, .slice uE u.ls.length ux, .slice uE' u.ks.length ux']) := (Upd.refl (fun q => q = w.heap.size + 1) W4).setRow (.inl rfl) _
 have m19 : (W4.setRow (w.heap.size + 1) #[.int .i64 u.k, .int .i64 u.n, .string u.nm, .int .i64 up, .int .i64 uq, .slice uB um ud, .slice uE u.ls.length ux, .slice uE' u.ks.length ux']).cell? ⟨W1.heap.size, 1, none⟩ = some (.int .i64 (left : Int)) := (bm.upd hset (fun h => by have h : W1.heap.size = w.heap.size + 1 := h; omega)).cell 1
 have r109 : rowAt (W4.setRow (w.heap.size + 1) #[.int .i64 u.k, .int .i64 u.n, .string u.nm, .int .i64 up, .int .i64 uq, .slice uB um ud, .slice uE u.ls.length ux, .slice uE' u.ks.length ux']) ⟨w3.heap.size, 0, none⟩ #[.int .i64 u.k, .int .i64 u.n, .string u.nm, .int .i64 up, .int .i64 uq, .slice uB um ud, .slice uE u.ls.length ux, .slice uE' u.ks.length ux'] := (b10.upd hset (fun h => by have h : w3.heap.size = w.heap.size + 1 := h; omega)).rowAt
 clear hut hs4 hw3 hsz1 r4
 go_wp2_with fail
 try rw [hW4]
 clear hW4
 refine wp_region_P (by kernel_rfl) ?_
 refine wpAny_of_held (S := fun X : World => rowAt X ⟨w3.heap.size, 0, none⟩ #[.int .i64 u.k, .int .i64 u.n, .string u.nm, .int .i64 up, .int .i64 uq, .slice uB um ud, .slice uE u.ls.length ux, .slice uE' u.ks.length ux'] ∧ X.cell? ⟨W1.heap.size, 1, none⟩ = some (.int .i64 (left : Int))) _ _ _ _ ?_
 have hS : rowAt W4.drew ⟨w3.heap.size, 0, none⟩ #[.int .i64 u.k, .int .i64 u.n, .string u.nm, .int .i64 up, .int .i64 uq, .slice uB um ud, .slice uE u.ls.length ux, .slice uE' u.ks.length ux'] ∧ W4.drew.cell? ⟨W1.heap.size, 1, none⟩ = some (.int .i64 (left : Int)) := ⟨r10, m1⟩
 refine hT 0 (.agg #[.int .i64 u.k, .int .i64 u.n, .string u.nm, .int .i64 up, .int .i64 uq, .slice uB um ud, .slice uE u.ls.length ux, .slice uE' u.ks.length ux']) rfl (by kernel_rfl) (by rfl) ?_ hS ?_
 · intro wx hx
   exact run_load_at 28 (.tmp 10) rfl ⟨w3.heap.size, 0, none⟩ rfl #[.int .i64 u.k, .int .i64 u.n, .string u.nm, .int .i64 up, .int .i64 uq, .slice uB um ud, .slice uE u.ls.length ux, .slice uE' u.ks.length ux'] _ hx.1 Tryz.underlying28 rfl tm_size
 try simp only [tl]
 refine hT 1 ?_ rfl (by kernel_rfl) (by rfl) ?_ hS ?_
 rotate_left; · intro wx hx; clear hx; go_simp; with_reducible rfl
 try simp only [tl]
 refine hT 2 ?_ rfl (by kernel_rfl) (by rfl) ?_ hS ?_
 rotate_left; · intro wx hx; clear hx; go_simp; with_reducible rfl
 try simp only [tl]
 refine hT 3 ?_ rfl (by kernel_rfl) (by rfl) ?_ hS ?_
 rotate_left; · intro wx hx; clear hx; go_simp; with_reducible rfl
 try simp only [tl]
 refine hT 4 (.int .i64 (left : Int)) rfl (by kernel_rfl) (by rfl) ?_ hS ?_
 · intro wx hx
   have q := hx.2
   go_simp
 try simp only [tl]
 refine hT 5 ?_ rfl (by kernel_rfl) (by rfl) ?_ hS ?_
 rotate_left; · intro wx hx; clear hx; go_simp; with_reducible rfl
 try simp only [tl]
 refine wpAnyH_alone (i := 6) (by kernel_rfl) rfl (by rfl) fun K hK => ?_
 refine owp_store_blk 28 (.tmp 6) (.tmp 21) rfl rfl (w.heap.size + 1) #[.int .i64 u.k, .int .i64 u.n, .string u.nm, .int .i64 up, .int .i64 uq, .slice uB um ud, .slice uE u.ls.length ux, .slice uE' u.ks.length ux'] rfl rfl 28 _ B66.out tm_size rfl (by simp [Value.oneCell']) ?_
 refine hK _ _ ⟨r109, m19⟩ ?_
 clear hK K; try simp only [tl]
 have hS9 := And.intro r109 m19
 refine wpAnyH_alone (i := 7) (by kernel_rfl) rfl (by rfl) fun K hK => ?_
 go_simp
 refine hK _ _ hS9 ?_
 clear hK K; try simp only [tl]
 refine wpAnyH_alone (i := 8) (by kernel_rfl) rfl (by rfl) fun K hK => ?_
 go_simp
 refine hK _ _ hS9 ?_
 clear hK K; try simp only [tl]
 refine wpAnyH_done (by kernel_rfl) ?_ _
 refine NoPanic.normal ?_
 go_wp2_with fail
 refine bodyPost_ret (results_cell_tmp2 rfl _ _ (w.heap.size + 1) 28 #[.int .i64 u.k, .int .i64 u.n, .string u.nm, .int .i64 up, .int .i64 uq, .slice uB um ud, .slice uE u.ls.length ux, .slice uE' u.ks.length ux'] (0, 0) _ _ _ rfl rfl rfl (B66.out.row _) Tryz.underlying28 rfl tm_size) rfl ?_
 have hset2 : Upd (fun q => q = w.heap.size + 1) W4.drew (W4.drew.setRow (w.heap.size + 1) #[.int .i64 u.k, .int .i64 u.n, .string u.nm, .int .i64 up, .int .i64 uq, .slice uB um ud, .slice uE u.ls.length ux, .slice uE' u.ks.length ux']) := (Upd.refl (fun q => q = w.heap.size + 1) W4.drew).setRow (.inl rfl) _
 have hzd : W4.drew.heap.size = W4.heap.size := rfl
 have hz1 := HS2.out
 have hz4 := HS4.out
 have hz5 := hset2.size
 have htm : TmIs (grow D w (W4.drew.setRow (w.heap.size + 1) #[.int .i64 u.k, .int .i64 u.n, .string u.nm, .int .i64 up, .int .i64 uq, .slice uB um ud, .slice uE u.ls.length ux, .slice uE' u.ks.length ux'])) (W4.drew.setRow (w.heap.size + 1) #[.int .i64 u.k, .int .i64 u.n, .string u.nm, .int .i64 up, .int .i64 uq, .slice uB um ud, .slice uE u.ls.length ux, .slice uE' u.ks.length ux']) u #[.int .i64 u.k, .int .i64 u.n, .string u.nm, .int .i64 up, .int .i64 uq, .slice uB um ud, .slice uE u.ls.length ux, .slice uE' u.ks.length ux'] := HUT.out.old ((Old.of_upd hu4.drew (fun q hq => ⟨fun f => f, by
  rcases hq with hq | hq
  · have := hD q hq; omega
  · exact hq.2⟩)).trans (Old.of_upd hset2 (fun q hq => by
  rcases hq with hq | hq
  · have := hD q hq; exact ⟨fun h => by have h : q = w.heap.size + 1 := h; omega, by omega⟩
  · exact ⟨fun h => by have h : q = w.heap.size + 1 := h; have := hq.1; omega, by have := hq.2; omega⟩))) (fun q hq => by
  rcases hq with hq | hq
  · exact .inl hq
  exact .inr ⟨by have := hq.1; omega, by have := hq.2; omega⟩)
 have hup : Upd nob w (W4.drew.setRow (w.heap.size + 1) #[.int .i64 u.k, .int .i64 u.n, .string u.nm, .int .i64 up, .int .i64 uq, .slice uB um ud, .slice uE u.ls.length ux, .slice uE' u.ks.length ux']) := ((hu02.trans' hu3 (fun q hq h => by have h : q = W1.heap.size := h; omega)).trans hu4.drew).trans' hset2 (fun q hq h => by have h : q = w.heap.size + 1 := h; omega)
 exact ⟨n, u, err, left, _, HW3.out, rfl, htm, hup, hle⟩
end Go.Proofs.YtiampoebdmflgaaGreat
/- New of nothing; Find of no environment; little. -/
namespace Go.Proofs.YtiampoebdmflgaaGreat
open Go.RowKit
set_option linter.unusedVariables false
set_option maxRecDepth 100000
set_option maxHeartbeats 2000000
set_option linter.unusedSimpArgs false
theorem gl_size : (Tryz.prog.info? 50).map (·.size) = some 26 := by kernel_rfl
theorem gl_zero (w : World) : (zeroValue 50).run Tryz.prog w = .ok (.agg #[.int .i64 0, .string ByteArray.empty, .int .i64 0, .int .i64 0, .int .i64 0, .string ByteArray.empty, .int .i64 0, .int .i64 0, .slice none 0 0, .slice none 0 0, .slice none 0 0, .int .i64 0, .int .i64 0, .string ByteArray.empty, .int .i64 0, .int .i64 0, .slice none 0 0, .slice none 0 0, .slice none 0 0, .string ByteArray.empty, .int .i64 0, .int .i64 0, .int .i64 0, .slice none 0 0, .int .i64 0, .slice none 0 0]) w := by kernel_rfl
theorem run_makeMap_op {P : Program} {w : World} {t : TypeId} {o : Oper} {a : Act} (ho : o.op = .makeMap t none) : (execOp a.eval o).run P w = .ok (.value (.map (some w.heap.size))) (w.alloc (.map #[] 0)) := by
 unfold execOp
 simp only [ho]
 simp [run_makeMap]
theorem with_nil (w : World) : Calls Tryz.prog 34 #[.pointer none, .slice none 0 0] w fun e w' => ∃ eb, e = .returned (.pointer (some ⟨eb, 0, none⟩)) ∧ EnvIs (fresh w w') w' eb [] ∧ Upd nob w w' := by
 go_enter Tryz.func34, Tryz.ntmps34
 go_wp2_with (first
  | ((with_reducible refine this_op (.makeMap 115 none) ?_); refine wpList_run rfl _ _ (run_makeMap_op rfl) ?_))
 refine wp_loop_once ?_
 go_wp2_with fail
 refine wp_loop_once ?_
 go_wp2_with fail
 go_ret
 have hb := Blk.new (w.alloc (.map #[] 0)) 118 #[.slice none 0 0, .map (some w.heap.size)]
 have hm := MapIs.new w
 rw [World.size_alloc] at hb
 have hu : Upd nob w ((w.alloc (.map #[] 0)).alloc (.cells #[.slice none 0 0, .map (some w.heap.size)] 118)) := ((Upd.refl nob w).alloc _).alloc _
 have hs : ((w.alloc (.map #[] 0)).alloc (.cells #[.slice none 0 0, .map (some w.heap.size)] 118)).heap.size = w.heap.size + 1 + 1 := by simp
 refine ⟨w.heap.size + 1, rfl, ⟨none, 0, w.heap.size, [], rfl, ⟨by omega, by rw [hs]; omega⟩, hb, by simp, fun j p hj => by simp at hj, ⟨by omega, by rw [hs]; omega⟩, hm.upd ((Upd.refl nob _).alloc _) (fun f => f), fun j g p hj _ => by simp at hj, by simp⟩, hu⟩
theorem new_nil (w : World) : Calls Tryz.prog 12 #[.slice none 0 0] w fun e w' => ∃ eb, e = .returned (.pointer (some ⟨eb, 0, none⟩)) ∧ EnvIs (fresh w w') w' eb [] ∧ Upd nob w w' := by
 go_enter Tryz.func12, Tryz.ntmps12
 go_wp2_with fail
 refine (with_nil w).mono ?_
 rintro e w' ⟨eb, rfl, h⟩
 go_wp2_with fail
 go_ret
 exact ⟨eb, rfl, h⟩
theorem little_any (n : Int) (w : World) : Calls Tryz.prog 11 #[.int .i64 n] w fun e w' => e = .returned (.int .i64 (min n 3000)) ∧ w = w' := by
 go_enter Tryz.func11, Tryz.ntmps11
 go_wp2_with fail
 go_ret
 exact ⟨by first | rfl | simp, rfl⟩
end Go.Proofs.YtiampoebdmflgaaGreat
/- own: a global in memory of its own. -/
namespace Go.Proofs.YtiampoebdmflgaaGreat
open Go.RowKit
set_option linter.unusedVariables false
set_option maxRecDepth 100000
set_option maxHeartbeats 8000000
set_option linter.unusedSimpArgs false
def rown (r : Rul) : Rul := { r with body := wown r.body }
def gown (g : Glb) : Glb := { g with ty := wown g.ty, val := wown g.val, rules := g.rules.map rown }
theorem ru_zero (w : World) : (zeroValue 132).run Tryz.prog w = .ok (.agg #[.string ByteArray.empty, .int .i64 0, .int .i64 0, .int .i64 0, .string ByteArray.empty, .int .i64 0, .int .i64 0, .slice none 0 0, .slice none 0 0, .slice none 0 0]) w := by kernel_rfl
theorem ru_info : (Tryz.prog.info? 132).map (fun i => (i.zero, i.size, i.bytes)) = some (some (.agg #[.string ByteArray.empty, .int .i64 0, .int .i64 0, .int .i64 0, .string ByteArray.empty, .int .i64 0, .int .i64 0, .slice none 0 0, .slice none 0 0, .slice none 0 0]), 10, 144) := by kernel_rfl
theorem arr8 {c : Array Value} (h : c.size = 8) : ∃ a0 a1 a2 a3 a4 a5 a6 a7, c = #[a0, a1, a2, a3, a4, a5, a6, a7] := by
 obtain ⟨l⟩ := c
 match l, h with
 | [a0, a1, a2, a3, a4, a5, a6, a7], _ => exact ⟨a0, a1, a2, a3, a4, a5, a6, a7, rfl⟩
theorem part8 {w : World} {b k : Nat} {t : TypeId} {cs : Array Value} {e0 e1 e2 e3 e4 e5 e6 e7 : Value} (h : Blk w b t cs) (hc : ∀ j v, (#[e0, e1, e2, e3, e4, e5, e6, e7] : Array Value)[j]? = some v → cs[k + j]? = some v) : rowAt w ⟨b, k, none⟩ #[e0, e1, e2, e3, e4, e5, e6, e7] := by
 have := sub_row h.rowAt k _ hc
 have e2 : (Addr.add ⟨b, 0, none⟩ k) = ⟨b, k, none⟩ := by unfold Addr.add; split <;> simp_all
 rwa [e2] at this
theorem get8 {P : Nat → Value → Prop} {e0 e1 e2 e3 e4 e5 e6 e7 : Value} (h0 : P 0 e0) (h1 : P 1 e1) (h2 : P 2 e2) (h3 : P 3 e3) (h4 : P 4 e4) (h5 : P 5 e5) (h6 : P 6 e6) (h7 : P 7 e7) : ∀ j v, (#[e0, e1, e2, e3, e4, e5, e6, e7] : Array Value)[j]? = some v → P j v
 | 0, v, h => by simp at h; subst h; exact h0
 | 1, v, h => by simp at h; subst h; exact h1
 | 2, v, h => by simp at h; subst h; exact h2
 | 3, v, h => by simp at h; subst h; exact h3
 | 4, v, h => by simp at h; subst h; exact h4
 | 5, v, h => by simp at h; subst h; exact h5
 | 6, v, h => by simp at h; subst h; exact h6
 | 7, v, h => by simp at h; subst h; exact h7
 | j + 8, v, h => by simp at h
theorem own_not {D : Nat → Prop} {w w1 : World} {s t : Nat} (h1 : Within D w1) (hD : Within D w) (hs : w.heap.size + 2 ≤ s) (ht : t ≤ w1.heap.size) : ∀ q, (D q ∨ (s ≤ q ∧ q < t)) → ¬ (q = w.heap.size ∨ q = w.heap.size + 1) ∧ q < w1.heap.size := fun q hq => by
 rcases hq with h | h
 · have := hD q h; have := h1 q h; omega
 have := h.1; have := h.2; omega
theorem own_grow {D : Nat → Prop} {w wF : World} {s t : Nat} (hD : Within D w) (hs : w.heap.size ≤ s) (ht : t ≤ wF.heap.size) : ∀ q, (D q ∨ (s ≤ q ∧ q < t)) → grow D w wF q := fun q hq => hq.imp id (fun h => ⟨by have := h.1; omega, by have := h.2; omega⟩)
theorem own_any (g : Glb) (cs : Array Value) (D : Nat → Prop) (w : World) (hD : Within D w) (hg : GlIs D w g cs) :
    Calls Tryz.prog 43 #[.agg cs] w fun e w' => ∃ cs', e = .returned (.agg cs') ∧ GlIs (grow D w w') w' (gown g) cs' ∧ Upd nob w w' := by
 have hz := tm_zero
 have hgz := gl_zero
 have hrz := ru_zero
 obtain ⟨a0, a1, a2, a3, a4, a5, a6, a7, b0, b1, b2, b3, b4, b5, b6, b7, C, cc, R, rc, rfl, hin, hnm, hty, hval, hct, hcl, hru, hrl⟩ := hg
 obtain ⟨W1, hW1⟩ : ∃ W1, (w.alloc (.cells #[.int .i64 g.kind, .string g.nm, .int .i64 g.vars, a0, a1, a2, a3, a4, a5, a6, a7, b0, b1, b2, b3, b4, b5, b6, b7, .string g.ind, .int .i64 g.params, .int .i64 g.indices, .int .i64 g.fields, .slice C g.ctors.length cc, .int .i64 g.minors, .slice R g.rules.length rc] 50)).alloc (.cells #[.int .i64 0, .string ByteArray.empty, .int .i64 0, .int .i64 0, .int .i64 0, .string ByteArray.empty, .int .i64 0, .int .i64 0, .slice none 0 0, .slice none 0 0, .slice none 0 0, .int .i64 0, .int .i64 0, .string ByteArray.empty, .int .i64 0, .int .i64 0, .slice none 0 0, .slice none 0 0, .slice none 0 0, .string ByteArray.empty, .int .i64 0, .int .i64 0, .int .i64 0, .slice none 0 0, .int .i64 0, .slice none 0 0] 50) = W1 := ⟨_, rfl⟩
 have huW1 : Upd nob w W1 := by rw [← hW1]; exact ((Upd.refl nob w).alloc _).alloc _
 have hsW1 : W1.heap.size = w.heap.size + 2 := by rw [← hW1]; simp
 have k0 : Blk W1 (w.heap.size) 50 #[.int .i64 g.kind, .string g.nm, .int .i64 g.vars, a0, a1, a2, a3, a4, a5, a6, a7, b0, b1, b2, b3, b4, b5, b6, b7, .string g.ind, .int .i64 g.params, .int .i64 g.indices, .int .i64 g.fields, .slice C g.ctors.length cc, .int .i64 g.minors, .slice R g.rules.length rc] := by
  rw [← hW1]
  have h := Blk.new (w) 50 #[.int .i64 g.kind, .string g.nm, .int .i64 g.vars, a0, a1, a2, a3, a4, a5, a6, a7, b0, b1, b2, b3, b4, b5, b6, b7, .string g.ind, .int .i64 g.params, .int .i64 g.indices, .int .i64 g.fields, .slice C g.ctors.length cc, .int .i64 g.minors, .slice R g.rules.length rc]
  exact h.alloc _
 have k1 : Blk W1 (w.heap.size + 1) 50 #[.int .i64 0, .string ByteArray.empty, .int .i64 0, .int .i64 0, .int .i64 0, .string ByteArray.empty, .int .i64 0, .int .i64 0, .slice none 0 0, .slice none 0 0, .slice none 0 0, .int .i64 0, .int .i64 0, .string ByteArray.empty, .int .i64 0, .int .i64 0, .slice none 0 0, .slice none 0 0, .slice none 0 0, .string ByteArray.empty, .int .i64 0, .int .i64 0, .int .i64 0, .slice none 0 0, .int .i64 0, .slice none 0 0] := by
  rw [← hW1]
  have h := Blk.new (w.alloc (.cells #[.int .i64 g.kind, .string g.nm, .int .i64 g.vars, a0, a1, a2, a3, a4, a5, a6, a7, b0, b1, b2, b3, b4, b5, b6, b7, .string g.ind, .int .i64 g.params, .int .i64 g.indices, .int .i64 g.fields, .slice C g.ctors.length cc, .int .i64 g.minors, .slice R g.rules.length rc] 50)) 50 #[.int .i64 0, .string ByteArray.empty, .int .i64 0, .int .i64 0, .int .i64 0, .string ByteArray.empty, .int .i64 0, .int .i64 0, .slice none 0 0, .slice none 0 0, .slice none 0 0, .int .i64 0, .int .i64 0, .string ByteArray.empty, .int .i64 0, .int .i64 0, .slice none 0 0, .slice none 0 0, .slice none 0 0, .string ByteArray.empty, .int .i64 0, .int .i64 0, .int .i64 0, .slice none 0 0, .int .i64 0, .slice none 0 0]
  rw [World.size_alloc] at h
  exact h
 have HW1 := Lib.hid hW1
 have HB0 := Lib.hid k0
 have HB1 := Lib.hid k1
 have hD1 : Within D W1 := hD.up huW1
 have HTY := Lib.hid (hty.old (hD.old huW1) (fun _ h => h))
 have HVAL := Lib.hid (hval.old (hD.old huW1) (fun _ h => h))
 have HCT := Lib.hid hct
 have HRU := Lib.hid hru
 have hs1 : w.heap.size + 2 ≤ W1.heap.size := by omega
 have hblt : w.heap.size < W1.heap.size := by omega
 have HIN := Lib.hid hin
 have HNM := Lib.hid hnm
 clear hW1 k0 k1 hty hval hct hru hsW1 hin hnm
 go_enter Tryz.func43, Tryz.ntmps43
 go_wp2_with fail
 rw [HW1.out]
 have rA : rowAt W1 ⟨w.heap.size, 3, none⟩ #[a0, a1, a2, a3, a4, a5, a6, a7] := part8 HB0.out (get8 rfl rfl rfl rfl rfl rfl rfl rfl)
 have rB : rowAt W1 ⟨w.heap.size, 11, none⟩ #[b0, b1, b2, b3, b4, b5, b6, b7] := part8 HB0.out (get8 rfl rfl rfl rfl rfl rfl rfl rfl)
 refine wp_region_P (by kernel_rfl) ?_
 refine wpAny_of_E (fun X : World => ∀ p : Addr, p.block < W1.heap.size → X.cell? p = W1.cell? p) 7 _ _ _ _ ?_
 have hS : ∀ p : Addr, p.block < W1.heap.size → W1.drew.cell? p = W1.cell? p := fun _ _ => rfl
 refine eT 0 ?_ [] rfl (by kernel_rfl) (by rfl) ?_ hS ?_
 rotate_left; · intro wx hx; clear hx; go_simp; with_reducible rfl
 try simp only [tl]
 refine eT 1 (.agg #[a0, a1, a2, a3, a4, a5, a6, a7]) [] rfl (by kernel_rfl) (by rfl) ?_ hS ?_
 · intro wx hx
   exact run_load_at 28 (.tmp 6) rfl ⟨w.heap.size, 3, none⟩ rfl #[a0, a1, a2, a3, a4, a5, a6, a7] _ (row_on rA hblt hx) Tryz.underlying28 rfl tm_size
 try simp only [tl]
 refine eT 3 ?_ [] rfl (by kernel_rfl) (by rfl) ?_ hS ?_
 rotate_left; · intro wx hx; clear hx; go_simp; with_reducible rfl
 try simp only [tl]
 refine eT 4 (.agg #[b0, b1, b2, b3, b4, b5, b6, b7]) [] rfl (by kernel_rfl) (by rfl) ?_ hS ?_
 · intro wx hx
   exact run_load_at 28 (.tmp 9) rfl ⟨w.heap.size, 11, none⟩ rfl #[b0, b1, b2, b3, b4, b5, b6, b7] _ (row_on rB hblt hx) Tryz.underlying28 rfl tm_size
 try simp only [tl]
 refine wpAnyE_one (i := 2) (by kernel_rfl) (by kernel_rfl) rfl (by rfl) fun K hK => ?_
 go_simp
 refine (wown_any g.ty _ D W1.drew hD1 HTY.out.drew).mono ?_
 rintro e w2 ⟨cs2, rfl, ht2, hb2⟩
 have hu2 : Upd nob W1 w2 := (Upd.refl nob W1).drew.trans (Upd.of_below hb2)
 obtain ⟨ty0, ty1, ty2, ty3, ty4, ty5, ty6, ty7, rfl⟩ := arr8 ht2.oneCell.1
 have HO2 := Lib.hid ht2.oneCell.2
 have HT2 := Lib.hid ht2
 have hS : ∀ p : Addr, p.block < W1.heap.size → w2.cell? p = W1.cell? p := cells_of_upd hu2
 refine hK _ _ hS ?_
 clear hb2 ht2
 clear hK K; try simp only [tl]
 refine eT 6 ?_ [] rfl (by kernel_rfl) (by rfl) ?_ hS ?_
 rotate_left; · intro wx hx; clear hx; go_simp; with_reducible rfl
 try simp only [tl]
 refine wpAnyE_one (i := 5) (by kernel_rfl) (by kernel_rfl) rfl (by rfl) fun K hK => ?_
 go_simp
 refine (wown_any g.val _ D w2 (hD1.up hu2) (HVAL.out.old (hD1.old hu2) (fun _ h => h))).mono ?_
 rintro e w5 ⟨cs5, rfl, ht5, hb5⟩
 have hu5 : Upd nob w2 w5 := Upd.of_below hb5
 have hu15 : Upd nob W1 w5 := hu2.trans hu5
 obtain ⟨va0, va1, va2, va3, va4, va5, va6, va7, rfl⟩ := arr8 ht5.oneCell.1
 have HO5 := Lib.hid ht5.oneCell.2
 have hz2 : W1.heap.size ≤ w2.heap.size := hu2.size
 have hz5 : w2.heap.size ≤ w5.heap.size := hu5.size
 have HVAL5 : Hid (TmIs (fun q => D q ∨ (W1.heap.size ≤ q ∧ q < w5.heap.size)) w5 (wown g.val) #[va0, va1, va2, va3, va4, va5, va6, va7]) := Lib.hid (ht5.old (Old.refl _ _) (fun q hq => hq.imp id (fun h => ⟨by have := h.1; omega, h.2⟩)))
 have HTY5 : Hid (TmIs (fun q => D q ∨ (W1.heap.size ≤ q ∧ q < w5.heap.size)) w5 (wown g.ty) #[ty0, ty1, ty2, ty3, ty4, ty5, ty6, ty7]) := Lib.hid (HT2.out.old (Old.of_upd hu5 (fun q hq => ⟨fun f => f, hq.elim (fun h => by have := hD1 q h; omega) (fun h => h.2)⟩)) (fun q hq => hq.imp id (fun h => ⟨h.1, by have := h.2; omega⟩)))
 have hS : ∀ p : Addr, p.block < W1.heap.size → w5.cell? p = W1.cell? p := cells_of_upd hu15
 refine hK _ _ hS ?_
 clear hb5 ht5 HT2
 clear hK K; try simp only [tl]
 refine wpAnyE_z (by kernel_rfl) rfl (by rfl) fun K hK => ?_
 refine owp_store_part 28 (.tmp 12) (.tmp 8) rfl w.heap.size 3 #[ty0, ty1, ty2, ty3, ty4, ty5, ty6, ty7] rfl rfl 50 #[.int .i64 g.kind, .string g.nm, .int .i64 g.vars, a0, a1, a2, a3, a4, a5, a6, a7, b0, b1, b2, b3, b4, b5, b6, b7, .string g.ind, .int .i64 g.params, .int .i64 g.indices, .int .i64 g.fields, .slice C g.ctors.length cc, .int .i64 g.minors, .slice R g.rules.length rc] #[.int .i64 g.kind, .string g.nm, .int .i64 g.vars, ty0, ty1, ty2, ty3, ty4, ty5, ty6, ty7, b0, b1, b2, b3, b4, b5, b6, b7, .string g.ind, .int .i64 g.params, .int .i64 g.indices, .int .i64 g.fields, .slice C g.ctors.length cc, .int .i64 g.minors, .slice R g.rules.length rc] (HB0.out.upd hu15 (fun f => f)) tm_size (by show 3 + 8 ≤ 26; omega) HO2.out rfl ?_
 refine hK _ _ ?_
 clear hK K; try simp only [tl]
 refine wpAny_one (i := 8) (by kernel_rfl) rfl (by rfl) fun K hK => ?_
 go_simp
 refine hK _ _ ?_
 clear hK K; try simp only [tl]
 refine wpAny_one (i := 9) (by kernel_rfl) rfl (by rfl) fun K hK => ?_
 refine owp_store_part 28 (.tmp 13) (.tmp 11) rfl w.heap.size 11 #[va0, va1, va2, va3, va4, va5, va6, va7] rfl rfl 50 #[.int .i64 g.kind, .string g.nm, .int .i64 g.vars, ty0, ty1, ty2, ty3, ty4, ty5, ty6, ty7, b0, b1, b2, b3, b4, b5, b6, b7, .string g.ind, .int .i64 g.params, .int .i64 g.indices, .int .i64 g.fields, .slice C g.ctors.length cc, .int .i64 g.minors, .slice R g.rules.length rc] #[.int .i64 g.kind, .string g.nm, .int .i64 g.vars, ty0, ty1, ty2, ty3, ty4, ty5, ty6, ty7, va0, va1, va2, va3, va4, va5, va6, va7, .string g.ind, .int .i64 g.params, .int .i64 g.indices, .int .i64 g.fields, .slice C g.ctors.length cc, .int .i64 g.minors, .slice R g.rules.length rc] (Blk.row (HB0.out.upd hu15 (fun f => f)) _) tm_size (by show 11 + 8 ≤ 26; omega) HO5.out rfl ?_
 refine hK _ _ ?_
 clear hK K; try simp only [tl]
 refine wpAny_done (by kernel_rfl) ?_ _
 refine NoPanic.normal ?_
 obtain ⟨W6, hW6⟩ : ∃ W, (w5.setRow w.heap.size #[.int .i64 g.kind, .string g.nm, .int .i64 g.vars, ty0, ty1, ty2, ty3, ty4, ty5, ty6, ty7, b0, b1, b2, b3, b4, b5, b6, b7, .string g.ind, .int .i64 g.params, .int .i64 g.indices, .int .i64 g.fields, .slice C g.ctors.length cc, .int .i64 g.minors, .slice R g.rules.length rc]).setRow w.heap.size #[.int .i64 g.kind, .string g.nm, .int .i64 g.vars, ty0, ty1, ty2, ty3, ty4, ty5, ty6, ty7, va0, va1, va2, va3, va4, va5, va6, va7, .string g.ind, .int .i64 g.params, .int .i64 g.indices, .int .i64 g.fields, .slice C g.ctors.length cc, .int .i64 g.minors, .slice R g.rules.length rc] = W := ⟨_, rfl⟩
 have hu6 : Upd (fun q => q = w.heap.size) w5 W6 := by rw [← hW6]; exact ((Upd.refl (fun q => q = w.heap.size) w5).setRow (.inl rfl) _).setRow (.inl rfl) _
 have hb6 : Blk W6 w.heap.size 50 #[.int .i64 g.kind, .string g.nm, .int .i64 g.vars, ty0, ty1, ty2, ty3, ty4, ty5, ty6, ty7, va0, va1, va2, va3, va4, va5, va6, va7, .string g.ind, .int .i64 g.params, .int .i64 g.indices, .int .i64 g.fields, .slice C g.ctors.length cc, .int .i64 g.minors, .slice R g.rules.length rc] := by rw [← hW6]; exact Blk.row (Blk.row (HB0.out.upd hu15 (fun f => f)) _) _
 have hb61 := ((HB1.out.upd hu15 (fun f => f)).upd hu6 (fun h => by have h : w.heap.size + 1 = w.heap.size := h; omega))
 rw [hW6]
 clear hW6 rA rB
 have hs56 : w5.heap.size ≤ W6.heap.size := hu6.size
 have hs6 : W1.heap.size ≤ W6.heap.size := Nat.le_trans hu15.size hu6.size
 have hu06 : Upd nob w W6 := (huW1.trans hu15).trans' hu6 (fun q hq h => by have h : q = w.heap.size := h; omega)
 have hn5 : ∀ q, D q → q ≠ w.heap.size := fun q hq h => by have := hD q hq; omega
 have hO6 : Old (fun q => D q ∨ (W1.heap.size ≤ q ∧ q < w5.heap.size)) w5 W6 := Old.of_upd hu6 (fun q hq => hq.elim (fun h => ⟨fun e => hn5 q h e, by have := hD1 q h; have := hu15.size; omega⟩) (fun h => ⟨fun e => by have e : q = w.heap.size := e; omega, h.2⟩))
 have HTY6 := Lib.hid (HTY5.out.old hO6 (fun _ h => h))
 have HVAL6 := Lib.hid (HVAL5.out.old hO6 (fun _ h => h))
 have HCT6 := Lib.hid (strs_rat.1 (HCT.out.old (hD.old hu06) (fun _ h => h) : StrsAt D W6 g.ctors C))
 have HRU6 := Lib.hid (HRU.out.old (hD.old hu06) (fun _ h => h) : RusAt D W6 g.rules R)
 have hD6 : Within D W6 := hD.up hu06
 have HB6 := Lib.hid hb6
 have HB61 := Lib.hid hb61
 have q23 : W6.cell? ⟨w.heap.size, 23, none⟩ = some (.slice C g.ctors.length cc) := hb6.cell 23
 have hbl6 : w.heap.size < W6.heap.size := by omega
 clear hb6 hb61 HB0 HB1 HW1 hO6 HTY HVAL HCT HTY5 HVAL5 HO2 HO5 hS
 go_wp2_with fail
 refine (clone_str g.ctors C cc D W6 hD6 HCT6.out hcl.1).mono ?_
 rintro e w7 ⟨C', cc', rfl, hco7, hle7, hu7⟩
 obtain ⟨C9, c9, hv9, _, hct7⟩ := hco7.rat (D := fun q => D q ∨ (W6.heap.size ≤ q ∧ q < w7.heap.size)) (fun q hq => hq)
 injection hv9 with z1 z2 z3
 subst z1 z3
 clear hco7 z2
 have hb7 := HB6.out.upd hu7 (fun f => f)
 have q25 : w7.cell? ⟨w.heap.size, 25, none⟩ = some (.slice R g.rules.length rc) := hb7.cell 25
 have q23 : w7.cell? ⟨w.heap.size, 23, none⟩ = some (.slice C g.ctors.length cc) := hb7.cell 23
 have hs7 : W6.heap.size ≤ w7.heap.size := hu7.size
 have hbl7 : w.heap.size < w7.heap.size := by omega
 have hfz := hb7.frozen 23
 have HB7 := Lib.hid hb7
 clear hb7
 have hs3 : W1.heap.size ≤ w7.heap.size := by omega
 have hW8b : Blk (w7.setCell ⟨w.heap.size, 23, none⟩ (.slice C' g.ctors.length cc')) w.heap.size 50 #[.int .i64 g.kind, .string g.nm, .int .i64 g.vars, ty0, ty1, ty2, ty3, ty4, ty5, ty6, ty7, va0, va1, va2, va3, va4, va5, va6, va7, .string g.ind, .int .i64 g.params, .int .i64 g.indices, .int .i64 g.fields, .slice C' g.ctors.length cc', .int .i64 g.minors, .slice R g.rules.length rc] := HB7.out.set 23 _
 have hu78 : Upd (fun q => q = w.heap.size) w7 (w7.setCell ⟨w.heap.size, 23, none⟩ (.slice C' g.ctors.length cc')) := (Upd.refl (fun q => q = w.heap.size) w7).setCell (.inl rfl) _
 go_wp2_with fail
 obtain ⟨W8, hW8⟩ : ∃ W, w7.setCell ⟨w.heap.size, 23, none⟩ (.slice C' g.ctors.length cc') = W := ⟨_, rfl⟩
 rw [hW8] at hW8b hu78 ⊢
 clear hW8
 have hs8 : w7.heap.size ≤ W8.heap.size := hu78.size
 have hu08 : Upd nob w W8 := (hu06.trans hu7).trans' hu78 (fun q hq h => by have h : q = w.heap.size := h; omega)
 have hE8 : ∀ k, D k → k < W8.heap.size := fun k hk => by have := hD k hk; omega
 have hb81 : Blk W8 (w.heap.size + 1) 50 #[.int .i64 0, .string ByteArray.empty, .int .i64 0, .int .i64 0, .int .i64 0, .string ByteArray.empty, .int .i64 0, .int .i64 0, .slice none 0 0, .slice none 0 0, .slice none 0 0, .int .i64 0, .int .i64 0, .string ByteArray.empty, .int .i64 0, .int .i64 0, .slice none 0 0, .slice none 0 0, .slice none 0 0, .string ByteArray.empty, .int .i64 0, .int .i64 0, .int .i64 0, .slice none 0 0, .int .i64 0, .slice none 0 0] := (HB61.out.upd hu7 (fun f => f)).upd hu78 (fun h => by have h : w.heap.size + 1 = w.heap.size := h; omega)
 have HB8 := Lib.hid hW8b
 have HB81 := Lib.hid hb81
 have HU08 := Lib.hid hu08
 have HU78 := Lib.hid hu78
 obtain ⟨N, hN⟩ : ∃ N, g.rules.length = N := ⟨_, rfl⟩
 have HN := Lib.hid hN
 rw [hN] at hrl ⊢
 clear hW8b hb81 q23 q25 hfz hu78 hN
 go_loopg [3, 21] N (fun k v3 v21 wr => ∃ j : Nat, j + k = N ∧ v21 = .int .i64 j ∧ Coll ruR D W8.heap.size 132 wr v3 ((g.rules.take j).map rown) ∧ Upd nob W8 wr)
 case atStart => exact ⟨0, by omega, rfl, Coll.nil_, Upd.refl _ _⟩
 case round =>
  obtain ⟨j, hj, rfl, hco, hu⟩ := hrel
  have hN := HN.out
  obtain ⟨sA, sc, hsl, hcp⟩ := hco.form
  have hjl : ((g.rules.take j).map rown).length = j := by simp; omega
  rw [hjl] at hsl hcp
  subst hsl
  have HCO := Lib.hid hco
  clear hco
  have hzr : W8.heap.size ≤ wr.heap.size := hu.size
  have hu0r : Upd nob w wr := HU08.out.trans hu
  by_cases hlt : j < N
  · have t2 : decide ((j : Int) < N) = true := by simp [hlt]
    obtain ⟨r, hr⟩ : ∃ r, g.rules[j]? = some r := ⟨_, List.getElem?_eq_getElem (by omega)⟩
    obtain ⟨ar, rcs, hAr, hDr, hrow, bc, rfl, hri, hrn, hrt⟩ := (HRU.out.old (hD.old hu0r) (fun _ h => h) : RusAt D wr g.rules R) j r hr
    obtain ⟨e0, e1, e2, e3, e4, e5, e6, e7, rfl⟩ := arr8 hrt.oneCell.1
    have hone := hrt.oneCell.2
    have HON := Lib.hid (show (#[.string r.ctor, .int .i64 r.fields, e0, e1, e2, e3, e4, e5, e6, e7] : Array Value).all (·.oneCell') = true by simp [Value.oneCell'] at hone ⊢; exact hone)
    have hrow : rowAt wr (ar.add (j * 10)) #[.string r.ctor, .int .i64 r.fields, e0, e1, e2, e3, e4, e5, e6, e7] := hrow
    have HAR := Lib.hid hAr
    have HRI := Lib.hid hri
    have HRN := Lib.hid hrn
    have HRT := Lib.hid hrt
    have HR := Lib.hid hr
    clear hAr hri hrn hrt hr hone hN
    go_wp2_with (first
            | ((with_reducible refine this_op (.indexAddr 48 (.tmp 19) (.tmp 21)) ?_); refine wpList_index_at rfl 48 (.tmp 19) (.tmp 21) rfl _ ar _ _ rfl HAR.out j rfl hlt 132 Tryz.underlying48 10 ru_size ?_)
            | ((with_reducible refine this_op (.load 132 (.tmp 23)) ?_); refine wpList_at rfl 132 (.tmp 23) rfl (ar.add (j * 10)) rfl _ _ hrow Tryz.underlying132 rfl ru_size ?_)
            | ((with_reducible refine this_op (.store 132 (.tmp 5) (.tmp 24)) ?_); refine wpList_store_row rfl 132 (.tmp 5) (.tmp 24) rfl wr.heap.size _ rfl rfl 132 _ (Blk.new wr _ _) ru_size rfl HON.out ?_
               obtain ⟨W2, hW2⟩ : ∃ W, (wr.alloc (.cells #[.string ByteArray.empty, .int .i64 0, .int .i64 0, .int .i64 0, .string ByteArray.empty, .int .i64 0, .int .i64 0, .slice none 0 0, .slice none 0 0, .slice none 0 0] 132)).setRow wr.heap.size #[.string r.ctor, .int .i64 r.fields, e0, e1, e2, e3, e4, e5, e6, e7] = W := ⟨_, rfl⟩
               have hu2 : Upd nob wr W2 := by rw [← hW2]; exact ((Upd.refl nob wr).alloc _).setRow (.inr (Nat.le_refl _)) _
               have hb2 : Blk W2 wr.heap.size 132 #[.string r.ctor, .int .i64 r.fields, e0, e1, e2, e3, e4, e5, e6, e7] := by rw [← hW2]; exact (Blk.new wr _ _).row _
               rw [hW2]
               clear hW2
               have hu02 : Upd nob w W2 := hu0r.trans hu2
               have hD0r : Within D wr := hD.up hu0r
               have hs2 : wr.heap.size + 1 ≤ W2.heap.size := hb2.lt
               have rE : rowAt W2 ⟨wr.heap.size, 2, none⟩ #[e0, e1, e2, e3, e4, e5, e6, e7] := part8 hb2 (get8 rfl rfl rfl rfl rfl rfl rfl rfl)
               have HB2 := Lib.hid hb2
               clear hb2)
            | ((with_reducible refine this_op (.load 28 (.tmp 25)) ?_); refine wpList_at rfl 28 (.tmp 25) rfl ⟨wr.heap.size, 2, none⟩ rfl _ _ rE Tryz.underlying28 rfl tm_size ?_))
    refine (wown_any r.body _ D W2 (hD.up hu02) (HRT.out.old (hD0r.old hu2) (fun _ h => h))).mono ?_
    rintro e w3 ⟨cs3, rfl, ht3, hb3⟩
    obtain ⟨f0, f1, f2, f3, f4, f5, f6, f7, rfl⟩ := arr8 ht3.oneCell.1
    have hu3 : Upd nob W2 w3 := Upd.of_below hb3
    have HO3 := Lib.hid ht3.oneCell.2
    have hone := ht3.oneCell.2
    have HON3 := Lib.hid (show (#[.string r.ctor, .int .i64 r.fields, f0, f1, f2, f3, f4, f5, f6, f7] : Array Value).all (·.oneCell') = true by simp [Value.oneCell'] at hone ⊢; exact hone)
    have HB3 := Lib.hid (HB2.out.upd hu3 (fun f => f))
    have hs3' : W2.heap.size ≤ w3.heap.size := hu3.size
    have HT3 := Lib.hid ht3
    clear hone ht3 rE
    go_wp2_with (first
            | ((with_reducible refine this_op (.store 28 (.tmp 28) (.tmp 27)) ?_); refine wpList_store_part rfl 28 (.tmp 28) (.tmp 27) rfl wr.heap.size 2 #[f0, f1, f2, f3, f4, f5, f6, f7] rfl rfl 132 #[.string r.ctor, .int .i64 r.fields, e0, e1, e2, e3, e4, e5, e6, e7] #[.string r.ctor, .int .i64 r.fields, f0, f1, f2, f3, f4, f5, f6, f7] HB3.out tm_size (by show 2 + 8 ≤ 10; omega) HO3.out rfl ?_
               obtain ⟨W4, hW4⟩ : ∃ W, w3.setRow wr.heap.size #[.string r.ctor, .int .i64 r.fields, f0, f1, f2, f3, f4, f5, f6, f7] = W := ⟨_, rfl⟩
               have hu4 : Upd (fun q => q = wr.heap.size) w3 W4 := by rw [← hW4]; exact (Upd.refl (fun q => q = wr.heap.size) w3).setRow (.inl rfl) _
               have hb4 : Blk W4 wr.heap.size 132 #[.string r.ctor, .int .i64 r.fields, f0, f1, f2, f3, f4, f5, f6, f7] := by rw [← hW4]; exact HB3.out.row _
               rw [hW4]
               clear hW4
               have hs4 : w3.heap.size ≤ W4.heap.size := hu4.size
               have r5 := hb4.rowAt
               have hur4 : Upd nob wr W4 := (hu2.trans hu3).trans' hu4 (fun q hq h => by have h : q = wr.heap.size := h; omega)
               have hu5 : Upd nob wr (W4.alloc (.cells #[.string r.ctor, .int .i64 r.fields, f0, f1, f2, f3, f4, f5, f6, f7] 132)) := hur4.alloc _
               have hnO : ∀ q, (Value.slice sA j sc).ownBlock = some q → W8.heap.size ≤ q ∧ q < wr.heap.size := fun q h => HCO.out.lt h
               have HC5 := Lib.hid (HCO.out.upd hu5 (fun _ f => f.elim) (fun x h => by have := hE8 x h; omega))
               have ht4 : TmIs (fun q => D q ∨ (wr.heap.size + 1 ≤ q ∧ q < w3.heap.size)) W4 (wown r.body) #[f0, f1, f2, f3, f4, f5, f6, f7] := HT3.out.old (Old.of_upd hu4 (fun q hq => ⟨fun e => by
                have e : q = wr.heap.size := e
                rcases hq with h | h
                · have := hD q h; omega
                · have := h.1; omega, by
                rcases hq with h | h
                · have := hD q h; omega
                exact h.2⟩)) (fun q hq => hq.imp id (fun h => ⟨by have := h.1; omega, h.2⟩))
               have hl5 : RuIs (fun q => D q ∨ (wr.heap.size + 1 ≤ q ∧ q < w3.heap.size)) (W4.alloc (.cells #[.string r.ctor, .int .i64 r.fields, f0, f1, f2, f3, f4, f5, f6, f7] 132)) (rown r) #[.string r.ctor, .int .i64 r.fields, f0, f1, f2, f3, f4, f5, f6, f7] :=
                ⟨_, rfl, HRI.out, HRN.out, ht4.old (Old.of_upd ((Upd.refl nob W4).alloc (.cells #[.string r.ctor, .int .i64 r.fields, f0, f1, f2, f3, f4, f5, f6, f7] 132)) (fun q hq => ⟨fun f => f, by
                 rcases hq with h | h
                 · have := hD q h; omega
                 have := h.2; omega⟩)) (fun _ h => h)⟩
               have HL5 := Lib.hid hl5
               have hD5 : ∀ q, (D q ∨ (wr.heap.size + 1 ≤ q ∧ q < w3.heap.size)) → cd D W8.heap.size (W4.alloc (.cells #[.string r.ctor, .int .i64 r.fields, f0, f1, f2, f3, f4, f5, f6, f7] 132)) (.slice sA j sc) q := fun q hq => by
                rcases hq with h | h
                · exact ⟨.inl h, fun h2 => by have := (hnO q h2).1; have := hE8 q h; omega⟩
                exact ⟨.inr ⟨by have := h.1; omega, by have := h.2; simp only [World.size_alloc]; omega⟩, fun h2 => by have := (hnO q h2).2; have := h.1; omega⟩
               clear ht4 hl5 hb4)
            | ((with_reducible refine this_op (.load 132 (.tmp 5)) ?_); refine wpList_at rfl 132 (.tmp 5) rfl ⟨wr.heap.size, 0, none⟩ rfl _ _ r5 Tryz.underlying132 rfl ru_size ?_)
            | ((with_reducible refine this_op (.buildSlice 48 1 #[(0, .tmp 30)]) ?_); refine wpList_build1 rfl 48 132 (.tmp 30) rfl _ 10 144 Tryz.underlying48 ru_info (by decide) (by decide) #[.string r.ctor, .int .i64 r.fields, f0, f1, f2, f3, f4, f5, f6, f7] rfl rfl ?_)
            | (at_builtin; go_loud (refine wpList_collect rfl (.tmp 29) (.tmp 31) 48 rfl _ 144 Tryz.underlying48 ru_info (by kernel_rfl) (by decide) rfl HC5.out hE8 W4.heap.size #[.string r.ctor, .int .i64 r.fields, f0, f1, f2, f3, f4, f5, f6, f7] rfl (Blk.new _ _ _) (rown r) _ HL5.out hD5 j hjl (by omega) (by omega) (by simp; omega) ?_)
               intro A9 c9 w9 hc9 hu9 hat9
               have HCF := Lib.hid hc9
               have HUF := Lib.hid (hu.trans' ((hu5.mono (fun _ f => f.elim)).trans hu9) (fun q hq h => by have := (hnO q h).1; omega))
               clear hc9 hu9 hat9))
    go_roundg (gk - 1)
    case measure => omega
    case rel =>
     refine ⟨j + 1, by omega, by go_num, ?_, HUF.out⟩
     have : (g.rules.take (j + 1)).map rown = (g.rules.take j).map rown ++ [rown r] := by
      have h := List.getElem?_eq_some_iff.1 HR.out
      rw [map_take_succ rown g.rules j h.1, h.2]
     rw [this]
     exact HCF.out
  have t2 : decide ((j : Int) < N) = false := by simp; omega
  have : j = N := by omega
  subst this
  clear hjl hcp
  have hfull : (g.rules.take j).map rown = g.rules.map rown := by rw [← hN, List.take_length]
  have hco := HCO.out
  rw [hfull] at hco
  obtain ⟨A9, c9, hv9, hcap9, hat⟩ := hco.rat (D := fun q => D q ∨ (W8.heap.size ≤ q ∧ q < wr.heap.size)) (fun q hq => hq)
  rw [List.length_map, hN] at hv9
  injection hv9 with z1 z2 z3
  subst z1 z3
  have hb9 := HB8.out.upd hu (fun f => f)
  have hb91 := HB81.out.upd hu (fun f => f)
  have hfz9 := hb9.frozen 25
  have q25 := hb9.cell 25
  simp only [List.getElem?_toArray, List.getElem?_cons_succ, List.getElem?_cons_zero] at q25
  have HAT := Lib.hid hat
  have hbl9 : w.heap.size < wr.heap.size := by omega
  have hset : Upd (fun q => q = w.heap.size) wr (wr.setCell ⟨w.heap.size, 25, none⟩ (.slice sA j sc)) := (Upd.refl (fun q => q = w.heap.size) wr).setCell (.inl rfl) _
  have hb10 : Blk (wr.setCell ⟨w.heap.size, 25, none⟩ (.slice sA j sc)) w.heap.size 50 #[.int .i64 g.kind, .string g.nm, .int .i64 g.vars, ty0, ty1, ty2, ty3, ty4, ty5, ty6, ty7, va0, va1, va2, va3, va4, va5, va6, va7, .string g.ind, .int .i64 g.params, .int .i64 g.indices, .int .i64 g.fields, .slice C' g.ctors.length cc', .int .i64 g.minors, .slice sA j sc] := hb9.set 25 _
  have r10 := hb10.rowAt
  have hb101 := hb91.upd hset (fun h => by have h : w.heap.size + 1 = w.heap.size := h; omega)
  have HB101 := Lib.hid hb101
  have HB10 := Lib.hid hb10
  have HSET := Lib.hid hset
  have HN2 := Lib.hid hN
  have ho1 := HTY6.out.oneCell.2
  have ho2 := HVAL6.out.oneCell.2
  have HOG := Lib.hid (show (#[.int .i64 g.kind, .string g.nm, .int .i64 g.vars, ty0, ty1, ty2, ty3, ty4, ty5, ty6, ty7, va0, va1, va2, va3, va4, va5, va6, va7, .string g.ind, .int .i64 g.params, .int .i64 g.indices, .int .i64 g.fields, .slice C' g.ctors.length cc', .int .i64 g.minors, .slice sA j sc] : Array Value).all (·.oneCell') = true by simp [Value.oneCell'] at ho1 ho2 ⊢; simp [ho1, ho2])
  clear ho1 ho2
  have hcl9 := hcap9
  rw [List.length_map, hN] at hcl9
  clear hat hco hb9 hb91 hb101 hb10 hset hN hcap9
  go_wp2_with (first
          | ((with_reducible refine this_op (.load 50 (.tmp 1)) ?_); refine wpList_at rfl 50 (.tmp 1) rfl ⟨w.heap.size, 0, none⟩ rfl _ _ r10 Tryz.underlying50 rfl gl_size ?_)
          | ((with_reducible refine this_op (.store 50 (.tmp 2) (.tmp 36)) ?_); refine wpList_store_row rfl 50 (.tmp 2) (.tmp 36) rfl (w.heap.size + 1) _ rfl rfl 50 _ HB101.out gl_size rfl HOG.out ?_))
  refine bodyPost_ret (results_cell_row rfl _ _ (w.heap.size + 1) 50 #[.int .i64 g.kind, .string g.nm, .int .i64 g.vars, ty0, ty1, ty2, ty3, ty4, ty5, ty6, ty7, va0, va1, va2, va3, va4, va5, va6, va7, .string g.ind, .int .i64 g.params, .int .i64 g.indices, .int .i64 g.fields, .slice C' g.ctors.length cc', .int .i64 g.minors, .slice sA j sc] (0, 0) _ rfl (HB101.out.row _) Tryz.underlying50 rfl gl_size) rfl ?_
  obtain ⟨WF, hWF⟩ : ∃ W, (wr.setCell ⟨w.heap.size, 25, none⟩ (.slice sA j sc)).setRow (w.heap.size + 1) #[.int .i64 g.kind, .string g.nm, .int .i64 g.vars, ty0, ty1, ty2, ty3, ty4, ty5, ty6, ty7, va0, va1, va2, va3, va4, va5, va6, va7, .string g.ind, .int .i64 g.params, .int .i64 g.indices, .int .i64 g.fields, .slice C' g.ctors.length cc', .int .i64 g.minors, .slice sA j sc] = W := ⟨_, rfl⟩
  have hufr : Upd (fun q => q = w.heap.size ∨ q = w.heap.size + 1) wr WF := by rw [← hWF]; exact (HSET.out.mono (fun q h => .inl h)).trans ((Upd.refl (fun q => q = w.heap.size ∨ q = w.heap.size + 1) _).setRow (.inl (.inr rfl)) _)
  rw [hWF]
  clear hWF
  have hzf : wr.heap.size ≤ WF.heap.size := hufr.size
  have huf8 : Upd (fun q => q = w.heap.size ∨ q = w.heap.size + 1) W8 WF := (hu.mono (fun _ f => f.elim)).trans hufr
  have huf7 : Upd (fun q => q = w.heap.size ∨ q = w.heap.size + 1) w7 WF := (HU78.out.mono (fun q h => .inl h)).trans huf8
  have huf6 : Upd (fun q => q = w.heap.size ∨ q = w.heap.size + 1) W6 WF := (hu7.mono (fun _ f => f.elim)).trans huf7
  have hlen : (gown g).rules.length = j := by show (g.rules.map rown).length = j; rw [List.length_map]; exact HN2.out
  refine ⟨_, rfl, ⟨ty0, ty1, ty2, ty3, ty4, ty5, ty6, ty7, va0, va1, va2, va3, va4, va5, va6, va7, C', cc', sA, sc, by rw [hlen]; rfl, HIN.out, HNM.out, ?_, ?_, ?_, ⟨hcl.1, hle7⟩, ?_, by rw [hlen]; exact ⟨hrl.1, hcl9⟩⟩, hu0r.trans' hufr (fun q hq h => by rcases h with h | h <;> omega)⟩
  · exact HTY6.out.old (Old.of_upd huf6 (own_not (s := W1.heap.size) (t := w5.heap.size) hD6 hD (by omega) (by omega))) (own_grow (s := W1.heap.size) (t := w5.heap.size) hD (by omega) (by omega))
  · exact HVAL6.out.old (Old.of_upd huf6 (own_not (s := W1.heap.size) (t := w5.heap.size) hD6 hD (by omega) (by omega))) (own_grow (s := W1.heap.size) (t := w5.heap.size) hD (by omega) (by omega))
  · exact strs_rat.2 (hct7.old (Old.of_upd huf7 (own_not (s := W6.heap.size) (t := w7.heap.size) (hD6.up hu7) hD (by omega) (Nat.le_refl _))) (own_grow (s := W6.heap.size) (t := w7.heap.size) hD (by omega) (by omega)))
  exact HAT.out.old (Old.of_upd hufr (own_not (s := W8.heap.size) (t := wr.heap.size) (hD.up hu0r) hD (by omega) (Nat.le_refl _))) (own_grow (s := W8.heap.size) (t := wr.heap.size) hD (by omega) (by omega))
end Go.Proofs.YtiampoebdmflgaaGreat
