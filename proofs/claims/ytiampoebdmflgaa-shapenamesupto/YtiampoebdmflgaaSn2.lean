/- Texts put one behind the other: Lequal, Tkids, Tfold2, Tmeas, Tnode, Zkids, Zbind, TwoOrd, Held. -/
import Derived.Test.YtiampoebdmflgaaSn1
import Derived.BigFrameIn
import Derived.Laws.CopyRow
import Derived.Test.YtiampoebdmflgaaSn0
/- level.Equal. -/
namespace Go.Proofs.Ytiampoebdmflgaa
open Go.RowKit
set_option linter.unusedVariables false
set_option maxRecDepth 100000
set_option maxHeartbeats 4000000
set_option linter.unusedSimpArgs false
def Nm.same (m n : Nm) : Bool := decide (m.c = n.c) && decide (m.ks = n.ks)
def leq (a b : Lv) : Bool := lsnd a && lsnd b && (lof [] a).short.same (lof [] b).short
theorem lequal_any (la lb : Lv) (ca cb : Array Value) (D : Nat → Prop) (w : World) (hD : Within D w) (ha : LvIs D w la ca) (hb : LvIs D w lb cb) :
    Calls Try.prog 107 #[.agg ca, .agg cb] w fun e w' => e = .returned (.bool (leq la lb)) ∧ Below w.heap.size w w' := by
 have hz := nm_zero
 have hsa := ha.oneCell
 have hsb := hb.oneCell
 have hia : (Try.prog.info? 24).map (·.size) = some ca.size := by rw [hsa.1]; exact lv_size
 have hib : (Try.prog.info? 24).map (·.size) = some cb.size := by rw [hsb.1]; exact lv_size
 obtain ⟨W1, hW1⟩ : ∃ W1, (w.alloc (.cells ca 24)).alloc (.cells cb 24) = W1 := ⟨_, rfl⟩
 have hu1 : Upd nob w W1 := by rw [← hW1]; exact ((Upd.refl nob w).alloc _).alloc _
 have hs1 : W1.heap.size = w.heap.size + 2 := by rw [← hW1]; simp
 have b0 : Blk W1 w.heap.size 24 ca := by rw [← hW1]; exact (Blk.new _ _ _).alloc _
 have b1 : Blk W1 (w.heap.size + 1) 24 cb := by
  rw [← hW1]
  have := Blk.new (w.alloc (.cells ca 24)) 24 cb
  rwa [World.size_alloc] at this
 have HW1 := Lib.hid hW1
 have HS1 := Lib.hid hs1
 have B0 := Lib.hid b0
 have B1 := Lib.hid b1
 have r0 := b0.rowAt
 clear hW1 hs1 b0 b1
 obtain ⟨R, hR⟩ : ∃ R, leq la lb = R := ⟨_, rfl⟩
 rw [hR]
 have HR := Lib.hid hR; clear hR
 have h1 := sound_any la ca D W1 (hD.up hu1) (ha.old (hD.old hu1) (fun _ h => h))
 have H1 := Lib.hid h1; clear h1
 cases hsl : lsnd la with
 | false =>
  obtain rfl : false = R := by rw [← HR.out]; simp [leq, hsl]
  go_enter Try.func107, Try.ntmps107
  rw [← HW1.out] at r0
  go_wp2_with (first
   | ((with_reducible refine this_op (.load 24 (.tmp 2)) ?_); refine wpList_at rfl 24 (.tmp 2) rfl ⟨w.heap.size, 0, none⟩ rfl _ _ r0 Try.underlying24 rfl hia ?_)
   | (go_at_call 78; rw [HW1.out]; refine H1.out.mono ?_; rintro e w3 ⟨rfl, hb3⟩; rw [hsl]))
  go_ret
  exact ⟨rfl, hu1.below.trans (hb3.mono hu1.size)⟩
 | true =>
  go_enter Try.func107, Try.ntmps107
  rw [← HW1.out] at r0
  go_wp2_with (first
   | ((with_reducible refine this_op (.load 24 (.tmp 2)) ?_); refine wpList_at rfl 24 (.tmp 2) rfl ⟨w.heap.size, 0, none⟩ rfl _ _ r0 Try.underlying24 rfl hia ?_)
   | fail)
  rw [HW1.out]
  refine H1.out.mono ?_
  rintro e w3 ⟨rfl, hb3⟩
  rw [hsl]
  have hu3 : Upd nob W1 w3 := Upd.of_below hb3
  have hD3 : Within D w3 := (hD.up hu1).up hu3
  have ha3 := (ha.old (hD.old hu1) (fun _ h => h)).old ((hD.up hu1).old hu3) (fun _ h => h)
  have hb3' := (hb.old (hD.old hu1) (fun _ h => h)).old ((hD.up hu1).old hu3) (fun _ h => h)
  have r1 := (B1.out.upd hu3 (fun f => f)).rowAt
  have h2 := sound_any lb cb D w3 hD3 hb3'
  have H2 := Lib.hid h2; clear h2
  have HSL := Lib.hid hsl; clear hsl r0
  cases hsl2 : lsnd lb with
  | false =>
   obtain rfl : false = R := by rw [← HR.out]; simp [leq, hsl2]
   go_wp2_with (first
    | (go_big_want; refine owp_load_at 24 (.tmp 3) rfl ⟨w.heap.size + 1, 0, none⟩ rfl _ _ r1 Try.underlying24 rfl hib ?_)
    | (go_at_call 78; refine H2.out.mono ?_; rintro e w4 ⟨rfl, hb4⟩; rw [hsl2]))
   go_ret
   exact ⟨rfl, hu1.below.trans ((hb3.mono hu1.size).trans (hb4.mono (Nat.le_trans hu1.size hu3.size)))⟩
  | true =>
   have HR2 : Hid ((lof [] la).short.same (lof [] lb).short = R) := Lib.hid (by have := HR.out; simpa [leq, HSL.out, hsl2] using this)
   go_wp2_with (first
    | (go_big_want; refine owp_load_at 24 (.tmp 3) rfl ⟨w.heap.size + 1, 0, none⟩ rfl _ _ r1 Try.underlying24 rfl hib ?_)
    | (go_at_call 78; refine H2.out.mono ?_; rintro e w4 ⟨rfl, hb4⟩; rw [hsl2]))
   have hla := lok_of_snd HSL.out
   have hlb := lok_of_snd hsl2
   have hu4 : Upd nob w3 w4 := Upd.of_below hb4
   have hu14 : Upd nob W1 w4 := hu3.trans hu4
   have hD4 : Within D w4 := hD3.up hu4
   have ha4 := ha3.old (hD3.old hu4) (fun _ h => h)
   have hb4' := hb3'.old (hD3.old hu4) (fun _ h => h)
   have hsz4 : w.heap.size + 2 ≤ w4.heap.size := by have := HS1.out; have := hu14.size; omega
   have c0 := B0.out.upd hu14 (fun f => f)
   have c1 := B1.out.upd hu14 (fun f => f)
   have hvs : NmsAt D w4 [] none := fun j n h => by simp at h
   refine wp_region_inv (Φ := fun i x w' => match i with
       | 0 => x = .agg ca
       | 1 => ∃ cs, x = .agg cs ∧ NmIs (here w') w' (lof [] la) cs
       | 2 => ∃ cs, x = .agg cs ∧ NmIs (here w') w' (lof [] la).short cs
       | 3 => x = .agg cb
       | 4 => ∃ cs, x = .agg cs ∧ NmIs (here w') w' (lof [] lb) cs
       | 5 => ∃ cs, x = .agg cs ∧ NmIs (here w') w' (lof [] lb).short cs
       | _ => ∃ g, x = .pointer (some ⟨g, 0, none⟩) ∧ Blk w' g 177 #[.int .i64 0, .slice none 0 0] ∧ w4.heap.size ≤ g)
    (Θ := fun i j x y => 6 ≤ i → 6 ≤ j → x ≠ y) (fun i => decide (8 ≤ i)) (by kernel_rfl) ?hst (fun i j x y h hj hi => (h hi hj).symm) (by kernel_rfl) ⟨8, by decide, rfl⟩ ?hstep ?htail
   case hst =>
    intro i x wx wy hx hu
    have up : ∀ {n : Nm}, (∃ cs, x = .agg cs ∧ NmIs (here wx) wx n cs) → ∃ cs, x = .agg cs ∧ NmIs (here wy) wy n cs := fun ⟨cs, h1, h2⟩ => ⟨cs, h1, h2.old (here_old hu) (here_up hu)⟩
    have ub : (∃ g, x = .pointer (some ⟨g, 0, none⟩) ∧ Blk wx g 177 #[.int .i64 0, .slice none 0 0] ∧ w4.heap.size ≤ g) → ∃ g, x = .pointer (some ⟨g, 0, none⟩) ∧ Blk wy g 177 #[.int .i64 0, .slice none 0 0] ∧ w4.heap.size ≤ g := fun ⟨g, h1, h2, h3⟩ => ⟨g, h1, h2.upd hu (fun f => f), h3⟩
    match i with
    | 0 => exact hx
    | 1 => exact up hx
    | 2 => exact up hx
    | 3 => exact hx
    | 4 => exact up hx
    | 5 => exact up hx
    | _ + 6 => exact ub hx
   case hstep =>
    intro i o listed a wx ho hT hJ hdeps
    have hi8 : i < 8 := by simpa using hT
    have hux : Upd nob w4 wx := ((Upd.refl nob w4).drew).trans hJ.upd
    match i, hi8 with
    | 0, _ =>
     cases ho
     refine ⟨rfl, ?_⟩
     have e2 := hJ.slot (t := 2) (by kernel_rfl)
     exact owp_load_at 24 (.tmp 2) rfl ⟨w.heap.size, 0, none⟩ e2 ca _ (c0.upd hux (fun f => f)).rowAt Try.underlying24 rfl hia ⟨_, rfl, rfl, Upd.refl _ _, fun _ _ _ _ h => absurd h (by decide)⟩
    | 1, _ =>
     cases ho
     refine ⟨rfl, ?_⟩
     have hd := hJ.dep hdeps 0 rfl rfl (by kernel_rfl)
     have e15 : a.tmps[15]?.getD undef = .agg ca := by simpa [Act.eval] using hd
     unfold stepOk
     go_simp
     refine (lof_any [] none 0 (by decide) la ca (here wx) wx hla (here_in wx) ((ha4.old (hD4.old hux) (fun _ h => h)).old (Old.refl D wx) (fun k hk => (hD4.up hux) k hk)) (fun j n h => by simp at h)).mono ?_
     rintro e wy ⟨cs, rfl, hn, hbl⟩
     have hu := Upd.of_below (S := nob) hbl
     exact ⟨.agg cs, rfl, ⟨cs, rfl, hn.old (Old.refl _ _) (fun k hk => (here_in wx).grow hu.size k hk)⟩, hu⟩
    | 2, _ =>
     cases ho
     refine ⟨rfl, ?_⟩
     have hd := hJ.dep hdeps 1 rfl rfl (by kernel_rfl)
     obtain ⟨cs, hd1, hd2⟩ := hd
     have e16 : a.tmps[16]?.getD undef = .agg cs := by simpa [Act.eval] using hd1
     unfold stepOk
     go_simp
     refine (nshort_any _ cs (here wx) wx (here_in wx) hd2).mono ?_
     rintro e wy ⟨cs2, rfl, hn, hbl⟩
     have hu := Upd.of_below (S := nob) hbl
     exact ⟨.agg cs2, rfl, ⟨cs2, rfl, hn.old (Old.refl _ _) (fun k hk => Nat.lt_of_lt_of_le hk hu.size)⟩, hu⟩
    | 3, _ =>
     cases ho
     refine ⟨rfl, ?_⟩
     have e3 := hJ.slot (t := 3) (by kernel_rfl)
     exact owp_load_at 24 (.tmp 3) rfl ⟨w.heap.size + 1, 0, none⟩ e3 cb _ (c1.upd hux (fun f => f)).rowAt Try.underlying24 rfl hib ⟨_, rfl, rfl, Upd.refl _ _, fun _ _ _ _ h => absurd h (by decide)⟩
    | 4, _ =>
     cases ho
     refine ⟨rfl, ?_⟩
     have hd := hJ.dep hdeps 3 rfl rfl (by kernel_rfl)
     have e18 : a.tmps[18]?.getD undef = .agg cb := by simpa [Act.eval] using hd
     unfold stepOk
     go_simp
     refine (lof_any [] none 0 (by decide) lb cb (here wx) wx hlb (here_in wx) ((hb4'.old (hD4.old hux) (fun _ h => h)).old (Old.refl D wx) (fun k hk => (hD4.up hux) k hk)) (fun j n h => by simp at h)).mono ?_
     rintro e wy ⟨cs, rfl, hn, hbl⟩
     have hu := Upd.of_below (S := nob) hbl
     exact ⟨.agg cs, rfl, ⟨cs, rfl, hn.old (Old.refl _ _) (fun k hk => (here_in wx).grow hu.size k hk)⟩, hu⟩
    | 5, _ =>
     cases ho
     refine ⟨rfl, ?_⟩
     have hd := hJ.dep hdeps 4 rfl rfl (by kernel_rfl)
     obtain ⟨cs, hd1, hd2⟩ := hd
     have e19 : a.tmps[19]?.getD undef = .agg cs := by simpa [Act.eval] using hd1
     unfold stepOk
     go_simp
     refine (nshort_any _ cs (here wx) wx (here_in wx) hd2).mono ?_
     rintro e wy ⟨cs2, rfl, hn, hbl⟩
     have hu := Upd.of_below (S := nob) hbl
     exact ⟨.agg cs2, rfl, ⟨cs2, rfl, hn.old (Old.refl _ _) (fun k hk => Nat.lt_of_lt_of_le hk hu.size)⟩, hu⟩
    | 6, _ =>
     cases ho
     refine ⟨rfl, ?_⟩
     unfold stepOk
     go_simp
     refine ⟨_, rfl, ⟨wx.heap.size, rfl, Blk.new _ _ _, hux.size⟩, (Upd.refl nob wx).alloc _, fun j v hj hv h6 => ?_⟩
     obtain ⟨j', rfl⟩ : ∃ j', j = j' + 6 := ⟨j - 6, by omega⟩
     obtain ⟨g, hg, hb, _⟩ : ∃ g, v = .pointer (some ⟨g, 0, none⟩) ∧ Blk wx g 177 #[.int .i64 0, .slice none 0 0] ∧ w4.heap.size ≤ g := hv
     have := hb.lt
     rw [hg]
     intro e
     injection e with e
     injection e with e
     injection e with e
     omega
    | 7, _ =>
     cases ho
     refine ⟨rfl, ?_⟩
     unfold stepOk
     go_simp
     refine ⟨_, rfl, ⟨wx.heap.size, rfl, Blk.new _ _ _, hux.size⟩, (Upd.refl nob wx).alloc _, fun j v hj hv h6 => ?_⟩
     obtain ⟨j', rfl⟩ : ∃ j', j = j' + 6 := ⟨j - 6, by omega⟩
     obtain ⟨g, hg, hb, _⟩ : ∃ g, v = .pointer (some ⟨g, 0, none⟩) ∧ Blk wx g 177 #[.int .i64 0, .slice none 0 0] ∧ w4.heap.size ≤ g := hv
     have := hb.lt
     rw [hg]
     intro e
     injection e with e
     injection e with e
     injection e with e
     omega
   case htail =>
    intro a wx fuel hJ
    have e15 : a.tmps.getD 15 undef = .agg ca := hJ.on 0 _ 15 rfl (by kernel_rfl) rfl
    obtain ⟨x16, e16, _⟩ := hJ.on 1 _ 16 rfl (by kernel_rfl) rfl
    obtain ⟨x17, e17, h17⟩ := hJ.on 2 _ 17 rfl (by kernel_rfl) rfl
    have e18 : a.tmps.getD 18 undef = .agg cb := hJ.on 3 _ 18 rfl (by kernel_rfl) rfl
    obtain ⟨x19, e19, _⟩ := hJ.on 4 _ 19 rfl (by kernel_rfl) rfl
    obtain ⟨x20, e20, h20⟩ := hJ.on 5 _ 20 rfl (by kernel_rfl) rfl
    obtain ⟨g5, e5, h5, hg5⟩ := hJ.on 6 _ 5 rfl (by kernel_rfl) rfl
    obtain ⟨g6, e6, h6, hg6⟩ := hJ.on 7 _ 6 rfl (by kernel_rfl) rfl
    have hne := hJ.rel 6 7 _ _ 5 6 rfl rfl (by decide) (by kernel_rfl) (by kernel_rfl) rfl rfl (by decide) (by decide)
    rw [e5, e6] at hne
    have hne : g5 ≠ g6 := fun h => hne (by rw [h])
    have hux : Upd nob w4 wx := ((Upd.refl nob w4).drew).trans hJ.upd
    have hlit := arr_lit (l := [_, _, _, _, _, _, _, _, _, _, _, _, _, _, _, _, _, _, _, _, _, _, _, _, _, _, _, _, _, _, _, _, _]) (by rw [hJ.size]; rfl) ⟨hJ.slot (t := 0) (by kernel_rfl), hJ.slot (t := 1) (by kernel_rfl), hJ.slot (t := 2) (by kernel_rfl), hJ.slot (t := 3) (by kernel_rfl), hJ.slot (t := 4) (by kernel_rfl), e5, e6, hJ.slot (t := 7) (by kernel_rfl), hJ.slot (t := 8) (by kernel_rfl), hJ.slot (t := 9) (by kernel_rfl), hJ.slot (t := 10) (by kernel_rfl), hJ.slot (t := 11) (by kernel_rfl), hJ.slot (t := 12) (by kernel_rfl), hJ.slot (t := 13) (by kernel_rfl), hJ.slot (t := 14) (by kernel_rfl), e15, e16, e17, e18, e19, e20, hJ.slot (t := 21) (by kernel_rfl), hJ.slot (t := 22) (by kernel_rfl), hJ.slot (t := 23) (by kernel_rfl), hJ.slot (t := 24) (by kernel_rfl), hJ.slot (t := 25) (by kernel_rfl), hJ.slot (t := 26) (by kernel_rfl), hJ.slot (t := 27) (by kernel_rfl), hJ.slot (t := 28) (by kernel_rfl), hJ.slot (t := 29) (by kernel_rfl), hJ.slot (t := 30) (by kernel_rfl), hJ.slot (t := 31) (by kernel_rfl), hJ.slot (t := 32) (by kernel_rfl), trivial⟩
    have hdf : a.defers = [] := hJ.defers
    obtain ⟨t, ds⟩ := a
    simp only at hlit hdf
    subst hlit hdf
    clear hJ e15 e16 e17 e18 e19 e20 e5 e6
    simp only [Array.getD_eq_getD_getElem?, List.getElem?_toArray, List.getElem?_cons_zero, List.getElem?_cons_succ, Option.getD_some]
    have s17 := h17.cells
    have s20 := h20.cells
    have i17 : (Try.prog.info? 177).map (·.size) = some x17.size := by rw [s17.1]; exact nm_size
    have i20 : (Try.prog.info? 177).map (·.size) = some x20.size := by rw [s20.1]; exact nm_size
    refine wpAny_two (by kernel_rfl) ?_
    refine wpAny_one (i := 8) (by kernel_rfl) rfl (by rfl) fun K hK => ?_
    refine owp_store_blk 177 (.tmp 5) (.tmp 17) rfl rfl g5 x17 rfl rfl 177 _ h5 i17 (by rw [s17.1]; rfl) s17.2 ?_
    refine hK _ _ ?_
    clear hK K
    refine wpAny_one (i := 9) (by kernel_rfl) rfl (by rfl) fun K hK => ?_
    refine owp_store_blk 177 (.tmp 6) (.tmp 20) rfl rfl g6 x20 rfl rfl 177 _ (h6.rowFar (Ne.symm hne) _) i20 (by rw [s20.1]; rfl) s20.2 ?_
    refine hK _ _ ?_
    clear hK K
    refine wpAny_done (by kernel_rfl) ?_ _
    refine NoPanic.normal ?_
    obtain ⟨m, hm⟩ : ∃ m, (lof [] la).short = m := ⟨_, rfl⟩
    obtain ⟨n, hn⟩ : ∃ n, (lof [] lb).short = n := ⟨_, rfl⟩
    rw [hm] at h17
    rw [hn] at h20
    have HR3 : Hid (m.same n = R) := Lib.hid (by have := HR2.out; rwa [hm, hn] at this)
    have keep : ∀ {zs : List Int} {A : Option Addr}, IntsAt (here wx) wx zs A → IntsAt (here ((wx.setRow g5 x17).setRow g6 x20)) ((wx.setRow g5 x17).setRow g6 x20) zs A := by
     intro zs A h j z hj
     obtain ⟨a, hA, hab, hc, cur, fz, hib⟩ := h j z hj
     have n5 : a.block ≠ g5 := by
      intro e; have := hib; rw [e] at this; have h5' : wx.heap[g5]? = _ := h5; rw [h5'] at this; injection this with this; injection this with _ ht; exact absurd ht (by decide)
     have n6 : a.block ≠ g6 := by
      intro e; have := hib; rw [e] at this; have h6' : wx.heap[g6]? = _ := h6; rw [h6'] at this; injection this with this; injection this with _ ht; exact absurd ht (by decide)
     have hh : ((wx.setRow g5 x17).setRow g6 x20).heap[a.block]? = wx.heap[a.block]? := (setRow_other _ _ _ _ n6).trans (setRow_other _ _ _ _ n5)
     refine ⟨a, hA, by show _ < _; simp; exact hab, ?_, cur, fz, hh.trans hib⟩
     exact (World.cell?_of_block (by rw [Addr_add_block]; exact hh)).trans hc
    have k5 : Blk ((wx.setRow g5 x17).setRow g6 x20) g5 177 x17 := (h5.row _).rowFar hne _
    have k6 : Blk ((wx.setRow g5 x17).setRow g6 x20) g6 177 x20 := (h6.rowFar (Ne.symm hne) _).row _
    have huF : Below w.heap.size w ((wx.setRow g5 x17).setRow g6 x20) := by
     have h1 : Upd (fun k => k = g5 ∨ k = g6) wx ((wx.setRow g5 x17).setRow g6 x20) := ((Upd.refl (fun k => k = g5 ∨ k = g6) wx).setRow (.inl (.inl rfl)) _).setRow (.inl (.inr rfl)) _
     exact (((hu1.trans hu14).trans hux).trans' h1 (fun x hx h => by rcases h with h | h <;> omega)).below
    obtain ⟨A1, c1', rfl, ⟨hok1, _⟩, hz1⟩ := h17
    obtain ⟨A2, c2', rfl, ⟨hok2, _⟩, hz2⟩ := h20
    have z1 := keep hz1
    have z2 := keep hz2
    have p0 := k5.cell 0
    have p1 := k5.cell 1
    have q0 := k6.cell 0
    have q1 := k6.cell 1
    obtain ⟨WF, hWF⟩ : ∃ WF, (wx.setRow g5 #[.int .i64 m.c, .slice A1 m.ks.length c1']).setRow g6 #[.int .i64 n.c, .slice A2 n.ks.length c2'] = WF := ⟨_, rfl⟩
    rw [hWF] at z1 z2 p0 p1 q0 q1 huF ⊢
    clear hWF k5 k6 keep h5 h6 hz1 hz2
    have p0 : WF.cell? ⟨g5, 0, none⟩ = some (.int .i64 m.c) := p0
    have p1 : WF.cell? ⟨g5, 1, none⟩ = some (.slice A1 m.ks.length c1') := p1
    have q0 : WF.cell? ⟨g6, 0, none⟩ = some (.int .i64 n.c) := q0
    have q1 : WF.cell? ⟨g6, 1, none⟩ = some (.slice A2 n.ks.length c2') := q1
    have HMN := Lib.hid (And.intro hm hn)
    clear hm hn
    by_cases hcc : m.c = n.c
    · have t1 : (m.c == n.c) = true := by simpa using hcc
      obtain rfl : decide (m.ks = n.ks) = R := by rw [← HR3.out]; simp [Nm.same, hcc]
      clear hcc
      go_wp2_with ((go_at_call 129; refine (eqi_any m.ks n.ks A1 A2 c1' c2' (here WF) WF (here_in WF) hok1.2.2 hok2.2.2 z1 z2).mono ?_; rintro e w9 ⟨rfl, hb9⟩))
      go_ret
      exact ⟨rfl, huF.trans (hb9.mono huF.size)⟩
    have t1 : (m.c == n.c) = false := by simpa using hcc
    obtain rfl : false = R := by rw [← HR3.out]; simp [Nm.same, hcc]
    clear hcc
    go_wp2_with fail
    go_ret
    exact ⟨rfl, huF⟩
end Go.Proofs.Ytiampoebdmflgaa
/- term.arity, leaf, kids and what it yields. -/
namespace Go.Proofs.Ytiampoebdmflgaa
open Go.RowKit
set_option linter.unusedVariables false
attribute [local go_sem] Oper.semAt_some
set_option maxRecDepth 100000
set_option maxHeartbeats 4000000
set_option linter.unusedSimpArgs false
theorem results_cell1 {P : Program} {fn : Func} {p : Tmp} {ty : TypeId} (h : fn.results = #[.cell p ty]) (tmps : Array Value) (w : World) (g : Nat) (v : Value) (d : TypeDesc)
    (hp : tmps.getD p undef = .pointer (some ⟨g, 0, none⟩)) (hc : w.cell? ⟨g, 0, none⟩ = some v)
    (hu : P.underlying ty = some d) (hd : (match d with | .struct _ | .array _ _ => true | _ => false) = false) :
    (results fn tmps).run P w = .ok v w := by
 have hp' : tmps[p]?.getD undef = .pointer (some ⟨g, 0, none⟩) := by simpa using hp
 have hagg : (isAgg ty).run P w = .ok false w := by
  unfold isAgg
  rw [Sem.run_bind, run_underlying hu w]
  cases d <;> simp_all
 simp [results, h, hp', asAddr, loadVar, hagg, hc, go_sem]
def tar (k : Int) : Int := if k = 1 then 0 else if k = 2 then 0 else if k = 7 then 0 else if k = 3 then 2 else if k = 4 then 2 else if k = 6 then 2 else if k = 5 then 3 else -1
theorem tar_le (k : Int) : -1 ≤ tar k ∧ tar k ≤ 3 := by unfold tar; (repeat' split) <;> omega
theorem tarity_any (k : Int) (w : World) : Calls Try.prog 109 #[.int .i64 k] w fun e w' => e = .returned (.int .i64 (tar k)) ∧ w' = w := by
 unfold tar
 by_cases h1 : k = 1
 · subst h1
   go_enter Try.func109, Try.ntmps109
   go_wp2
   go_ret
   exact ⟨rfl, rfl⟩
 have e1 : (k == 1) = false := by simpa using h1
 by_cases h2 : k = 2
 · subst h2
   go_enter Try.func109, Try.ntmps109
   go_wp2
   go_ret
   exact ⟨rfl, rfl⟩
 have e2 : (k == 2) = false := by simpa using h2
 by_cases h7 : k = 7
 · subst h7
   go_enter Try.func109, Try.ntmps109
   go_wp2
   go_ret
   exact ⟨rfl, rfl⟩
 have e7 : (k == 7) = false := by simpa using h7
 by_cases h3 : k = 3
 · subst h3
   go_enter Try.func109, Try.ntmps109
   go_wp2
   go_ret
   exact ⟨rfl, rfl⟩
 have e3 : (k == 3) = false := by simpa using h3
 by_cases h4 : k = 4
 · subst h4
   go_enter Try.func109, Try.ntmps109
   go_wp2
   go_ret
   exact ⟨rfl, rfl⟩
 have e4 : (k == 4) = false := by simpa using h4
 by_cases h6 : k = 6
 · subst h6
   go_enter Try.func109, Try.ntmps109
   go_wp2
   go_ret
   exact ⟨rfl, rfl⟩
 have e6 : (k == 6) = false := by simpa using h6
 by_cases h5 : k = 5
 · subst h5
   go_enter Try.func109, Try.ntmps109
   go_wp2
   go_ret
   exact ⟨rfl, rfl⟩
 have e5 : (k == 5) = false := by simpa using h5
 rw [if_neg h1, if_neg h2, if_neg h7, if_neg h3, if_neg h4, if_neg h6, if_neg h5]
 go_enter Try.func109, Try.ntmps109
 go_wp2
 go_ret
 exact ⟨rfl, rfl⟩
def tleaf (k : Int) (m : Nat) : Bool := decide (tar k < 1) || decide ((m : Int) < tar k)
def Tm.leaf (t : Tm) : Bool := tleaf t.k t.ks.length
theorem TmIs.lit {D : Nat → Prop} {w : World} {t : Tm} {cs : Array Value} (h : TmIs D w t cs) : ∃ x y z A c A' c', cs = #[.int .i64 t.k, .int .i64 t.n, .string t.nm, x, y, z, .slice A t.ls.length c, .slice A' t.ks.length c'] ∧ InI t.k ∧ InI t.n ∧ t.nm.size ≤ 140737488351232 ∧
      LvIs D w t.lv #[x, y, z] ∧ (t.ls.length * 40 ≤ 140737488351232 ∧ t.ls.length ≤ c) ∧ LvsAt D w t.ls A 0 ∧ (t.ks.length * 120 ≤ 140737488351232 ∧ t.ks.length ≤ c') ∧ TmsAt D w t.ks A' 0 := by
 obtain ⟨k, n, nm, lv, ls, ks⟩ := t
 simp only [TmIs] at h
 exact h
theorem tm_size : (Try.prog.info? 27).map (·.size) = some 8 := by kernel_rfl
theorem tm_zero (w : World) : (zeroValue 27).run Try.prog w = .ok (.agg #[.int .i64 0, .int .i64 0, .string ByteArray.empty, .int .i64 0, .int .i64 0, .slice none 0 0, .slice none 0 0, .slice none 0 0]) w := by kernel_rfl
theorem tm_info : (Try.prog.info? 27).map (fun i => (i.zero, i.size, i.bytes)) = some (some (.agg #[.int .i64 0, .int .i64 0, .string ByteArray.empty, .int .i64 0, .int .i64 0, .slice none 0 0, .slice none 0 0, .slice none 0 0]), 8, 120) := by kernel_rfl
theorem tleaf_any (t : Tm) (cs : Array Value) (D : Nat → Prop) (w : World) (ht : TmIs D w t cs) :
    Calls Try.prog 106 #[.agg cs] w fun e w' => e = .returned (.bool t.leaf) ∧ Below w.heap.size w w' := by
 obtain ⟨x, y, z, A, c, A', c', rfl, _, _, _, _, _, _, _, _⟩ := ht.lit
 obtain ⟨R, hR⟩ : ∃ R, t.leaf = R := ⟨_, rfl⟩
 have hR2 : (decide (tar t.k < 1) || decide ((t.ks.length : Int) < tar t.k)) = R := hR
 rw [hR]
 have HR := Lib.hid hR2; clear hR hR2 ht
 obtain ⟨m, hm⟩ : ∃ m, t.ks.length = m := ⟨_, rfl⟩
 obtain ⟨k, hk⟩ : ∃ k, t.k = k := ⟨_, rfl⟩
 rw [hm, hk] at HR ⊢
 clear hm hk
 obtain ⟨q, hq⟩ : ∃ q, tar k = q := ⟨_, rfl⟩
 have hTA : ∀ wx : World, Calls Try.prog 109 #[.int .i64 k] wx fun e w' => e = .returned (.int .i64 q) ∧ w' = wx := fun wx => hq ▸ tarity_any k wx
 rw [hq] at HR
 have TA := Lib.hid hTA; clear hTA hq
 by_cases h1 : q < 1
 · have t1 : decide (q < 1) = true := by simpa using h1
   obtain rfl : true = R := by rw [← HR.out]; simp [h1]
   go_enter Try.func106, Try.ntmps106
   go_wp2
   go_quiet ((go_at_call 109; exact Calls.quiet_of_same (TA.out _)))
   go_wp2
   go_ret
   exact ⟨rfl, below_drewN ((Below.refl _ _).alloc (Nat.le_refl _) _) _⟩
 have t1 : decide (q < 1) = false := by simpa using h1
 obtain rfl : decide ((m : Int) < q) = R := by rw [← HR.out]; simp [h1]
 go_enter Try.func106, Try.ntmps106
 go_wp2
 go_quiet ((go_at_call 109; exact Calls.quiet_of_same (TA.out _)))
 go_wp2
 go_ret
 exact ⟨rfl, below_drewN ((Below.refl _ _).alloc (Nat.le_refl _) _) _⟩
def nk (k : Int) (m : Nat) : Nat := if (m : Int) < tar k then 0 else (tar k).toNat
theorem nk_le (k : Int) (m : Nat) : nk k m ≤ m := by unfold nk; split <;> omega
def bnd (k : Int) (i : Nat) : Int := if (i : Int) = tar k - 1 ∧ k ≠ 6 then 1 else 0
def kx (k : Int) (css : List (Array Value)) : List (Array Value) := css.mapIdx fun i c => #[.int .i64 (bnd k i), .agg c]
theorem kx_len (k : Int) (css : List (Array Value)) : (kx k css).length = css.length := by simp [kx]
theorem kx_of {k : Int} {css : List (Array Value)} {i : Nat} {c : Array Value} (h : css[i]? = some c) : (kx k css)[i]? = some #[.int .i64 (bnd k i), .agg c] := by simp [kx, h]
theorem kx_get {k : Int} {css : List (Array Value)} {i : Nat} {x : Array Value} (h : (kx k css)[i]? = some x) : ∃ c, css[i]? = some c ∧ x = #[.int .i64 (bnd k i), .agg c] := by
 simp only [kx, List.getElem?_mapIdx, Option.map_eq_some_iff] at h
 obtain ⟨c, h1, h2⟩ := h
 exact ⟨c, h1, h2.symm⟩
theorem kx_size {k : Int} {css : List (Array Value)} : ∀ x, x ∈ kx k css → x.size = 2 := by
 intro x hx
 obtain ⟨i, hi⟩ := List.mem_iff_getElem?.1 hx
 obtain ⟨c, _, rfl⟩ := kx_get hi
 rfl
theorem TmsAt.cells {D : Nat → Prop} {w : World} {ks : List Tm} {A : Option Addr} (h : TmsAt D w ks A 0) : ∃ css : List (Array Value), css.length = ks.length ∧ ∀ (i : Nat) c, css[i]? = some c → ∃ a l, ks[i]? = some l ∧ A = some a ∧ D a.block ∧ rowAt w (a.add (i * 8)) c ∧ TmIs D w l c := by
 have : ∀ n, n ≤ ks.length → ∃ css : List (Array Value), css.length = n ∧ ∀ (i : Nat) c, css[i]? = some c → ∃ a l, ks[i]? = some l ∧ A = some a ∧ D a.block ∧ rowAt w (a.add (i * 8)) c ∧ TmIs D w l c := by
  intro n
  induction n with
  | zero => exact fun _ => ⟨[], rfl, fun i c h => by simp at h⟩
  | succ n ih =>
   intro hn
   obtain ⟨css, hl, hc⟩ := ih (by omega)
   obtain ⟨a, c, hA, hb, hr, ht⟩ := h.at_ (List.getElem?_eq_getElem (show n < ks.length by omega))
   rw [Nat.zero_add] at hr
   refine ⟨css ++ [c], by simp [hl], fun i c' hi => ?_⟩
   by_cases hin : i < css.length
   · rw [List.getElem?_append_left hin] at hi; exact hc i c' hi
   have hle := (List.getElem?_eq_some_iff.1 hi).1
   have : i = n := by simp at hle; omega
   subst this
   rw [List.getElem?_append_right (by omega), hl] at hi
   simp at hi
   subst hi
   exact ⟨a, ks[i], List.getElem?_eq_getElem (by omega), hA, hb, hr, ht⟩
 exact this ks.length (Nat.le_refl _)
theorem tkids_any (t : Tm) (cs : Array Value) (D : Nat → Prop) (w : World) (ht : TmIs D w t cs) :
    Calls Try.prog 112 #[.agg cs] w fun e w' => e = .returned (.func (.func 132) #[] #[.pointer (some ⟨w.heap.size, 0, none⟩)]) ∧ w' = w.alloc (.cells cs 27) := by
 have hs := ht.oneCell
 go_enter Try.func112, Try.ntmps112
 go_wp2
 go_ret
 exact ⟨rfl, rfl⟩
theorem kids_spec (t : Tm) (css : List (Array Value)) (x y z : Value) (A : Option Addr) (c : Nat) (A' : Option Addr) (c' : Nat) (D : Nat → Prop) (tb : Nat) (w₀ : World) (hD : Within D w₀)
    (hb : Blk w₀ tb 27 #[.int .i64 t.k, .int .i64 t.n, .string t.nm, x, y, z, .slice A t.ls.length c, .slice A' t.ks.length c']) (hcl : css.length = t.ks.length) (hlen : t.ks.length * 120 ≤ 140737488351232)
    (hcs : ∀ (i : Nat) c, css[i]? = some c → ∃ a l, t.ks[i]? = some l ∧ A' = some a ∧ D a.block ∧ rowAt w₀ (a.add (i * 8)) c ∧ TmIs D w₀ l c) (xs : List (Array Value))
    (hxs0 : xs = kx t.k (css.take (nk t.k t.ks.length))) :
    IterSpec Try.prog 132 #[.pointer (some ⟨tb, 0, none⟩)] (fun k => k = tb ∨ D k) w₀ xs := by
 have hxs : xs = if (t.ks.length : Int) < tar t.k then [] else kx t.k (css.take (tar t.k).toNat) := by rw [hxs0]; unfold nk; split <;> simp [kx]
 clear hxs0
 intro l J Jx hJ hJx hY I W hag hI h0
 have hbW := hb.keeps hag (.inl rfl)
 have c0 : W.cell? ⟨tb, 0, none⟩ = some (.int .i64 t.k) := hbW.cell 0
 have c7 : W.cell? ⟨tb, 7, none⟩ = some (.slice A' t.ks.length c') := hbW.cell 7
 have hlb := hbW.lt
 obtain ⟨k, hk⟩ : ∃ k, t.k = k := ⟨_, rfl⟩
 obtain ⟨m, hm⟩ : ∃ m, t.ks.length = m := ⟨_, rfl⟩
 obtain ⟨q, hq⟩ : ∃ q, tar k = q := ⟨_, rfl⟩
 rw [hk] at c0
 rw [hm] at c7
 rw [hk, hm, hq] at hxs
 have hq1 := tar_le k
 rw [hq] at hq1
 have HQ := Lib.hid hq
 have HM := Lib.hid hm
 have HK := Lib.hid hk
 have hTA : ∀ wx : World, Calls Try.prog 109 #[.int .i64 k] wx fun e w' => e = .returned (.int .i64 q) ∧ w' = wx := fun wx => hq ▸ tarity_any k wx
 have TA := Lib.hid hTA
 have hm1 : m * 120 ≤ 140737488351232 := by rw [← hm]; exact hlen
 clear hq hm hk hTA hlen
 refine callsIn_wide (n := 0).1 ?_
 refine callsIn_of_wp Try.func132 rfl trivial ?_ rfl
 simp only [Try.ntmps132, List.size_toArray, List.length_cons, List.length_nil, Nat.reduceAdd, Nat.reduceSub, Array.replicate_succ, Array.replicate_zero, List.push_toArray, List.append_toArray, List.nil_append, List.cons_append]
 gi_wp2_with fail
 refine viaCalls (TA.out _) ?_
 rintro e w1 ⟨rfl, rfl⟩
 by_cases hlt : (m : Int) < q
 · have t1 : decide ((m : Int) < q) = true := by simpa using hlt
   rw [if_pos hlt] at hxs
   subst hxs
   clear hlt
   gi_wp2
   refine bodyPost_ret (results_none rfl _ _ _) rfl ?_
   exact ⟨⟨_, rfl⟩, I, fun _ h => h, fun _ h => .inl h, .inl h0⟩
 have t1 : decide ((m : Int) < q) = false := by simpa using hlt
 rw [if_neg hlt] at hxs
 have HXS := Lib.hid hxs
 have HLT := Lib.hid hlt
 clear hxs hlt
 obtain ⟨N, hN⟩ : ∃ N : Nat, q.toNat = N := ⟨_, rfl⟩
 have hmx : max 0 q = (N : Int) := by omega
 have hN3 : N ≤ 3 := by omega
 have hNm : N ≤ m := by have := HLT.out; omega
 have hxs2 : xs = kx k (css.take N) := by rw [HXS.out, hN]
 have hxl : xs.length = N := by rw [hxs2, kx_len, List.length_take, hcl, HM.out]; omega
 have HX2 := Lib.hid hxs2
 have HXL := Lib.hid hxl
 have HNQ := Lib.hid hN
 clear hxs2 hxl hN HXS
 gi_wp2
 gi_loopw [16] (fun p wr => ∃ (j : Nat) (I' : Nat → Prop), j ≤ N ∧ p = .int .i64 j ∧ J j I' wr ∧ Keeps (fun k => k = tb ∨ D k) w₀ wr ∧ w1.heap.size ≤ wr.heap.size ∧
     (∀ i, I i → I' i) ∧ (∀ i, I' i → (I i ∨ w1.heap.size ≤ i) ∧ i < wr.heap.size)) (fun p _ => N - (intOf p).toNat)
 case atStart => exact ⟨0, I, Nat.zero_le _, rfl, h0, hag, Nat.le_refl _, fun _ h => h, fun j h => ⟨.inl h, hI j h⟩⟩
 case round =>
  obtain ⟨j, I', hj, rfl, hjj, hkp, hsz, hi1, hi2⟩ := hrel
  by_cases hlt : j < N
  · have hjc : j < css.length := by rw [hcl, HM.out]; omega
    obtain ⟨a, l', hl', hA, hab, hrow, hti⟩ := hcs j _ (List.getElem?_eq_getElem hjc)
    obtain ⟨cj, hcj⟩ : ∃ cj, css[j] = cj := ⟨_, rfl⟩
    rw [hcj] at hrow hti
    have hx : xs[j]? = some #[.int .i64 (bnd k j), .agg cj] := by
     rw [HX2.out]; refine kx_of ?_; rw [List.getElem?_take_of_lt hlt, List.getElem?_eq_getElem hjc, hcj]
    obtain ⟨fn, tmps, assign, body, hy, hR⟩ := hY j _ _ _ hx hjj
    have d0 : wr.cell? ⟨tb, 0, none⟩ = some (.int .i64 k) := by have := (hb.keeps hkp (.inl rfl)).cell 0; rw [HK.out] at this; exact this
    have d7 : wr.cell? ⟨tb, 7, none⟩ = some (.slice A' m c') := by have := (hb.keeps hkp (.inl rfl)).cell 7; rw [HM.out] at this; exact this
    have hrow' : rowAt wr (a.add (j * 8)) cj := fun i v hv => (hkp.cell (by rw [Addr_add_block, Addr_add_block]; exact .inr hab)).trans (hrow i v hv)
    have hsi : (Try.prog.info? 27).map (·.size) = some cj.size := by rw [hti.oneCell.1]; exact tm_size
    have hjm : j < m := by omega
    have HA := Lib.hid hA
    have HL' := Lib.hid hl'
    clear hA hcj hl'
    obtain ⟨bb, hbb⟩ : ∃ bb, bnd k j = bb := ⟨_, rfl⟩
    rw [hbb] at hx hy
    have hb2 : (if (j : Int) = q - 1 ∧ k ≠ 6 then 1 else 0) = bb := by rw [← hbb]; unfold bnd; rw [HQ.out]
    have HB := Lib.hid hb2
    clear hbb hb2
    by_cases g1 : (j : Int) = q - 1
    · have t2 : ((j : Int) == q - 1) = true := by simpa using g1
      by_cases g2 : k = 6
      · have t3 : (k != 6) = false := by simpa using g2
        obtain rfl : 0 = bb := by rw [← HB.out]; rw [if_neg (fun h => h.2 g2)]
        clear g1 g2
        gi_wp2_with (first
         | ((with_reducible refine this_opIn (.indexAddr 25 (.tmp 31) (.tmp 32)) ?_); refine wpListIn_index_at .out rfl 25 (.tmp 31) (.tmp 32) rfl _ a _ _ rfl HA.out j rfl hjm 27 Try.underlying25 8 tm_size ?_)
         | ((with_reducible refine this_opIn (.load 27 (.tmp 33)) ?_); refine wpListIn_at .out rfl 27 (.tmp 33) rfl (a.add (j * 8)) rfl _ _ hrow' Try.underlying27 rfl hsi ?_))
        refine ⟨rfl, hR.mono ?_⟩
        rintro e W3 ⟨hk3, (⟨rfl, hj3⟩ | ⟨rfl, hx3⟩)⟩
        · gi_wp2
          go_roundw
          case rel =>
           have hs3 := hk3.size
           refine ⟨j + 1, I', hlt, by go_num, hj3, hkp.trans (hk3.mono fun j h => .inr h), by omega, hi1, ?_⟩
           intro i h
           have := hi2 i h; exact ⟨this.1, by omega⟩
          case measure => simp [intOf]; omega
        gi_wp2
        refine bodyPost_ret (results_none rfl _ _ _) rfl ?_
        exact ⟨⟨_, rfl⟩, I', hi1, fun i h => (hi2 i h).1, .inr hx3⟩
      have t3 : (k != 6) = true := by simpa using g2
      obtain rfl : 1 = bb := by rw [← HB.out]; rw [if_pos ⟨g1, g2⟩]
      clear g1 g2
      gi_wp2_with (first
       | ((with_reducible refine this_opIn (.indexAddr 25 (.tmp 31) (.tmp 32)) ?_); refine wpListIn_index_at .out rfl 25 (.tmp 31) (.tmp 32) rfl _ a _ _ rfl HA.out j rfl hjm 27 Try.underlying25 8 tm_size ?_)
       | ((with_reducible refine this_opIn (.load 27 (.tmp 33)) ?_); refine wpListIn_at .out rfl 27 (.tmp 33) rfl (a.add (j * 8)) rfl _ _ hrow' Try.underlying27 rfl hsi ?_))
      refine ⟨rfl, hR.mono ?_⟩
      rintro e W3 ⟨hk3, (⟨rfl, hj3⟩ | ⟨rfl, hx3⟩)⟩
      · gi_wp2
        go_roundw
        case rel =>
         have hs3 := hk3.size
         refine ⟨j + 1, I', hlt, by go_num, hj3, hkp.trans (hk3.mono fun j h => .inr h), by omega, hi1, ?_⟩
         intro i h
         have := hi2 i h; exact ⟨this.1, by omega⟩
        case measure => simp [intOf]; omega
      gi_wp2
      refine bodyPost_ret (results_none rfl _ _ _) rfl ?_
      exact ⟨⟨_, rfl⟩, I', hi1, fun i h => (hi2 i h).1, .inr hx3⟩
    have t2 : ((j : Int) == q - 1) = false := by simpa using g1
    obtain rfl : 0 = bb := by rw [← HB.out]; rw [if_neg (fun h => g1 h.1)]
    clear g1
    gi_wp2_with (first
     | ((with_reducible refine this_opIn (.indexAddr 25 (.tmp 31) (.tmp 32)) ?_); refine wpListIn_index_at .out rfl 25 (.tmp 31) (.tmp 32) rfl _ a _ _ rfl HA.out j rfl hjm 27 Try.underlying25 8 tm_size ?_)
     | ((with_reducible refine this_opIn (.load 27 (.tmp 33)) ?_); refine wpListIn_at .out rfl 27 (.tmp 33) rfl (a.add (j * 8)) rfl _ _ hrow' Try.underlying27 rfl hsi ?_))
    refine ⟨rfl, hR.mono ?_⟩
    rintro e W3 ⟨hk3, (⟨rfl, hj3⟩ | ⟨rfl, hx3⟩)⟩
    · gi_wp2
      go_roundw
      case rel =>
       have hs3 := hk3.size
       refine ⟨j + 1, I', hlt, by go_num, hj3, hkp.trans (hk3.mono fun j h => .inr h), by omega, hi1, ?_⟩
       intro i h
       have := hi2 i h; exact ⟨this.1, by omega⟩
      case measure => simp [intOf]; omega
    gi_wp2
    refine bodyPost_ret (results_none rfl _ _ _) rfl ?_
    exact ⟨⟨_, rfl⟩, I', hi1, fun i h => (hi2 i h).1, .inr hx3⟩
  gi_wp2
  go_end0
  have : j = N := by omega
  subst this
  exact ⟨⟨_, rfl⟩, I', hi1, fun j h => (hi2 j h).1, .inl (by rw [HXL.out]; exact hjj)⟩
end Go.Proofs.Ytiampoebdmflgaa
/- term.fold: over whatever visits. -/
namespace Go.Proofs.Ytiampoebdmflgaa
open Go.RowKit
set_option linter.unusedVariables false
attribute [local go_sem] Oper.semAt_some
set_option maxRecDepth 100000
set_option maxHeartbeats 4000000
set_option linter.unusedSimpArgs false
mutual
def tfold {σ : Type} (step : σ → Tm → Int → Int → Bool × σ) : Tm → Int → Int → σ → Bool × σ
 | .mk k n nm lv ls ks, d, b, s =>
  if (step s (.mk k n nm lv ls ks) d b).1 = true then tfolds step k (nk k ks.length) ks 0 (d + 1) b (step s (.mk k n nm lv ls ks) d b).2
  else (false, (step s (.mk k n nm lv ls ks) d b).2)
def tfolds {σ : Type} (step : σ → Tm → Int → Int → Bool × σ) (k : Int) (N : Nat) : List Tm → Nat → Int → Int → σ → Bool × σ
 | [], _, _, _, s => (true, s)
 | t :: ts, i, d, b, s => if i < N then
     if (tfold step t d (b + bnd k i) s).1 = true then tfolds step k N ts (i + 1) d b (tfold step t d (b + bnd k i) s).2 else (false, (tfold step t d (b + bnd k i) s).2)
  else (true, s)
end
theorem tfolds_at {σ : Type} (step : σ → Tm → Int → Int → Bool × σ) (k : Int) (N : Nat) (ks : List Tm) (j : Nat) (d b : Int) (s : σ) (hj : j < N) (hk : j < ks.length) :
    tfolds step k N (ks.drop j) j d b s = if (tfold step ks[j] d (b + bnd k j) s).1 = true then tfolds step k N (ks.drop (j + 1)) (j + 1) d b (tfold step ks[j] d (b + bnd k j) s).2 else (false, (tfold step ks[j] d (b + bnd k j) s).2) := by
 rw [List.drop_eq_getElem_cons hk]
 simp only [tfolds]
 rw [if_pos hj]
theorem tfolds_end {σ : Type} (step : σ → Tm → Int → Int → Bool × σ) (k : Int) (N : Nat) (ks : List Tm) (d b : Int) (s : σ) : tfolds step k N (ks.drop N) N d b s = (true, s) := by
 cases h : ks.drop N with
 | nil => simp only [tfolds]
 | cons t ts => simp only [tfolds]; rw [if_neg (by omega)]
mutual
def Tm.height : Tm → Nat
 | .mk _ _ _ _ _ ks => Tm.heights ks + 1
def Tm.heights : List Tm → Nat
 | [] => 0
 | l :: ls => max l.height (Tm.heights ls)
end
theorem Tm.height_mem : ∀ {ks : List Tm} {l : Tm}, l ∈ ks → l.height ≤ Tm.heights ks
 | x :: ks, l, h => by
  simp only [Tm.heights]
  rcases List.mem_cons.1 h with rfl | h
  · omega
  have := Tm.height_mem h; omega
mutual
def Tm.vh : Tm → Nat
 | .mk k _ _ _ _ ks => Tm.vhs (nk k ks.length) ks 0 + 1
def Tm.vhs (N : Nat) : List Tm → Nat → Nat
 | [], _ => 0
 | t :: ts, j => max (if j < N then t.vh else 0) (Tm.vhs N ts (j + 1))
end
theorem Tm.vhs_at (N : Nat) : ∀ (ks : List Tm) (i j : Nat) (hj : j < ks.length), i + j < N → (ks[j]).vh ≤ Tm.vhs N ks i
 | [], _, _, hj, _ => absurd hj (by simp)
 | t :: ts, i, 0, _, h => by simp only [Tm.vhs, List.getElem_cons_zero]; rw [if_pos (by omega)]; omega
 | t :: ts, i, j + 1, hj, h => by
  have := Tm.vhs_at N ts (i + 1) j (by simpa using hj) (by omega)
  simp only [Tm.vhs, List.getElem_cons_succ]; omega
theorem Tm.vh_kid {k n : Int} {nm : ByteArray} {lv : Lv} {ls : List Lv} {ks : List Tm} (j : Nat) (hj : j < ks.length) (h : j < nk k ks.length) : (ks[j]).vh + 1 ≤ (Tm.mk k n nm lv ls ks).vh := by
 have := Tm.vhs_at (nk k ks.length) ks 0 j hj (by omega)
 simp only [Tm.vh]; omega
theorem bnd_le (k : Int) (i : Nat) : 0 ≤ bnd k i ∧ bnd k i ≤ 1 := by unfold bnd; split <;> omega
structure TVisit (P : Program) (vf : FuncId) (lb : Array Value) (D S : Nat → Prop) {σ : Type} (R : σ → World → Prop) (step : σ → Tm → Int → Int → Bool × σ) : Prop where
 enter : ∀ args w, (callFunc vf args).run P w = .ok (.enter vf args) w
 stab : ∀ s W W', R s W → (∀ k, S k → W'.heap[k]? = W.heap[k]?) → R s W'
 ge : ∀ k, D k → ¬ S k
 lt : ∀ s W, R s W → ∀ k, S k → k < W.heap.size
 call : ∀ t cs d b s W, TmIs D W t cs → R s W → Within D W → 0 ≤ d → d ≤ 4611686018427387904 → 0 ≤ b → b ≤ d → Calls P vf (#[.agg cs, .int .i64 d, .int .i64 b] ++ lb) W fun e W' =>
  e = .returned (.bool (step s t d b).1) ∧ R (step s t d b).2 W' ∧ Upd S W W'
theorem TVisit.keep {P : Program} {vf : FuncId} {lb : Array Value} {D S : Nat → Prop} {σ : Type} {R : σ → World → Prop} {step : σ → Tm → Int → Int → Bool × σ} (h : TVisit P vf lb D S R step)
    {s : σ} {w w' : World} (hr : R s w) (hu : Upd nob w w') : R s w' := h.stab s w w' hr fun k hk => hu.block k (h.lt s w hr k hk) (fun f => f)
theorem tfold_any {vf : FuncId} {lb : Array Value} {D S : Nat → Prop} {σ : Type} {R : σ → World → Prop} {step : σ → Tm → Int → Int → Bool × σ} (V : TVisit Try.prog vf lb D S R step) (t : Tm) :
    ∀ (cs : Array Value) (d b : Int) (s : σ) (w : World), TmIs D w t cs → R s w → Within D w → 0 ≤ d → 0 ≤ b → b ≤ d → (d + t.vh ≤ 4611686018427387904 ∨ (d ≤ 4611686018427387904 ∧ ∀ s t d b, 4611686018427387904 ≤ d → (step s t d b).1 = false)) →
     Calls Try.prog 84 #[.agg cs, .int .i64 d, .int .i64 b, .func (.func vf) #[] lb] w fun e w' =>
      e = .returned (.bool (tfold step t d b s).1) ∧ R (tfold step t d b s).2 w' ∧ Upd S w w' := by
 induction t using Tm.ind with
 | h k n nm lv ls ks ih =>
  intro cs d b s w hl hR hB h0 hb0 hbd hd
  have hl0 := Lib.hid hl
  obtain ⟨x, y, z, A, c, A', c', rfl, hk, hn, hnm, hlv, hls1, hls, hks1, hks⟩ := hl.lit
  simp only [Tm.k, Tm.n, Tm.nm, Tm.lv, Tm.ls, Tm.ks] at hl0 hk hn hnm hlv hls1 hls hks1 hks ⊢
  have hdle : d ≤ 4611686018427387904 := by
   rcases hd with h | h
   · omega
   exact h.1
  have he := V.enter
  obtain ⟨⟨re, rs⟩, hX⟩ : ∃ X, tfold step (.mk k n nm lv ls ks) d b s = X := ⟨_, rfl⟩
  rw [hX]
  have HX := Lib.hid hX; clear hX hl
  refine callsIn_wide (n := 0).1 ?_
  refine callsIn_of_wp_marks Try.func84 rfl trivial ?_ rfl
  simp only [Try.ntmps84, List.size_toArray, List.length_cons, List.length_nil, Nat.reduceAdd, Nat.reduceSub, Array.replicate_succ, Array.replicate_zero, List.push_toArray, List.append_toArray, List.nil_append, List.cons_append]
  gi_wp2_with fail
  obtain ⟨W1, hW1⟩ : ∃ W1, ((((w.alloc (.cells #[.int .i64 k, .int .i64 n, .string nm, x, y, z, .slice A ls.length c, .slice A' ks.length c'] 27)).alloc (.cells #[.int .i64 d] 3)).alloc (.cells #[.int .i64 b] 3)).alloc (.cells #[.func (.func vf) #[] lb] 150)).alloc (.cells #[.bool false] 4) = W1 := ⟨_, rfl⟩
  have huW1 : Upd nob w W1 := by rw [← hW1]; exact (((((Upd.refl nob w).alloc _).alloc _).alloc _).alloc _).alloc _
  have hsW1 : W1.heap.size = w.heap.size + 5 := by rw [← hW1]; simp
  have b0 : Blk W1 (w.heap.size) 27 #[.int .i64 k, .int .i64 n, .string nm, x, y, z, .slice A ls.length c, .slice A' ks.length c'] := by
   rw [← hW1]
   have h := Blk.new (w) 27 #[.int .i64 k, .int .i64 n, .string nm, x, y, z, .slice A ls.length c, .slice A' ks.length c']
   exact (((h.alloc _).alloc _).alloc _).alloc _
  have b1 : Blk W1 (w.heap.size + 1) 3 #[.int .i64 d] := by
   rw [← hW1]
   have h := Blk.new (w.alloc (.cells #[.int .i64 k, .int .i64 n, .string nm, x, y, z, .slice A ls.length c, .slice A' ks.length c'] 27)) 3 #[.int .i64 d]
   rw [World.size_alloc] at h
   exact ((h.alloc _).alloc _).alloc _
  have b2 : Blk W1 (w.heap.size + 1 + 1) 3 #[.int .i64 b] := by
   rw [← hW1]
   have h := Blk.new ((w.alloc (.cells #[.int .i64 k, .int .i64 n, .string nm, x, y, z, .slice A ls.length c, .slice A' ks.length c'] 27)).alloc (.cells #[.int .i64 d] 3)) 3 #[.int .i64 b]
   rw [World.size_alloc, World.size_alloc] at h
   exact (h.alloc _).alloc _
  have b3 : Blk W1 (w.heap.size + 1 + 1 + 1) 150 #[.func (.func vf) #[] lb] := by
   rw [← hW1]
   have h := Blk.new (((w.alloc (.cells #[.int .i64 k, .int .i64 n, .string nm, x, y, z, .slice A ls.length c, .slice A' ks.length c'] 27)).alloc (.cells #[.int .i64 d] 3)).alloc (.cells #[.int .i64 b] 3)) 150 #[.func (.func vf) #[] lb]
   rw [World.size_alloc, World.size_alloc, World.size_alloc] at h
   exact h.alloc _
  have b4 : Blk W1 (w.heap.size + 1 + 1 + 1 + 1) 4 #[.bool false] := by
   rw [← hW1]
   have h := Blk.new ((((w.alloc (.cells #[.int .i64 k, .int .i64 n, .string nm, x, y, z, .slice A ls.length c, .slice A' ks.length c'] 27)).alloc (.cells #[.int .i64 d] 3)).alloc (.cells #[.int .i64 b] 3)).alloc (.cells #[.func (.func vf) #[] lb] 150)) 4 #[.bool false]
   rw [World.size_alloc, World.size_alloc, World.size_alloc, World.size_alloc] at h
   exact h
  rw [hW1]
  clear hW1
  have hsW : ∀ q, S q → q < w.heap.size := V.lt _ _ hR
  refine viaCalls (V.call (.mk k n nm lv ls ks) _ d b s W1 (hl0.out.old (hB.old huW1) (fun _ h => h)) (V.keep hR huW1) (hB.up huW1) h0 hdle hb0 hbd) ?_
  rintro e w2 ⟨rfl, hR2, hu2⟩
  obtain ⟨⟨c1, s1⟩, hr1⟩ : ∃ y, step s (.mk k n nm lv ls ks) d b = y := ⟨_, rfl⟩
  rw [hr1] at hR2 ⊢
  have HX2 : Hid ((if c1 = true then tfolds step k (nk k ks.length) ks 0 (d + 1) b s1 else (false, s1)) = (re, rs)) := Lib.hid (by have := HX.out; simp only [tfold, hr1] at this; exact this)
  have HR1 := Lib.hid hr1
  clear HX hr1
  have hn : ∀ j, ¬ S (w.heap.size + j) := fun j h => by have := hsW _ h; omega
  have u0 := b0.upd hu2 (hn 0)
  have u1 := b1.upd hu2 (hn 1)
  have u2 := b2.upd hu2 (hn 2)
  have u3 := b3.upd hu2 (hn 3)
  have u4 := b4.upd hu2 (hn 4)
  have q4 := u4.cell 0
  have f4 := u4.frozen 0
  have hu12 : Upd S w w2 := (huW1.mono (fun _ f => f.elim)).trans hu2
  clear b0 b1 b2 b3 b4
  have U0 := Lib.hid u0
  have U1 := Lib.hid u1
  have U2 := Lib.hid u2
  have U3 := Lib.hid u3
  have U4 := Lib.hid u4
  cases c1 with
  | false =>
   clear u0 u1 u2 u3 u4
   have q4' : w2.cell? ⟨w.heap.size + 1 + 1 + 1 + 1, 0, none⟩ = some (.bool false) := q4
   gi_wp2
   have h2 := HX2.out
   rw [if_neg (by decide)] at h2
   injection h2 with h3 h4
   subst h3 h4
   have hst : Upd (fun q => q = w.heap.size + 1 + 1 + 1 + 1) w2 (w2.setCell ⟨w.heap.size + 1 + 1 + 1 + 1, 0, none⟩ (.bool false)) := (Upd.refl (fun q => q = w.heap.size + 1 + 1 + 1 + 1) w2).setCell (p := ⟨w.heap.size + 1 + 1 + 1 + 1, 0, none⟩) (.inl rfl) _
   refine ⟨.bool false, results_cell1 rfl _ _ (w.heap.size + 1 + 1 + 1 + 1) _ _ rfl ((U4.out.set 0 _).cell 0) Try.underlying4 rfl, rfl, ?_, hu12.trans' hst (fun q hq h => by omega)⟩
   exact V.stab _ _ _ hR2 (fun q hq => hst.block q (V.lt _ _ hR2 q hq) (fun h => by have := hsW q hq; omega))
  | true =>
   clear u0 u1 u2 u3 u4 f4 q4
   have r0 := U0.out.rowAt
   gi_wp2_with (first
    | ((with_reducible refine this_opIn (.load 27 (.tmp 4)) ?_); refine wpListIn_at .out rfl 27 (.tmp 4) rfl ⟨w.heap.size, 0, none⟩ rfl _ _ r0 Try.underlying27 rfl tm_size ?_))
   refine viaCalls (tkids_any (.mk k n nm lv ls ks) _ D w2 ((hl0.out.old (hB.old huW1) (fun _ h => h)).old (Old.of_upd hu2 fun q hq => ⟨V.ge q hq, (hB.up huW1) q hq⟩) (fun _ h => h))) ?_
   rintro e w3 ⟨rfl, rfl⟩
   gi_wp2_with fail
   obtain ⟨css, hcl, hcs⟩ := hks.cells
   obtain ⟨W5, hW5⟩ : ∃ W5, w2.alloc (.cells #[.int .i64 k, .int .i64 n, .string nm, x, y, z, .slice A ls.length c, .slice A' ks.length c'] 27) = W5 := ⟨_, rfl⟩
   have hu5 : Upd nob w2 W5 := by rw [← hW5]; exact (Upd.refl nob w2).alloc _
   have hs5 : W5.heap.size = w2.heap.size + 1 := by rw [← hW5]; simp
   have hb5 : Blk W5 w2.heap.size 27 #[.int .i64 k, .int .i64 n, .string nm, x, y, z, .slice A ls.length c, .slice A' ks.length c'] := by rw [← hW5]; exact Blk.new _ _ _
   have hoD : Old D w W5 := (Old.of_upd hu12 fun q hq => ⟨V.ge q hq, hB q hq⟩).trans ((hB.up hu12).old hu5)
   have hD5 : Within D W5 := (hB.up hu12).up hu5
   have hR5 := V.keep hR2 hu5
   have hsz2 := hu12.size
   have hss := huW1.size
   have hs25 : w.heap.size + 5 ≤ w2.heap.size := by have := hu2.size; omega
   have hsS : ∀ q, S q → q < w2.heap.size := fun q h => by have := hsW q h; omega
   have hu5w : Upd S w W5 := hu12.trans (hu5.mono (fun _ f => f.elim))
   rw [hW5]
   clear hW5
   obtain ⟨xs, hxs⟩ : ∃ xs, xs = kx k (css.take (nk k ks.length)) := ⟨_, rfl⟩
   have hit := kids_spec (.mk k n nm lv ls ks) css x y z A c A' c' D w2.heap.size W5 hD5 hb5 hcl hks1.1 (fun i ci hi => by
    obtain ⟨a, l, e1, e2, e3, e4, e5⟩ := hcs i ci hi
    exact ⟨a, l, e1, e2, e3, e4.old hoD (by rw [Addr_add_block]; exact e3), e5.old hoD (fun _ h => h)⟩) xs hxs
   have HXS := Lib.hid hxs; clear hxs
   obtain ⟨N, hN⟩ : ∃ N, nk k ks.length = N := ⟨_, rfl⟩
   have hNk : N ≤ ks.length := by rw [← hN]; exact nk_le _ _
   have hxl : xs.length = N := by rw [HXS.out, kx_len, List.length_take, hcl, hN]; omega
   have hxg : ∀ (j : Nat) v, xs[j]? = some v → ∃ cj, css[j]? = some cj ∧ v = #[.int .i64 (bnd k j), .agg cj] ∧ j < N := fun j v hv => by
    have hjl : j < N := by rw [← hxl]; exact (List.getElem?_eq_some_iff.1 hv).1
    rw [HXS.out] at hv
    obtain ⟨cj, h1, h2⟩ := kx_get hv
    rw [List.getElem?_take_of_lt (by omega)] at h1
    exact ⟨cj, h1, h2, hjl⟩
   have HRES : Hid (tfolds step k N ks 0 (d + 1) b s1 = (re, rs)) := Lib.hid (by have := HX2.out; rw [if_pos trivial, hN] at this; exact this)
   have HN := Lib.hid hN
   clear hN HX2
   have base : ∀ (s : Nat → Prop), (∀ q, s q → q < W5.heap.size) → Stab (fun I W => Upd s W5 W ∧ ∀ q, I q → W5.heap.size ≤ q) := fun s hs I W W' ⟨h1, h2⟩ hu =>
    ⟨h1.trans' hu (fun q hq hI => by have := h2 q hI; omega), fun q hq => by
     rcases hq with hq | hq
     · exact h2 q hq
     have := h1.size; omega⟩
   have hlt : ∀ q, S q → q < W5.heap.size := fun q h => by have := hsS q h; omega
   have kR : ∀ (s : σ) (I : Nat → Prop) (W W' : World), R s W → (∀ q, I q → W5.heap.size ≤ q) → Upd I W W' → R s W' := fun s I W W' hr hI hu =>
    V.stab _ _ _ hr (fun q hq => hu.block q (V.lt _ _ hr q hq) (fun h => by have := hI q h; have := hlt q hq; omega))
   refine wpIn_range hit rfl (fun args w => by go_simp) ?_ (Keeps.refl _ _) (by rw [HXS.out]; exact kx_size)
    (fun j I W => (∃ sj, R sj W ∧ tfolds step k N ks 0 (d + 1) b s1 = tfolds step k N (ks.drop j) j (d + 1) b sj) ∧ Upd S W5 W ∧ ∀ q, I q → W5.heap.size ≤ q)
    (fun c I W => c = .ret ∧ ∃ s', R s' W ∧ tfolds step k N ks 0 (d + 1) b s1 = (false, s') ∧ Blk W (w.heap.size + 1 + 1 + 1 + 1) 4 #[.bool false] ∧ Upd (fun q => S q ∨ q = w.heap.size + 1 + 1 + 1 + 1) W5 W ∧ ∀ q, I q → W5.heap.size ≤ q)
    ?sJ ?sX nob (fun _ f => f.elim) ?j0
    (fun j v a₁ I W => (∃ cj g, css[j]? = some cj ∧ v = #[.int .i64 (bnd k j), .agg cj] ∧ j < N ∧ a₁ = { tmps := #[.agg #[.int .i64 k, .int .i64 n, .string nm, x, y, z, .slice A ls.length c, .slice A' ks.length c'], .int .i64 d, .int .i64 b, .func (.func vf) #[] lb, .pointer (some ⟨w.heap.size, 0, none⟩), .pointer (some ⟨w.heap.size + 1, 0, none⟩), .pointer (some ⟨w.heap.size + 1 + 1, 0, none⟩), .pointer (some ⟨w.heap.size + 1 + 1 + 1, 0, none⟩), .pointer (some ⟨w.heap.size + 1 + 1 + 1 + 1, 0, none⟩), .int .i64 (bnd k j), .pointer (some ⟨g, 0, none⟩), .func (.func vf) #[] lb, .agg #[.int .i64 k, .int .i64 n, .string nm, x, y, z, .slice A ls.length c, .slice A' ks.length c'], .int .i64 d, .int .i64 b, .bool true, .bool false, .agg #[.int .i64 k, .int .i64 n, .string nm, x, y, z, .slice A ls.length c, .slice A' ks.length c'], .func (.func 132) #[] #[.pointer (some ⟨w2.heap.size, 0, none⟩)], .int .i64 (bnd k j), .agg cj, undef, undef, undef, undef, undef, undef, undef, undef, undef], defers := [] } ∧ Blk W g 27 cj ∧ ¬ I g ∧ g < W.heap.size) ∧ (∃ sj, R sj W ∧ tfolds step k N ks 0 (d + 1) b s1 = tfolds step k N (ks.drop j) j (d + 1) b sj) ∧ Upd S W5 W ∧ ∀ q, I q → W5.heap.size ≤ q)
    ?sM ?assign ?body ?done ?stop
   · intro q hq
     rcases hq with rfl | hq
     · omega
     exact hD5 q hq
   case sJ =>
    intro j I W W' ⟨⟨sj, hr, he⟩, hu, hI⟩ h
    exact ⟨⟨sj, kR _ _ _ _ hr hI h, he⟩, base S hlt I W W' ⟨hu, hI⟩ h⟩
   case sX =>
    intro c I W W' ⟨hc, s', hr, he, hb, hu, hI⟩ h
    have hlt2 : ∀ q, (S q ∨ q = w.heap.size + 1 + 1 + 1 + 1) → q < W5.heap.size := fun q hq => by
     rcases hq with hq | hq
     · exact hlt q hq
     omega
    exact ⟨hc, s', kR _ _ _ _ hr hI h, he, hb.upd h (fun hh => by have := hI _ hh; omega), base _ hlt2 I W W' ⟨hu, hI⟩ h⟩
   case j0 => exact ⟨⟨s1, hR5, by rw [List.drop_zero]⟩, Upd.refl _ _, fun _ f => f.elim⟩
   case sM =>
    intro j v a₁ I W W' ⟨⟨cj, g, e1, e2, e3, e4, hb, hg, hgl⟩, ⟨sj, hr, he⟩, hu, hI⟩ h
    refine ⟨⟨cj, g, e1, e2, e3, e4, hb.upd h hg, fun hh => ?_, Nat.lt_of_lt_of_le hgl h.size⟩, ⟨sj, kR _ _ _ _ hr hI h, he⟩, base S hlt I W W' ⟨hu, hI⟩ h⟩
    rcases hh with hh | hh
    · exact hg hh
    omega
   case assign =>
    intro l j v I W hv hJ hIl
    obtain ⟨cj, hc1, rfl, hjN⟩ := hxg j v hv
    obtain ⟨⟨sj, hr, he⟩, hu, hI⟩ := hJ
    obtain ⟨a, l', g1, g2, g3, g4, g5⟩ := hcs j cj hc1
    have hz := tm_zero
    have HE := Lib.hid he; clear he
    have hsz := g5.oneCell
    have hsi : (Try.prog.info? 27).map (·.size) = some cj.size := by rw [hsz.1]; exact tm_size
    clear g2
    gi_wp2_with (first
     | ((with_reducible refine this_opIn (.store 27 (.tmp 10) (.tmp 20)) ?_); refine wpListIn_store_blk (.within _) rfl 27 (.tmp 10) (.tmp 20) rfl rfl W.heap.size cj rfl rfl 27 _ (Blk.new W _ _) hsi (by rw [hsz.1]; rfl) hsz.2 ?_))
    refine ⟨((Upd.refl nob W).alloc _).setRow (.inr (Nat.le_refl _)) _ |>.keeps fun q hq => ⟨fun f => f, ?_⟩, ?_⟩
    · rcases hq with hq | hq | hq
      · exact hIl q hq
      · have := hu.size; omega
      have := hD5 q hq; have := hu.size; omega
    have hua : Upd nob W ((W.alloc (.cells #[.int .i64 0, .int .i64 0, .string ByteArray.empty, .int .i64 0, .int .i64 0, .slice none 0 0, .slice none 0 0, .slice none 0 0] 27)).setRow W.heap.size cj) := ((Upd.refl nob W).alloc _).setRow (.inr (Nat.le_refl _)) _
    refine ⟨⟨cj, W.heap.size, hc1, rfl, hjN, rfl, (Blk.new W _ _).row _, fun h => by have := hIl _ h; omega, by simp⟩, ⟨sj, V.keep hr hua, HE.out⟩, hu.trans (hua.mono (fun _ f => f.elim)), hI⟩
   case body =>
    rintro l j v I W a₁ hv ⟨⟨cj, g, e1, e2, e3, rfl, hbg, hng, hgl⟩, ⟨sj, hr, he⟩, hu, hI⟩ hIl _
    obtain ⟨a, l', g1, g2, g3, g4, g5⟩ := hcs j cj e1
    have hjk := (List.getElem?_eq_some_iff.1 g1).1
    obtain rfl : ks[j] = l' := (List.getElem?_eq_some_iff.1 g1).2
    have hmem : ks[j] ∈ ks := List.getElem_mem hjk
    have hoW : Old D w W := hoD.trans (Old.of_upd hu fun q hq => ⟨V.ge q hq, hD5 q hq⟩)
    have hDW : Within D W := hD5.up hu
    have g6 := g5.old hoW (fun _ h => h)
    have hsi : (Try.prog.info? 27).map (·.size) = some cj.size := by rw [g5.oneCell.1]; exact tm_size
    have nS : ∀ i, ¬ S (w.heap.size + i) := fun i h => by have := hsW _ h; omega
    have v1 : W.cell? ⟨w.heap.size + 1, 0, none⟩ = some (.int .i64 d) := ((U1.out.upd hu5 (fun f => f)).upd hu (nS 1)).cell 0
    have v2 : W.cell? ⟨w.heap.size + 1 + 1, 0, none⟩ = some (.int .i64 b) := ((U2.out.upd hu5 (fun f => f)).upd hu (nS 2)).cell 0
    have v3 : W.cell? ⟨w.heap.size + 1 + 1 + 1, 0, none⟩ = some (.func (.func vf) #[] lb) := ((U3.out.upd hu5 (fun f => f)).upd hu (nS 3)).cell 0
    have w4 := (U4.out.upd hu5 (fun f => f)).upd hu (nS 4)
    have v4 : W.cell? ⟨w.heap.size + 1 + 1 + 1 + 1, 0, none⟩ = some (.bool false) := w4.cell 0
    have W4 := Lib.hid w4
    have rg := hbg.rowAt
    have hbl := bnd_le k j
    have HBN : Hid (tfold step ks[j] (d + 1) (b + bnd k j) sj = tfold step ks[j] (d + 1) (b + bnd k j) sj) := Lib.hid rfl
    have hst := tfolds_at step k N ks j (d + 1) b sj e3 hjk
    obtain ⟨bb, hbb⟩ : ∃ bb, bnd k j = bb := ⟨_, rfl⟩
    rw [hbb] at hbl hst HBN
    obtain ⟨hbl0, hbl1⟩ := hbl
    have hd1 : IntKind.i64.wrap (d + 1) = d + 1 := IntWalk.i64_in _ (by omega)
    have hb1 : IntKind.i64.wrap (b + bb) = b + bb := IntWalk.i64_in _ (by omega)
    have HE := Lib.hid he
    have HST := Lib.hid hst
    have HG := Lib.hid hbg
    clear he hst w4 hbg e1 g1 g2
    rw [hbb]
    have HBB := Lib.hid hbb; clear hbb
    gi_wp2_with (first
     | ((with_reducible refine this_opIn (.load 27 (.tmp 10)) ?_); refine wpListIn_at (.within _) rfl 27 (.tmp 10) rfl ⟨g, 0, none⟩ rfl _ _ rg Try.underlying27 rfl hsi ?_))
    refine viaCallsR (ih ks[j] hmem cj (d + 1) (b + bb) sj W g6 hr hDW (by omega) (by omega) (by omega) ?_) ?_
    · have hh := Tm.vh_kid (k := k) (n := n) (nm := nm) (lv := lv) (ls := ls) j hjk (by rw [HN.out]; exact e3)
      rcases hd with h | ⟨h, h'⟩
      · left; omega
      right; exact ⟨by have : ¬ 4611686018427387904 ≤ d := fun hhh => (by have h9 := h' s (.mk k n nm lv ls ks) d b hhh; rw [HR1.out] at h9; cases h9); omega, h'⟩
    rintro e w9 ⟨rfl, hR9, hu9⟩
    obtain ⟨⟨c2, s2⟩, hr2⟩ : ∃ y, tfold step ks[j] (d + 1) (b + bb) sj = y := ⟨_, rfl⟩
    rw [hr2] at hR9 ⊢
    have HS2 : Hid (tfolds step k N (ks.drop j) j (d + 1) b sj = if c2 = true then tfolds step k N (ks.drop (j + 1)) (j + 1) (d + 1) b s2 else (false, s2)) := Lib.hid (by have := HST.out; rw [hr2] at this; exact this)
    clear hr2 HST HBN
    have hu59 : Upd S W5 w9 := hu.trans hu9
    have hszW : W5.heap.size ≤ W.heap.size := hu.size
    have k9 : Keeps (fun q => I q ∨ (q = w2.heap.size ∨ D q)) W w9 := hu9.keeps fun q hq => by
     rcases hq with hq | rfl | hq
     · exact ⟨fun h => by have := hI q hq; have := hlt q h; omega, hIl q hq⟩
     · exact ⟨fun h => by have := hsS _ h; omega, by omega⟩
     exact ⟨V.ge q hq, hDW q hq⟩
    have x4 := W4.out.upd hu9 (nS 4)
    have x4c : w9.cell? ⟨w.heap.size + 1 + 1 + 1 + 1, 0, none⟩ = some (.bool false) := x4.cell 0
    have x4f := x4.frozen 0
    have X4 := Lib.hid x4
    clear x4
    cases c2 with
    | true =>
     gi_wp2
     exact ⟨k9, ⟨s2, hR9, by rw [HE.out, HS2.out, if_pos trivial]⟩, hu59, hI⟩
    | false =>
     gi_wp2
     have hst : Upd (fun q => q = w.heap.size + 1 + 1 + 1 + 1) w9 (w9.setCell ⟨w.heap.size + 1 + 1 + 1 + 1, 0, none⟩ (.bool false)) := (Upd.refl (fun q => q = w.heap.size + 1 + 1 + 1 + 1) w9).setCell (p := ⟨w.heap.size + 1 + 1 + 1 + 1, 0, none⟩) (.inl rfl) _
     refine ⟨k9.trans (hst.keeps fun q hq => ⟨fun h => ?_, ?_⟩), rfl, s2, V.stab _ _ _ hR9 (fun q hq => hst.block q (V.lt _ _ hR9 q hq) (fun h => by have := hsW q hq; omega)), by rw [HE.out, HS2.out, if_neg (by decide)], X4.out.set 0 _, (hu59.mono fun _ h => .inl h).trans (hst.mono fun _ h => .inr h), hI⟩
     · subst h
       rcases hq with hq | hq | hq
       · have := hI _ hq; omega
       · omega
       have := hB _ hq; omega
     have := hu9.size
     rcases hq with hq | rfl | hq
     · have := hIl _ hq; omega
     · omega
     have := hDW _ hq; omega
   case done =>
    intro dd I W ⟨⟨sj, hr, he⟩, hu, hI⟩ hdd hle hk _ _
    rw [hxl, tfolds_end] at he
    have h2 := HRES.out
    rw [he] at h2
    injection h2 with h3 h4
    subst h3 h4
    have nS : ∀ i, ¬ S (w.heap.size + i) := fun i h => by have := hsW _ h; omega
    have w4 := (U4.out.upd hu5 (fun f => f)).upd hu (nS 4)
    have v4 : W.cell? ⟨w.heap.size + 1 + 1 + 1 + 1, 0, none⟩ = some (.bool false) := w4.cell 0
    have f4 := w4.frozen 0
    have W4 := Lib.hid w4
    clear w4 he
    gi_wp2
    have hkk : (W.setCell ⟨w.heap.size + 1 + 1 + 1 + 1, 0, none⟩ (.bool true)).heap[dd]? = some (.deferred (some [])) := (Below.heap_setCell _ _ _ _ (by show dd ≠ w.heap.size + 1 + 1 + 1 + 1; omega)).trans hk
    refine ⟨by simp, .inl ⟨_, _, rfl, run_takeDeferred hkk, ?_⟩⟩
    have hfin : Upd (fun q => q = w.heap.size + 1 + 1 + 1 + 1 ∨ q = dd) W ((W.setCell ⟨w.heap.size + 1 + 1 + 1 + 1, 0, none⟩ (.bool true)).putObj dd (.deferred none)) :=
     ((Upd.refl (fun q => q = w.heap.size + 1 + 1 + 1 + 1 ∨ q = dd) W).setCell (p := ⟨w.heap.size + 1 + 1 + 1 + 1, 0, none⟩) (.inl (.inl rfl)) _).putObj (.inl (.inr rfl)) _
    have hc9 : ((W.setCell ⟨w.heap.size + 1 + 1 + 1 + 1, 0, none⟩ (.bool true)).putObj dd (.deferred none)).cell? ⟨w.heap.size + 1 + 1 + 1 + 1, 0, none⟩ = some (.bool true) :=
     (World.cell?_of_block (World.putObj_heap_other (by show w.heap.size + 1 + 1 + 1 + 1 ≠ dd; omega))).trans ((W4.out.set 0 _).cell 0)
    refine ⟨.bool true, results_cell1 rfl _ _ (w.heap.size + 1 + 1 + 1 + 1) _ _ rfl hc9 Try.underlying4 rfl, rfl, ?_, ?_⟩
    · exact V.stab _ _ _ hr (fun q hq => hfin.block q (V.lt _ _ hr q hq) (fun h => by have := hsW q hq; have := hlt q hq; omega))
    exact (hu5w.trans hu).trans' hfin (fun q hq h => by omega)
   case stop =>
    intro dd c I W ⟨hc, s', hr, he, hb, hu, hI⟩ hdd hle hk _ _
    subst hc
    have h2 := HRES.out
    rw [he] at h2
    injection h2 with h3 h4
    subst h3 h4
    clear he
    gi_wp2
    refine ⟨by simp, .inl ⟨_, _, rfl, run_takeDeferred hk, ?_⟩⟩
    have hfin : Upd (fun q => q = dd) W (W.putObj dd (.deferred none)) := (Upd.refl (fun q => q = dd) W).putObj (.inl rfl) _
    have hc9 : (W.putObj dd (.deferred none)).cell? ⟨w.heap.size + 1 + 1 + 1 + 1, 0, none⟩ = some (.bool false) :=
     (World.cell?_of_block (World.putObj_heap_other (by show w.heap.size + 1 + 1 + 1 + 1 ≠ dd; omega))).trans (hb.cell 0)
    refine ⟨.bool false, results_cell1 rfl _ _ (w.heap.size + 1 + 1 + 1 + 1) _ _ rfl hc9 Try.underlying4 rfl, rfl, ?_, ?_⟩
    · exact V.stab _ _ _ hr (fun q hq => hfin.block q (V.lt _ _ hr q hq) (fun h => by have := hlt q hq; omega))
    exact (hu5w.trans' hu (fun q hq h => h.elim id (fun h => by omega))).trans' hfin (fun q hq h => by omega)
end Go.Proofs.Ytiampoebdmflgaa
/- term.measure, great. -/
namespace Go.Proofs.Ytiampoebdmflgaa
open Go.RowKit
set_option linter.unusedVariables false
set_option maxRecDepth 100000
set_option maxHeartbeats 4000000
set_option linter.unusedSimpArgs false
def mStep (s : Int × Int) (_ : Tm) (d _ : Int) : Bool × (Int × Int) := (decide (wrap64 (s.1 + 1) ≤ 20000) && decide (d ≤ 2000), (wrap64 (s.1 + 1), max s.2 d))
def tmeas (t : Tm) : Int × Int := if (tfold mStep t 1 0 (0, 0)).1 = true then (tfold mStep t 1 0 (0, 0)).2 else (0, 0)
def tgreat (t : Tm) : Bool := (tmeas t).1 == 0
theorem meas1_any (t : Tm) (cs : Array Value) (D : Nat → Prop) (d b s1 s2 : Int) (nb db : Nat) (w : World) (hl : TmIs D w t cs) (hne : nb ≠ db) (hb : Blk w nb 3 #[.int .i64 s1]) (hc : Blk w db 3 #[.int .i64 s2]) :
    Calls Try.prog 126 #[.agg cs, .int .i64 d, .int .i64 b, .pointer (some ⟨nb, 0, none⟩), .pointer (some ⟨db, 0, none⟩)] w fun e w' =>
     e = .returned (.bool (mStep (s1, s2) t d b).1) ∧ (Blk w' nb 3 #[.int .i64 (mStep (s1, s2) t d b).2.1] ∧ Blk w' db 3 #[.int .i64 (mStep (s1, s2) t d b).2.2]) ∧ Upd (fun k => k = nb ∨ k = db) w w' := by
 obtain ⟨x, y, z, A, c, A', c', rfl, _, _, _, _, _, _, _, _⟩ := hl.lit
 simp only [mStep]
 have c0 : w.cell? ⟨nb, 0, none⟩ = some (.int .i64 s1) := hb.cell 0
 have c1 : w.cell? ⟨db, 0, none⟩ = some (.int .i64 s2) := hc.cell 0
 have f0 := hb.frozen 0
 have f1 := hc.frozen 0
 have hlt := hb.lt
 have hlt2 := hc.lt
 have hne2 : db ≠ nb := Ne.symm hne
 have HB := Lib.hid hb
 have HC := Lib.hid hc
 clear hb hc hl
 have fin : ∀ W', W' = ((w.setCell ⟨nb, 0, none⟩ (.int .i64 (wrap64 (s1 + 1)))).setCell ⟨db, 0, none⟩ (.int .i64 (max s2 d))).alloc (.cells #[.int .i64 t.k, .int .i64 t.n, .string t.nm, x, y, z, .slice A t.ls.length c, .slice A' t.ks.length c'] 27) →
     (Blk W' nb 3 #[.int .i64 (wrap64 (s1 + 1))] ∧ Blk W' db 3 #[.int .i64 (max s2 d)]) ∧ Upd (fun k => k = nb ∨ k = db) w W' := by
  rintro W' rfl
  refine ⟨⟨((HB.out.set 0 _).far (p := ⟨db, 0, none⟩) hne _).alloc _, ((HC.out.far (p := ⟨nb, 0, none⟩) hne2 _).set 0 _).alloc _⟩, ?_⟩
  exact ((((Upd.refl (fun k => k = nb ∨ k = db) w).setCell (p := ⟨nb, 0, none⟩) (.inl (.inl rfl)) _).setCell (p := ⟨db, 0, none⟩) (.inl (.inr rfl)) _).alloc _)
 have FIN := Lib.hid fin; clear fin
 by_cases h1 : wrap64 (s1 + 1) ≤ 20000
 · have t1 : decide (wrap64 (s1 + 1) ≤ 20000) = true := by simpa using h1
   rw [t1, Bool.true_and]
   go_enter Try.func126, Try.ntmps126
   go_wp2
   go_ret
   exact ⟨rfl, FIN.out _ rfl⟩
 have t1 : decide (wrap64 (s1 + 1) ≤ 20000) = false := by simpa using h1
 rw [t1, Bool.false_and]
 go_enter Try.func126, Try.ntmps126
 go_wp2
 go_ret
 exact ⟨rfl, FIN.out _ rfl⟩
theorem meas_visit (nb db : Nat) (hne : nb ≠ db) (D : Nat → Prop) (h1 : ¬ D nb) (h2 : ¬ D db) : TVisit Try.prog 126 #[.pointer (some ⟨nb, 0, none⟩), .pointer (some ⟨db, 0, none⟩)] D (fun k => k = nb ∨ k = db)
    (fun s w => Blk w nb 3 #[.int .i64 s.1] ∧ Blk w db 3 #[.int .i64 s.2]) mStep where
 enter := fun _ _ => by go_simp
 stab := fun s W W' h hk => ⟨(hk nb (.inl rfl)).trans h.1, (hk db (.inr rfl)).trans h.2⟩
 ge := fun k hk e => by rcases e with rfl | rfl <;> first | exact h1 hk | exact h2 hk
 lt := fun s W h k e => by rcases e with rfl | rfl <;> first | exact h.1.lt | exact h.2.lt
 call := fun t cs d b s W hl hr hd _ _ _ _ => meas1_any t cs D d b s.1 s.2 nb db W hl hne hr.1 hr.2
theorem tmeas_any (t : Tm) (cs : Array Value) (D : Nat → Prop) (w : World) (hD : Within D w) (hl : TmIs D w t cs) :
    Calls Try.prog 105 #[.agg cs] w fun e w' => e = .returned (.tuple #[.int .i64 (tmeas t).1, .int .i64 (tmeas t).2]) ∧ Below w.heap.size w w' := by
 obtain ⟨⟨m1, m2⟩, hm⟩ : ∃ m, tmeas t = m := ⟨_, rfl⟩
 rw [hm]
 have HM := Lib.hid hm; clear hm
 have hs := hl.oneCell
 have hsi : (Try.prog.info? 27).map (·.size) = some cs.size := by rw [hs.1]; exact tm_size
 obtain ⟨W1, hW1⟩ : ∃ W1, ((w.alloc (.cells cs 27)).alloc (.cells #[.int .i64 0] 3)).alloc (.cells #[.int .i64 0] 3) = W1 := ⟨_, rfl⟩
 have huW1 : Upd nob w W1 := by rw [← hW1]; exact (((Upd.refl nob w).alloc _).alloc _).alloc _
 have hsW1 : W1.heap.size = w.heap.size + 3 := by rw [← hW1]; simp
 have b0 : Blk W1 (w.heap.size) 27 cs := by
  rw [← hW1]
  have h := Blk.new (w) 27 cs
  exact (h.alloc _).alloc _
 have b1 : Blk W1 (w.heap.size + 1) 3 #[.int .i64 0] := by
  rw [← hW1]
  have h := Blk.new (w.alloc (.cells cs 27)) 3 #[.int .i64 0]
  rw [World.size_alloc] at h
  exact h.alloc _
 have b2 : Blk W1 (w.heap.size + 1 + 1) 3 #[.int .i64 0] := by
  rw [← hW1]
  have h := Blk.new ((w.alloc (.cells cs 27)).alloc (.cells #[.int .i64 0] 3)) 3 #[.int .i64 0]
  rw [World.size_alloc, World.size_alloc] at h
  exact h
 have HW1 := Lib.hid hW1
 have r0 := b0.rowAt
 clear hW1
 go_enter Try.func105, Try.ntmps105
 rw [← HW1.out] at r0
 go_wp2_with (first
     | ((with_reducible refine this_op (.load 27 (.tmp 1)) ?_); refine wpList_at rfl 27 (.tmp 1) rfl ⟨w.heap.size, 0, none⟩ rfl _ _ r0 Try.underlying27 rfl hsi ?_))
 rw [HW1.out]
 have nD : ∀ i, ¬ D (w.heap.size + i) := fun i h => by have := hD _ h; omega
 have V := meas_visit (w.heap.size + 1) (w.heap.size + 1 + 1) (by omega) D (nD 1) (nD 2)
 refine (tfold_any V t cs 1 0 (0, 0) W1 (hl.old (hD.old huW1) (fun _ h => h)) ⟨b1, b2⟩ (hD.up huW1) (by omega) (by omega) (by omega) (.inr ⟨by omega, ?_⟩)).mono ?_
 · intro s t d b hd
   simp only [mStep]
   have : decide (d ≤ 2000) = false := by simp; omega
   rw [this, Bool.and_false]
 rintro e w2 ⟨rfl, hr2, hu2⟩
 have hb2 : Below w.heap.size w w2 := (huW1.trans' hu2 (fun q hq h => by omega)).below
 have hmm := HM.out
 unfold tmeas at hmm
 obtain ⟨⟨r1, r2, r3⟩, hr⟩ : ∃ y, tfold mStep t 1 0 (0, 0) = y := ⟨_, rfl⟩
 rw [hr] at hmm hr2 ⊢
 obtain ⟨k1, k2⟩ := hr2
 have q1 : w2.cell? ⟨w.heap.size + 1, 0, none⟩ = some (.int .i64 r2) := k1.cell 0
 have q2 : w2.cell? ⟨w.heap.size + 1 + 1, 0, none⟩ = some (.int .i64 r3) := k2.cell 0
 have K1 := Lib.hid k1
 have K2 := Lib.hid k2
 clear hr k1 k2 b0 b1 b2 HM
 cases r1 with
 | false =>
  rw [if_neg (fun h => by cases h)] at hmm
  injection hmm with h3 h4
  subst h3 h4
  go_wp2_with fail
  go_ret2
  exact ⟨rfl, hb2⟩
 | true =>
  rw [if_pos rfl] at hmm
  injection hmm with h3 h4
  subst h3 h4
  go_wp2_with fail
  go_quiet (fail)
  go_wp2_with fail
  go_ret2
  exact ⟨rfl, below_drewN hb2 _⟩
theorem tgreat_any (t : Tm) (cs : Array Value) (D : Nat → Prop) (w : World) (hD : Within D w) (hl : TmIs D w t cs) :
    Calls Try.prog 80 #[.agg cs] w fun e w' => e = .returned (.bool (tgreat t)) ∧ Below w.heap.size w w' := by
 have hs := hl.oneCell
 have hsi : (Try.prog.info? 27).map (·.size) = some cs.size := by rw [hs.1]; exact tm_size
 obtain ⟨⟨m1, m2⟩, hm⟩ : ∃ m, tmeas t = m := ⟨_, rfl⟩
 have hg : tgreat t = (m1 == 0) := by unfold tgreat; rw [hm]
 rw [hg]
 have HM := Lib.hid hm; clear hm hg
 obtain ⟨W1, hW1⟩ : ∃ W1, w.alloc (.cells cs 27) = W1 := ⟨_, rfl⟩
 have hu1 : Upd nob w W1 := by rw [← hW1]; exact (Upd.refl nob w).alloc _
 have b0 : Blk W1 w.heap.size 27 cs := by rw [← hW1]; exact Blk.new _ _ _
 have r0 := b0.rowAt
 have HW1 := Lib.hid hW1
 clear hW1 b0
 go_enter Try.func80, Try.ntmps80
 rw [← HW1.out] at r0
 go_wp2_with (first
     | ((with_reducible refine this_op (.load 27 (.tmp 1)) ?_); refine wpList_at rfl 27 (.tmp 1) rfl ⟨w.heap.size, 0, none⟩ rfl _ _ r0 Try.underlying27 rfl hsi ?_))
 rw [HW1.out]
 refine (tmeas_any t cs D W1 (hD.up hu1) (hl.old (hD.old hu1) (fun _ h => h))).mono ?_
 rintro e w2 ⟨rfl, hb2⟩
 rw [HM.out]
 go_wp2_with fail
 go_ret
 exact ⟨rfl, hu1.below.trans (hb2.mono hu1.size)⟩
end Go.Proofs.Ytiampoebdmflgaa
/- term.ownLevel, node. -/
namespace Go.Proofs.Ytiampoebdmflgaa
open Go.RowKit
set_option linter.unusedVariables false
set_option maxRecDepth 100000
set_option maxHeartbeats 4000000
set_option linter.unusedSimpArgs false
theorem ownlevel_any (l : Lv) (cs : Array Value) (D : Nat → Prop) (w : World) (hD : Within D w) (hl : LvIs D w l cs) :
    Calls Try.prog 101 #[.agg cs] w fun e w' => ∃ cs', e = .returned (.agg cs') ∧ LvIs (grow D w w') w' (lown l) cs' ∧ Below w.heap.size w w' := by
 have hz := lv_zero
 have hs := hl.oneCell
 have hsi : (Try.prog.info? 24).map (·.size) = some cs.size := by rw [hs.1]; exact lv_size
 obtain ⟨W1, hW1⟩ : ∃ W1, (w.alloc (.cells cs 24)).alloc (.cells #[.int .i64 0, .int .i64 0, .slice none 0 0] 24) = W1 := ⟨_, rfl⟩
 have huW1 : Upd nob w W1 := by rw [← hW1]; exact ((Upd.refl nob w).alloc _).alloc _
 have hsW1 : W1.heap.size = w.heap.size + 2 := by rw [← hW1]; simp
 have b0 : Blk W1 (w.heap.size) 24 cs := by
  rw [← hW1]
  have h := Blk.new (w) 24 cs
  exact h.alloc _
 have b1 : Blk W1 (w.heap.size + 1) 24 #[.int .i64 0, .int .i64 0, .slice none 0 0] := by
  rw [← hW1]
  have h := Blk.new (w.alloc (.cells cs 24)) 24 #[.int .i64 0, .int .i64 0, .slice none 0 0]
  rw [World.size_alloc] at h
  exact h
 have HW1 := Lib.hid hW1
 have r0 := b0.rowAt
 have hlp : lplus 0 l = lown l := by simp [lplus]
 have hp := lplus_any 0 l cs D W1 (by unfold InI; omega) (hD.up huW1) (hl.old (hD.old huW1) (fun _ h => h))
 rw [hlp] at hp
 clear hW1 hlp
 go_enter Try.func101, Try.ntmps101
 rw [← HW1.out] at r0
 go_wp2_with (first
     | ((with_reducible refine this_op (.load 24 (.tmp 1)) ?_); refine wpList_at rfl 24 (.tmp 1) rfl ⟨w.heap.size, 0, none⟩ rfl _ _ r0 Try.underlying24 rfl hsi ?_))
 rw [HW1.out]
 refine hp.mono ?_
 rintro e w2 ⟨cs2, rfl, hl2, hb2⟩
 have hu2 : Upd nob W1 w2 := Upd.of_below hb2
 have C1 := b1.upd hu2 (fun f => f)
 have hs2 := hl2.oneCell
 have hsi2 : (Try.prog.info? 24).map (·.size) = some cs2.size := by rw [hs2.1]; exact lv_size
 go_wp2_with (first
     | ((with_reducible refine this_op (.store 24 (.tmp 2) (.tmp 4)) ?_); refine wpList_store_row rfl 24 (.tmp 2) (.tmp 4) rfl (w.heap.size + 1) _ rfl rfl 24 _ C1 hsi2 (by rw [hs2.1]; rfl) hs2.2 ?_))
 refine bodyPost_ret (results_cell_row rfl _ _ (w.heap.size + 1) 24 cs2 (0, 0) _ rfl (C1.row _) Try.underlying24 rfl hsi2) rfl ?_
 have hfin : Upd (fun q => q = w.heap.size + 1) w2 (w2.setRow (w.heap.size + 1) cs2) := (Upd.refl (fun q => q = w.heap.size + 1) w2).setRow (.inl rfl) _
 have hs9 : (w2.setRow (w.heap.size + 1) cs2).heap.size = w2.heap.size := by simp
 have hs3 := hu2.size
 refine ⟨cs2, rfl, hl2.old (Old.of_upd hfin fun q hq => ?_) (fun q hq => ?_), ((huW1.trans hu2).trans' hfin (fun q hq h => by omega)).below⟩
 · rcases hq with hq | hq
   · have := hD q hq; exact ⟨by omega, by omega⟩
   exact ⟨by omega, hq.2⟩
 rcases hq with hq | hq
 · exact .inl hq
 exact .inr ⟨by omega, by omega⟩
def lzero' : Lv := .mk 0 0 []
def tnode (t : Tm) : Tm :=
 if t.k = 1 then .mk 1 t.n ByteArray.empty lzero' [] [] else if t.k = 2 then .mk 2 0 ByteArray.empty (lown t.lv) [] [] else if t.k = 7 then .mk 7 0 t.nm lzero' (t.ls.map lown) [] else .mk t.k 0 ByteArray.empty lzero' [] []
theorem lzero_is (D : Nat → Prop) (w : World) : LvIs D w lzero' #[.int .i64 0, .int .i64 0, .slice none 0 0] := by
 simp only [lzero', LvIs]
 exact ⟨none, 0, rfl, by unfold InI; omega, by unfold InI; omega, ⟨by simp, Nat.zero_le _⟩, by simp only [LvsAt]⟩
theorem TmIs.short (D : Nat → Prop) (w : World) {k n : Int} (hk : InI k) (hn : InI n) : TmIs D w (.mk k n ByteArray.empty lzero' [] []) #[.int .i64 k, .int .i64 n, .string ByteArray.empty, .int .i64 0, .int .i64 0, .slice none 0 0, .slice none 0 0, .slice none 0 0] := by
 simp only [TmIs]
 exact ⟨_, _, _, none, 0, none, 0, rfl, hk, hn, by simp, lzero_is _ _, ⟨by simp, Nat.zero_le _⟩, by simp only [LvsAt], ⟨by simp, Nat.zero_le _⟩, by simp only [TmsAt]⟩
theorem LvIs.three {D : Nat → Prop} {w : World} : ∀ {l : Lv} {cs : Array Value}, LvIs D w l cs → ∃ x y z, cs = #[x, y, z]
 | .mk _ _ _, cs, h => by
  simp only [LvIs] at h
  obtain ⟨A, c, rfl, _⟩ := h
  exact ⟨_, _, _, rfl⟩
theorem LvIs.lit3 {D : Nat → Prop} {w : World} : ∀ {l : Lv} {cs : Array Value}, LvIs D w l cs → ∃ (k n : Int) (A : Option Addr) (m c : Nat), cs = #[.int .i64 k, .int .i64 n, .slice A m c]
 | .mk _ _ _, cs, h => by
  simp only [LvIs] at h
  obtain ⟨A, c, rfl, _⟩ := h
  exact ⟨_, _, _, _, _, rfl⟩
theorem run_storeVar_part {P : Program} (w : World) (g o : Nat) (t ty : TypeId) (cur cells new : Array Value) (hg : Blk w g t cur) (hi : (P.info? ty).map (·.size) = some cells.size) (hl : o + cells.size ≤ cur.size)
    (h1 : cells.all (·.oneCell') = true) (hn : new = (cur.toList.take o ++ cells.toList ++ cur.toList.drop (o + cells.size)).toArray) : (storeVar ty ⟨g, o, none⟩ (.agg cells)).run P w = .ok () (w.setRow g new) := by
 have hst := run_storeCells_at P g o t cells.toList 0 cur w hg (by simpa using hl) (fun v hv => (Array.all_eq_true_iff_forall_mem.1 h1) v (by simpa using hv))
 subst hn
 cases hq : P.info? ty with
 | none => simp [hq] at hi
 | some i =>
  have hs : cells.size = i.size := by simp [hq] at hi; omega
  simp only [Nat.add_zero, Array.length_toList] at hst
  simp [storeVar, sizeOf, typeInfo, hq, Value.cells, hs, hst]
theorem wpList_store_part {P : Program} {ops : Array Oper} {rest : List Oper} {o : Oper} {a : Act} {w : World} {Q : Exit → Act → World → Prop} (hgd : o.guard = none) (ty : TypeId) (x y : Operand) (ho : o.op = .store ty x y)
    (g k : Nat) (cells : Array Value) (hx : a.eval x = .pointer (some ⟨g, k, none⟩)) (hy : a.eval y = .agg cells)
    (t : TypeId) (cur new : Array Value) (hg : Blk w g t cur) (hi : (P.info? ty).map (·.size) = some cells.size) (hl : k + cells.size ≤ cur.size)
    (h1 : cells.all (·.oneCell') = true) (hn : new = (cur.toList.take k ++ cells.toList ++ cur.toList.drop (k + cells.size)).toArray)
    (h : wpList P ops Q rest (a.put o.dst undef) (w.setRow g new)) : wpList P ops Q (o :: rest) a w := by
 refine wpList_plain hgd fun K hK => ?_
 have h' := hK _ _ h
 unfold Oper.wp execOp
 simp only [ho, hx, hy, Instr.storeAt, Instr.sureAddr, Sem.run_bind, Sem.run_pure, Result.andThen_ok, run_storeVar_part w g k t ty cur cells new hg hi hl h1 hn]
 exact h'
theorem second_blk (w : World) (o0 o2 : Obj) (cs : Array Value) (t : TypeId) : Blk (((w.alloc o0).alloc (.cells cs t)).alloc o2) (w.heap.size + 1) t cs := by
 have := (Blk.new (w.alloc o0) t cs).alloc o2
 rwa [World.size_alloc] at this
theorem sub_row {w : World} {p : Addr} {cs : Array Value} (h : rowAt w p cs) (k : Nat) (c1 : Array Value) (hc : ∀ j v, c1[j]? = some v → cs[k + j]? = some v) : rowAt w (p.add k) c1 := fun j v hv => by
 rw [Addr_add_add]; exact h _ _ (hc j v hv)
theorem tnode_any (t : Tm) (cs : Array Value) (D : Nat → Prop) (w : World) (hD : Within D w) (ht : TmIs D w t cs) :
    Calls Try.prog 77 #[.agg cs] w fun e w' => ∃ cs', e = .returned (.agg cs') ∧ TmIs (grow D w w') w' (tnode t) cs' ∧ Below w.heap.size w w' := by
 have hz := tm_zero
 obtain ⟨x, y, z, A, c, A', c', rfl, hk, hn, hnm, hlv, hls1, hls, hks1, hks⟩ := ht.lit
 obtain ⟨k, n, nm, lv, ls, ks⟩ := t
 simp only [Tm.k, Tm.n, Tm.nm, Tm.lv, Tm.ls, Tm.ks] at hk hn hnm hlv hls1 hls hks1 hks ht ⊢
 have hzI : InI 0 := by unfold InI; omega
 have hz3 := lv_zero
 by_cases h1 : k = 1
 · subst h1
   have htn : tnode (.mk 1 n nm lv ls ks) = .mk 1 n ByteArray.empty lzero' [] [] := by simp [tnode, Tm.k, Tm.n]
   rw [htn]
   clear htn
   go_enter Try.func77, Try.ntmps77
   go_wp2
   refine bodyPost_ret (results_cell_row rfl _ _ (w.heap.size + 1) 27 #[.int .i64 1, .int .i64 n, .string ByteArray.empty, .int .i64 0, .int .i64 0, .slice none 0 0, .slice none 0 0, .slice none 0 0] (0, 0) _ rfl (second_blk _ _ _ _ _) Try.underlying27 rfl tm_size) rfl ?_
   exact ⟨_, rfl, TmIs.short _ _ hk hn, ((((Upd.refl nob w).alloc _).alloc _).alloc _).below⟩
 by_cases h2 : k = 2
 · subst h2
   have htn : tnode (.mk 2 n nm lv ls ks) = .mk 2 0 ByteArray.empty (lown lv) [] [] := by simp [tnode, Tm.k, Tm.lv]
   rw [htn]
   clear htn
   obtain ⟨W1, hW1⟩ : ∃ W1, ((w.alloc (.cells #[.int .i64 2, .int .i64 n, .string nm, x, y, z, .slice A ls.length c, .slice A' ks.length c'] 27)).alloc (.cells #[.int .i64 0, .int .i64 0, .string ByteArray.empty, .int .i64 0, .int .i64 0, .slice none 0 0, .slice none 0 0, .slice none 0 0] 27)).alloc (.cells #[.int .i64 2, .int .i64 0, .string ByteArray.empty, .int .i64 0, .int .i64 0, .slice none 0 0, .slice none 0 0, .slice none 0 0] 27) = W1 := ⟨_, rfl⟩
   have huW1 : Upd nob w W1 := by rw [← hW1]; exact (((Upd.refl nob w).alloc _).alloc _).alloc _
   have hsW1 : W1.heap.size = w.heap.size + 3 := by rw [← hW1]; simp
   have b0 : Blk W1 (w.heap.size) 27 #[.int .i64 2, .int .i64 n, .string nm, x, y, z, .slice A ls.length c, .slice A' ks.length c'] := by
    rw [← hW1]
    have h := Blk.new (w) 27 #[.int .i64 2, .int .i64 n, .string nm, x, y, z, .slice A ls.length c, .slice A' ks.length c']
    exact (h.alloc _).alloc _
   have b1 : Blk W1 (w.heap.size + 1) 27 #[.int .i64 0, .int .i64 0, .string ByteArray.empty, .int .i64 0, .int .i64 0, .slice none 0 0, .slice none 0 0, .slice none 0 0] := by
    rw [← hW1]
    have h := Blk.new (w.alloc (.cells #[.int .i64 2, .int .i64 n, .string nm, x, y, z, .slice A ls.length c, .slice A' ks.length c'] 27)) 27 #[.int .i64 0, .int .i64 0, .string ByteArray.empty, .int .i64 0, .int .i64 0, .slice none 0 0, .slice none 0 0, .slice none 0 0]
    rw [World.size_alloc] at h
    exact h.alloc _
   have b2 : Blk W1 (w.heap.size + 1 + 1) 27 #[.int .i64 2, .int .i64 0, .string ByteArray.empty, .int .i64 0, .int .i64 0, .slice none 0 0, .slice none 0 0, .slice none 0 0] := by
    rw [← hW1]
    have h := Blk.new ((w.alloc (.cells #[.int .i64 2, .int .i64 n, .string nm, x, y, z, .slice A ls.length c, .slice A' ks.length c'] 27)).alloc (.cells #[.int .i64 0, .int .i64 0, .string ByteArray.empty, .int .i64 0, .int .i64 0, .slice none 0 0, .slice none 0 0, .slice none 0 0] 27)) 27 #[.int .i64 2, .int .i64 0, .string ByteArray.empty, .int .i64 0, .int .i64 0, .slice none 0 0, .slice none 0 0, .slice none 0 0]
    rw [World.size_alloc, World.size_alloc] at h
    exact h
   have HW1 := Lib.hid hW1
   have r0 := sub_row b0.rowAt 3 #[x, y, z] (fun j v hv => by match j, hv with | 0, hv | 1, hv | 2, hv => exact hv | (j + 3), hv => simp at hv)
   have hp := ownlevel_any lv #[x, y, z] D W1 (hD.up huW1) (hlv.old (hD.old huW1) (fun _ h => h))
   clear hW1
   go_enter Try.func77, Try.ntmps77
   rw [← HW1.out] at r0
   go_wp2_with (first
         | ((with_reducible refine this_op (.load 24 (.tmp 18)) ?_); refine wpList_at rfl 24 (.tmp 18) rfl ⟨w.heap.size, 3, none⟩ rfl _ _ r0 Try.underlying24 rfl lv_size ?_))
   rw [HW1.out]
   refine hp.mono ?_
   rintro e w2 ⟨cs2, rfl, hl2, hb2⟩
   have hu2 : Upd nob W1 w2 := Upd.of_below hb2
   obtain ⟨x2, y2, z2, rfl⟩ : ∃ x2 y2 z2, cs2 = #[x2, y2, z2] := hl2.three
   have C1 := b1.upd hu2 (fun f => f)
   have C2 := b2.upd hu2 (fun f => f)
   have hs2 := hl2.oneCell
   clear r0 b0 b1 b2
   have D1 := C1.rowFar (k := w.heap.size + 1 + 1) (by omega) #[.int .i64 2, .int .i64 0, .string ByteArray.empty, x2, y2, z2, .slice none 0 0, .slice none 0 0]
   have r2 := (C2.row #[.int .i64 2, .int .i64 0, .string ByteArray.empty, x2, y2, z2, .slice none 0 0, .slice none 0 0]).rowAt
   go_wp2_with (first
         | ((with_reducible refine this_op (.store 24 (.tmp 21) (.tmp 20)) ?_); refine wpList_store_part rfl 24 (.tmp 21) (.tmp 20) rfl (w.heap.size + 1 + 1) 3 #[x2, y2, z2] rfl rfl 27 _ #[.int .i64 2, .int .i64 0, .string ByteArray.empty, x2, y2, z2, .slice none 0 0, .slice none 0 0] C2 lv_size (by simp) hs2.2 rfl ?_)
         | ((with_reducible refine this_op (.load 27 (.tmp 3)) ?_); refine wpList_at rfl 27 (.tmp 3) rfl ⟨w.heap.size + 1 + 1, 0, none⟩ rfl _ _ r2 Try.underlying27 rfl tm_size ?_)
         | ((with_reducible refine this_op (.store 27 (.tmp 2) (.tmp 42)) ?_); refine wpList_store_row rfl 27 (.tmp 2) (.tmp 42) rfl (w.heap.size + 1) _ rfl rfl 27 _ D1 tm_size rfl (by have := hs2.2; simp [Value.oneCell'] at this ⊢; exact this) ?_))
   refine bodyPost_ret (results_cell_row rfl _ _ (w.heap.size + 1) 27 #[.int .i64 2, .int .i64 0, .string ByteArray.empty, x2, y2, z2, .slice none 0 0, .slice none 0 0] (0, 0) _ rfl (D1.row _) Try.underlying27 rfl tm_size) rfl ?_
   have hfin : Upd (fun q => w.heap.size ≤ q ∧ q < w.heap.size + 3) w2 ((w2.setRow (w.heap.size + 1 + 1) #[.int .i64 2, .int .i64 0, .string ByteArray.empty, x2, y2, z2, .slice none 0 0, .slice none 0 0]).setRow (w.heap.size + 1) #[.int .i64 2, .int .i64 0, .string ByteArray.empty, x2, y2, z2, .slice none 0 0, .slice none 0 0]) :=
    ((Upd.refl _ w2).setRow (.inl ⟨by omega, by omega⟩) _).setRow (.inl ⟨by omega, by omega⟩) _
   have hs3 := hu2.size
   have hsz : ((w2.setRow (w.heap.size + 1 + 1) #[.int .i64 2, .int .i64 0, .string ByteArray.empty, x2, y2, z2, .slice none 0 0, .slice none 0 0]).setRow (w.heap.size + 1) #[.int .i64 2, .int .i64 0, .string ByteArray.empty, x2, y2, z2, .slice none 0 0, .slice none 0 0]).heap.size = w2.heap.size := by simp
   refine ⟨_, rfl, ?_, ((huW1.trans hu2).trans' hfin (fun q hq h => by omega)).below⟩
   simp only [TmIs]
   refine ⟨x2, y2, z2, none, 0, none, 0, rfl, by unfold InI; omega, hzI, by simp, hl2.old (Old.of_upd hfin fun q hq => ?_) (fun q hq => ?_), ⟨by simp, Nat.zero_le _⟩, by simp only [LvsAt], ⟨by simp, Nat.zero_le _⟩, by simp only [TmsAt]⟩
   · rcases hq with hq | hq
     · have := hD q hq; exact ⟨by omega, by omega⟩
     exact ⟨by omega, hq.2⟩
   rcases hq with hq | hq
   · exact .inl hq
   exact .inr ⟨by omega, by omega⟩
 by_cases h7 : k = 7
 · subst h7
   have htn : tnode (.mk 7 n nm lv ls ks) = .mk 7 0 nm lzero' (ls.map lown) [] := by simp [tnode, Tm.k, Tm.nm, Tm.ls]
   rw [htn]
   clear htn h1 h2
   have H1 := Lib.hid ht; clear ht
   have hWS : ∃ W1, ((w.alloc (.cells #[.int .i64 7, .int .i64 n, .string nm, x, y, z, .slice A ls.length c, .slice A' ks.length c'] 27)).alloc (.cells #[.int .i64 0, .int .i64 0, .string ByteArray.empty, .int .i64 0, .int .i64 0, .slice none 0 0, .slice none 0 0, .slice none 0 0] 27)).alloc (.cells #[.int .i64 7, .int .i64 0, .string nm, .int .i64 0, .int .i64 0, .slice none 0 0, .slice none 0 0, .slice none 0 0] 27) = W1 ∧ Upd nob w W1 ∧ W1.heap.size = w.heap.size + 3 ∧ Blk W1 (w.heap.size + 1) 27 #[.int .i64 0, .int .i64 0, .string ByteArray.empty, .int .i64 0, .int .i64 0, .slice none 0 0, .slice none 0 0, .slice none 0 0] ∧ Blk W1 (w.heap.size + 1 + 1) 27 #[.int .i64 7, .int .i64 0, .string nm, .int .i64 0, .int .i64 0, .slice none 0 0, .slice none 0 0, .slice none 0 0] := by
    obtain ⟨W1, hW1⟩ : ∃ W1, ((w.alloc (.cells #[.int .i64 7, .int .i64 n, .string nm, x, y, z, .slice A ls.length c, .slice A' ks.length c'] 27)).alloc (.cells #[.int .i64 0, .int .i64 0, .string ByteArray.empty, .int .i64 0, .int .i64 0, .slice none 0 0, .slice none 0 0, .slice none 0 0] 27)).alloc (.cells #[.int .i64 7, .int .i64 0, .string nm, .int .i64 0, .int .i64 0, .slice none 0 0, .slice none 0 0, .slice none 0 0] 27) = W1 := ⟨_, rfl⟩
    have huW1 : Upd nob w W1 := by rw [← hW1]; exact (((Upd.refl nob w).alloc _).alloc _).alloc _
    have hsW1 : W1.heap.size = w.heap.size + 3 := by rw [← hW1]; simp
    have b0 : Blk W1 (w.heap.size) 27 #[.int .i64 7, .int .i64 n, .string nm, x, y, z, .slice A ls.length c, .slice A' ks.length c'] := by
     rw [← hW1]
     have h := Blk.new (w) 27 #[.int .i64 7, .int .i64 n, .string nm, x, y, z, .slice A ls.length c, .slice A' ks.length c']
     exact (h.alloc _).alloc _
    have b1 : Blk W1 (w.heap.size + 1) 27 #[.int .i64 0, .int .i64 0, .string ByteArray.empty, .int .i64 0, .int .i64 0, .slice none 0 0, .slice none 0 0, .slice none 0 0] := by
     rw [← hW1]
     have h := Blk.new (w.alloc (.cells #[.int .i64 7, .int .i64 n, .string nm, x, y, z, .slice A ls.length c, .slice A' ks.length c'] 27)) 27 #[.int .i64 0, .int .i64 0, .string ByteArray.empty, .int .i64 0, .int .i64 0, .slice none 0 0, .slice none 0 0, .slice none 0 0]
     rw [World.size_alloc] at h
     exact h.alloc _
    have b2 : Blk W1 (w.heap.size + 1 + 1) 27 #[.int .i64 7, .int .i64 0, .string nm, .int .i64 0, .int .i64 0, .slice none 0 0, .slice none 0 0, .slice none 0 0] := by
     rw [← hW1]
     have h := Blk.new ((w.alloc (.cells #[.int .i64 7, .int .i64 n, .string nm, x, y, z, .slice A ls.length c, .slice A' ks.length c'] 27)).alloc (.cells #[.int .i64 0, .int .i64 0, .string ByteArray.empty, .int .i64 0, .int .i64 0, .slice none 0 0, .slice none 0 0, .slice none 0 0] 27)) 27 #[.int .i64 7, .int .i64 0, .string nm, .int .i64 0, .int .i64 0, .slice none 0 0, .slice none 0 0, .slice none 0 0]
     rw [World.size_alloc, World.size_alloc] at h
     exact h
    exact ⟨W1, hW1, huW1, hsW1, b1, b2⟩
   obtain ⟨W1, hW1, hu1, hs1, b1, b2⟩ := hWS
   have HW1 := Lib.hid hW1; clear hW1
   go_enter Try.func77, Try.ntmps77
   go_wp2_with fail
   rw [HW1.out]
   clear HW1
   go_loopg [30] ls.length (fun (q : Nat) v wr => ∃ j : Nat, j + q = ls.length ∧ v = .int .i64 j ∧ ∃ sv, Blk wr (w.heap.size + 1) 27 #[.int .i64 0, .int .i64 0, .string ByteArray.empty, .int .i64 0, .int .i64 0, .slice none 0 0, .slice none 0 0, .slice none 0 0] ∧ Blk wr (w.heap.size + 1 + 1) 27 #[.int .i64 7, .int .i64 0, .string nm, .int .i64 0, .int .i64 0, .slice none 0 0, sv, .slice none 0 0] ∧
    Coll lvR D (w.heap.size + 1 + 1 + 1) 24 wr sv ((ls.take j).map lown) ∧ Upd nob w wr ∧ w.heap.size + 3 ≤ wr.heap.size)
   case atStart => exact ⟨0, by omega, rfl, _, b1, b2, Coll.nil_, hu1, by omega⟩
   case round =>
    clear b1 b2 hu1 hs1
    obtain ⟨j, hj, rfl, sv, c1, c2, hc, hu, hsz⟩ := hrel
    obtain ⟨sA, sc, rfl, hcp⟩ := hc.form
    have hjl : ((ls.take j).map lown).length = j := by simp; omega
    rw [hjl] at c2 hc hcp
    have hED : ∀ x, D x → x < w.heap.size + 1 + 1 + 1 := fun x hx => by have := hD x hx; omega
    rcases Nat.eq_zero_or_pos gk with hk0 | hk0
    · have t2 : decide ((j : Int) < ls.length) = false := by simp; omega
      have hje : j = ls.length := by omega
      clear hj hk0 hjl
      subst hje
      have r2 := c2.rowAt
      have C1 := Lib.hid c1
      have C2 := Lib.hid c2
      clear c1 c2
      go_wp2_with (first
                  | ((with_reducible refine this_op (.load 27 (.tmp 3)) ?_); refine wpList_at rfl 27 (.tmp 3) rfl ⟨w.heap.size + 1 + 1, 0, none⟩ rfl _ _ r2 Try.underlying27 rfl tm_size ?_)
                  | ((with_reducible refine this_op (.store 27 (.tmp 2) (.tmp 42)) ?_); refine wpList_store_row rfl 27 (.tmp 2) (.tmp 42) rfl (w.heap.size + 1) _ rfl rfl 27 _ C1.out tm_size rfl (by simp [Value.oneCell']) ?_))
      have hfin : Upd (fun x => x = w.heap.size + 1) wr (wr.setRow (w.heap.size + 1) #[.int .i64 7, .int .i64 0, .string nm, .int .i64 0, .int .i64 0, .slice none 0 0, .slice sA ls.length sc, .slice none 0 0]) := (Upd.refl (fun x => x = w.heap.size + 1) wr).setRow (.inl rfl) _
      have b9 := C1.out.row #[.int .i64 7, .int .i64 0, .string nm, .int .i64 0, .int .i64 0, .slice none 0 0, .slice sA ls.length sc, .slice none 0 0]
      refine bodyPost_ret (results_cell_row rfl _ _ (w.heap.size + 1) 27 #[.int .i64 7, .int .i64 0, .string nm, .int .i64 0, .int .i64 0, .slice none 0 0, .slice sA ls.length sc, .slice none 0 0] (0, 0) _ rfl b9 Try.underlying27 rfl tm_size) rfl ?_
      refine ⟨_, rfl, ?_, (hu.trans' hfin (fun x hx h => by omega)).below⟩
      have hc9 := hc.upd hfin (fun x hx => ⟨by omega, fun h => by have := hD x h; omega⟩) (fun x h => by have := hD x h; omega)
      obtain ⟨A9, c9, hv9, hcap9, hat⟩ := hc9.lvs (D := grow D w (wr.setRow (w.heap.size + 1) #[.int .i64 7, .int .i64 0, .string nm, .int .i64 0, .int .i64 0, .slice none 0 0, .slice sA ls.length sc, .slice none 0 0])) (fun x hx => hx.elim (fun f => .inl f) fun h => .inr ⟨by omega, h.2⟩)
      rw [List.take_length] at hv9 hat hcap9
      simp only [List.length_map] at hv9 hcap9
      injection hv9 with q1 q2 q3
      subst q1 q3
      simp only [TmIs, List.length_map]
      exact ⟨_, _, _, _, _, none, 0, rfl, hk, hzI, hnm, lzero_is _ _, ⟨hls1.1, hcap9⟩, hat, ⟨by simp, Nat.zero_le _⟩, by simp only [TmsAt]⟩
    have hlt : j < ls.length := by omega
    have t2 : decide ((j : Int) < ls.length) = true := by simp [hlt]
    obtain ⟨a, cs', hA, hab, hrow, hl'⟩ := hls.at_ (List.getElem?_eq_getElem hlt)
    rw [Nat.zero_add] at hrow
    have hrow' := hrow.old (hD.old hu) (by rw [Addr_add_block]; exact hab)
    have hl3 := hl'.old (hD.old hu) (fun _ h => h)
    obtain ⟨x1, y1, z1, z2, z3, rfl⟩ := hl3.lit3
    clear hrow hl'
    have HA := Lib.hid hA
    have C1 := Lib.hid c1
    have C2 := Lib.hid c2
    have HJ := Lib.hid hjl
    have HQ := Lib.hid hj
    clear hA c1 c2 hjl hj
    go_wp2_with (first
                | ((with_reducible refine this_op (.indexAddr 22 (.tmp 28) (.tmp 30)) ?_); refine wpList_index_at rfl 22 (.tmp 28) (.tmp 30) rfl _ a _ _ rfl HA.out j rfl hlt 24 Try.underlying22 3 lv_size ?_)
                | ((with_reducible refine this_op (.load 24 (.tmp 32)) ?_); refine wpList_at rfl 24 (.tmp 32) rfl (a.add (j * 3)) rfl _ _ hrow' Try.underlying24 rfl lv_size ?_))
    obtain ⟨W, hW⟩ : ∃ W, wr.alloc (.cells #[.int .i64 x1, .int .i64 y1, .slice z1 z2 z3] 24) = W := ⟨_, rfl⟩
    have huW : Upd nob wr W := by rw [← hW]; exact (Upd.refl nob wr).alloc _
    have hsW : W.heap.size = wr.heap.size + 1 := by rw [← hW]; simp
    have d5 : Blk W wr.heap.size 24 #[.int .i64 x1, .int .i64 y1, .slice z1 z2 z3] := by rw [← hW]; exact Blk.new _ _ _
    have d2 : Blk W (w.heap.size + 1 + 1) 27 #[.int .i64 7, .int .i64 0, .string nm, .int .i64 0, .int .i64 0, .slice none 0 0, .slice sA j sc, .slice none 0 0] := C2.out.upd huW (fun f => f)
    have e2 : W.cell? ⟨w.heap.size + 1 + 1, 6, none⟩ = some (.slice sA j sc) := d2.cell 6
    rw [hW]
    clear hW
    have D5 := Lib.hid d5
    have D2 := Lib.hid d2
    clear d5 d2
    refine wp_region_P (by kernel_rfl) ?_
    refine wpAny_of_E (fun X : World => ∀ p : Addr, p.block < W.heap.size → X.cell? p = W.cell? p) 5 _ _ _ _ ?_
    have hS : ∀ p : Addr, p.block < W.heap.size → W.drew.cell? p = W.cell? p := fun _ _ => rfl
    refine eT 0 ?_ [1] rfl (by kernel_rfl) (by rfl) ?_ hS ?_
    rotate_left; · intro wx hx; clear hx; go_simp; with_reducible rfl
    try simp only [tl]
    refine eT 1 ?_ [] rfl (by kernel_rfl) (by rfl) ?_ hS ?_
    rotate_left
    · intro wx hx
      have q0 := (hx ⟨w.heap.size + 1 + 1, 6, none⟩ (by show w.heap.size + 1 + 1 < _; omega)).trans e2
      clear hx
      go_simp
      with_reducible rfl
    try simp only [tl]
    refine eT 2 (.agg #[.int .i64 x1, .int .i64 y1, .slice z1 z2 z3]) [3] rfl (by kernel_rfl) (by rfl) ?_ hS ?_
    · intro wx hx
      exact run_load_at 24 (.tmp 5) rfl ⟨wr.heap.size, 0, none⟩ rfl #[.int .i64 x1, .int .i64 y1, .slice z1 z2 z3] _ (row_on D5.out.rowAt (by show wr.heap.size < _; omega) hx) Try.underlying24 rfl lv_size
    try simp only [tl]
    refine wpAnyE_one (i := 3) (by kernel_rfl) (by kernel_rfl) rfl (by rfl) fun K hK => ?_
    go_simp
    refine (ownlevel_any ls[j] _ D W.drew ((hD.up hu).up huW).drew (hl3.old ((hD.up hu).old huW) (fun _ h => h)).drew).mono ?_
    rintro e w5 ⟨cs5, rfl, hl5, hb5⟩
    have hu4 : Upd nob W w5 := ((Upd.refl nob W).drew).trans (Upd.of_below hb5)
    have hu5 : Upd nob W (w5.alloc (.cells cs5 24)) := hu4.alloc _
    have hS : ∀ p : Addr, p.block < W.heap.size → w5.cell? p = W.cell? p := cells_of_upd hu4
    refine hK _ _ hS ?_
    clear hK K; try simp only [tl]
    refine wpAnyE_one (i := 4) (by kernel_rfl) (by kernel_rfl) rfl (by rfl) fun K hK => ?_
    refine owp_build1 22 24 (.tmp 37) rfl _ 3 40 Try.underlying22 lv_info (by decide) (by decide) cs5 rfl hl5.oneCell.1 ?_
    refine hK _ _ (cells_of_upd hu5) ?_
    clear hK K; try simp only [tl]
    have hEw : ∀ x, D x → x < wr.heap.size := fun x hx => by have := hD x hx; omega
    have hc5 : Coll lvR D (w.heap.size + 1 + 1 + 1) 24 (w5.alloc (.cells cs5 24)) (.slice sA j sc) ((ls.take j).map lown) := (hc.upd huW (fun _ f => f.elim) hEw).upd hu5 (fun _ f => f.elim) (fun x h => by have := hEw x h; omega)
    have hin5 : Within (grow D W.drew w5) w5 := fun x hx => hx.elim (fun h => by have := hEw x h; have := hu4.size; omega) (fun h => h.2)
    have hl5' : LvIs (grow D W.drew w5) (w5.alloc (.cells cs5 24)) (lown ls[j]) cs5 := hl5.old (hin5.old ((Upd.refl nob w5).alloc _)) (fun _ h => h)
    have hD5 : ∀ x, grow D W.drew w5 x → cd D (w.heap.size + 1 + 1 + 1) (w5.alloc (.cells cs5 24)) (.slice sA j sc) x := fun x hx => by
     rcases hx with hx | hx
     · refine ⟨.inl hx, fun h => ?_⟩
       have := (hc.lt h).1
       have := hD x hx
       omega
     have h1 : W.heap.size ≤ x := hx.1
     have h2 := hx.2
     refine ⟨.inr ⟨by omega, by simp; omega⟩, fun h => ?_⟩
     have := (hc.lt h).2
     omega
    refine wpAnyE_z (by kernel_rfl) rfl (by rfl) fun K hK => ?_
    refine owp_collect (.tmp 35) (.tmp 38) 22 rfl _ 40 Try.underlying22 lv_info (by kernel_rfl) (by decide) rfl hc5 hED w5.heap.size cs5 (by rfl) (Blk.new _ _ _) (lown ls[j]) _ hl5' hD5 j HJ.out (by omega) (by omega) (by have := hu5.size; omega) ?_
    intro sA6 sc6 w6 hc6 hu6 hat6
    refine hK _ _ ?_
    clear hK K; try simp only [tl]
    refine wpAny_one (i := 6) (by kernel_rfl) rfl (by rfl) fun K hK => ?_
    go_simp
    refine hK _ _ ?_
    clear hK K; try simp only [tl]
    have huW6 : Upd (fun k => (Value.slice sA j sc).ownBlock = some k) W w6 := (hu5.mono (fun _ f => f.elim)).trans hu6
    have g2 : Blk w6 (w.heap.size + 1 + 1) 27 #[.int .i64 7, .int .i64 0, .string nm, .int .i64 0, .int .i64 0, .slice none 0 0, .slice sA j sc, .slice none 0 0] := D2.out.upd huW6 (fun h => by have := (hc.lt h).1; omega)
    have G2 := Lib.hid g2
    have g2c : w6.cell? ⟨w.heap.size + 1 + 1, 6, none⟩ = some (.slice sA j sc) := g2.cell 6
    have g2f := g2.frozen 6
    clear g2
    refine wpAny_one (i := 7) (by kernel_rfl) rfl (by rfl) fun K hK => ?_
    go_simp
    refine hK _ _ ?_
    clear hK K; try simp only [tl]
    refine wpAny_done (by kernel_rfl) ?_ _
    refine NoPanic.normal ?_
    go_wp2_with fail
    go_roundg (gk - 1)
    case measure => omega
    case rel =>
     have hmap : (ls.take (j + 1)).map lown = (ls.take j).map lown ++ [lown ls[j]] := map_take_succ _ _ _ hlt
     have hlt6 := fun g h => hc6.lt (g := g) h
     have hfin : Upd (fun x => (Value.slice sA j sc).ownBlock = some x ∨ x = w.heap.size + 1 + 1) wr (w6.setCell ⟨w.heap.size + 1 + 1, 6, none⟩ (.slice sA6 (j + 1) sc6)) :=
      ((huW.mono (fun _ f => f.elim)).trans (huW6.mono fun _ h => .inl h)).setCell (p := ⟨w.heap.size + 1 + 1, 6, none⟩) (.inl (.inr rfl)) _
     have hnot : ∀ x, x < w.heap.size + 1 + 1 → ¬ ((Value.slice sA j sc).ownBlock = some x ∨ x = w.heap.size + 1 + 1) := fun x hx h => by
      rcases h with h | h
      · have := (hc.lt h).1; omega
      omega
     refine ⟨j + 1, by have := HQ.out; omega, by simp, .slice sA6 (j + 1) sc6, C1.out.upd hfin (hnot _ (by omega)), ?_, ?_, ?_, ?_⟩
     · exact G2.out.set 6 _
     · rw [hmap]
       exact hc6.upd ((Upd.refl (fun x => x = w.heap.size + 1 + 1) w6).setCell (p := ⟨w.heap.size + 1 + 1, 6, none⟩) (.inl rfl) _) (fun x hx => ⟨by omega, fun h => by have := hD x h; omega⟩) (fun x h => by have := hD x h; have := hfin.size; simp at this; omega)
     · exact hu.trans' hfin (fun x hx h => hnot x (by omega) h)
     have := hfin.size; omega
 have e1 : (k == 1) = false := by simpa using h1
 have e2 : (k == 2) = false := by simpa using h2
 have e7 : (k == 7) = false := by simpa using h7
 have htn : tnode (.mk k n nm lv ls ks) = .mk k 0 ByteArray.empty lzero' [] [] := by simp [tnode, Tm.k, h1, h2, h7]
 rw [htn]
 clear htn h1 h2 h7
 go_enter Try.func77, Try.ntmps77
 go_wp2
 refine bodyPost_ret (results_cell_row rfl _ _ (w.heap.size + 1) 27 #[.int .i64 k, .int .i64 0, .string ByteArray.empty, .int .i64 0, .int .i64 0, .slice none 0 0, .slice none 0 0, .slice none 0 0] (0, 0) _ rfl (second_blk _ _ _ _ _) Try.underlying27 rfl tm_size) rfl ?_
 exact ⟨_, rfl, TmIs.short _ _ hk hzI, ((((Upd.refl nob w).alloc _).alloc _).alloc _).below⟩
end Go.Proofs.Ytiampoebdmflgaa
/- The reference's small functions of terms and levels. -/
namespace Go.Proofs.Ytiampoebdmflgaa
open Go.RowKit
set_option linter.unusedVariables false
set_option maxRecDepth 100000
set_option maxHeartbeats 4000000
set_option linter.unusedSimpArgs false
theorem rkids_any (k : Int) (w : World) : Calls Try.prog 68 #[.int .i64 k] w fun e w' => e = .returned (.int .i64 (tar k)) ∧ w' = w := by
 unfold tar
 by_cases h1 : k = 1
 · subst h1
   go_enter Try.func68, Try.ntmps68
   go_wp2
   go_ret
   exact ⟨rfl, rfl⟩
 have e1 : (k == 1) = false := by simpa using h1
 by_cases h2 : k = 2
 · subst h2
   go_enter Try.func68, Try.ntmps68
   go_wp2
   go_ret
   exact ⟨rfl, rfl⟩
 have e2 : (k == 2) = false := by simpa using h2
 by_cases h7 : k = 7
 · subst h7
   go_enter Try.func68, Try.ntmps68
   go_wp2
   go_ret
   exact ⟨rfl, rfl⟩
 have e7 : (k == 7) = false := by simpa using h7
 by_cases h3 : k = 3
 · subst h3
   go_enter Try.func68, Try.ntmps68
   go_wp2
   go_ret
   exact ⟨rfl, rfl⟩
 have e3 : (k == 3) = false := by simpa using h3
 by_cases h4 : k = 4
 · subst h4
   go_enter Try.func68, Try.ntmps68
   go_wp2
   go_ret
   exact ⟨rfl, rfl⟩
 have e4 : (k == 4) = false := by simpa using h4
 by_cases h6 : k = 6
 · subst h6
   go_enter Try.func68, Try.ntmps68
   go_wp2
   go_ret
   exact ⟨rfl, rfl⟩
 have e6 : (k == 6) = false := by simpa using h6
 by_cases h5 : k = 5
 · subst h5
   go_enter Try.func68, Try.ntmps68
   go_wp2
   go_ret
   exact ⟨rfl, rfl⟩
 have e5 : (k == 5) = false := by simpa using h5
 rw [if_neg h1, if_neg h2, if_neg h7, if_neg h3, if_neg h4, if_neg h6, if_neg h5]
 go_enter Try.func68, Try.ntmps68
 go_wp2
 go_ret
 exact ⟨rfl, rfl⟩
theorem rarity_any (k : Int) (w : World) : Calls Try.prog 67 #[.int .i64 k] w fun e w' => e = .returned (.int .i64 (lar k)) ∧ w' = w := by
 unfold lar
 by_cases h1 : k = 1
 · subst h1
   go_enter Try.func67, Try.ntmps67
   go_wp2
   go_ret
   exact ⟨rfl, rfl⟩
 have e1 : (k == 1) = false := by simpa using h1
 by_cases h2 : k = 2
 · subst h2
   go_enter Try.func67, Try.ntmps67
   go_wp2
   go_ret
   exact ⟨rfl, rfl⟩
 have e2 : (k == 2) = false := by simpa using h2
 by_cases h3 : k = 3
 · subst h3
   go_enter Try.func67, Try.ntmps67
   go_wp2
   go_ret
   exact ⟨rfl, rfl⟩
 have e3 : (k == 3) = false := by simpa using h3
 by_cases h4 : k = 4
 · subst h4
   go_enter Try.func67, Try.ntmps67
   go_wp2
   go_ret
   exact ⟨rfl, rfl⟩
 have e4 : (k == 4) = false := by simpa using h4
 rw [if_neg h1, if_neg h2, if_neg h3, if_neg h4]
 go_enter Try.func67, Try.ntmps67
 go_wp2
 go_ret
 exact ⟨rfl, rfl⟩
def rlf (k : Int) (m : Nat) : Bool := decide (tar k < 0) || decide ((m : Int) < tar k)
def Tm.rleaf (t : Tm) : Bool := rlf t.k t.ks.length
theorem rleaf_any (t : Tm) (cs : Array Value) (D : Nat → Prop) (w : World) (ht : TmIs D w t cs) :
    Calls Try.prog 43 #[.agg cs] w fun e w' => e = .returned (.bool t.rleaf) ∧ Below w.heap.size w w' := by
 obtain ⟨x, y, z, A, c, A', c', rfl, _, _, _, _, _, _, _, _⟩ := ht.lit
 obtain ⟨R, hR⟩ : ∃ R, t.rleaf = R := ⟨_, rfl⟩
 have hR2 : (decide (tar t.k < 0) || decide ((t.ks.length : Int) < tar t.k)) = R := hR
 rw [hR]
 have HR := Lib.hid hR2; clear hR hR2 ht
 obtain ⟨m, hm⟩ : ∃ m, t.ks.length = m := ⟨_, rfl⟩
 obtain ⟨k, hk⟩ : ∃ k, t.k = k := ⟨_, rfl⟩
 rw [hm, hk] at HR ⊢
 clear hm hk
 obtain ⟨q, hq⟩ : ∃ q, tar k = q := ⟨_, rfl⟩
 have hTA : ∀ wx : World, Calls Try.prog 68 #[.int .i64 k] wx fun e w' => e = .returned (.int .i64 q) ∧ w' = wx := fun wx => hq ▸ rkids_any k wx
 rw [hq] at HR
 have TA := Lib.hid hTA; clear hTA hq
 by_cases h1 : q < 0
 · have t1 : decide (q < 0) = true := by simpa using h1
   obtain rfl : true = R := by rw [← HR.out]; simp [h1]
   go_enter Try.func43, Try.ntmps43
   go_wp2
   go_quiet ((go_at_call 68; exact Calls.quiet_of_same (TA.out _)))
   go_wp2
   go_ret
   exact ⟨rfl, below_drewN ((Below.refl _ _).alloc (Nat.le_refl _) _) _⟩
 have t1 : decide (q < 0) = false := by simpa using h1
 obtain rfl : decide ((m : Int) < q) = R := by rw [← HR.out]; simp [h1]
 go_enter Try.func43, Try.ntmps43
 go_wp2
 go_quiet ((go_at_call 68; exact Calls.quiet_of_same (TA.out _)))
 go_wp2
 go_ret
 exact ⟨rfl, below_drewN ((Below.refl _ _).alloc (Nat.le_refl _) _) _⟩
theorem rconst_any (nm : ByteArray) (hnm : nm.size ≤ 140737488351232) (ls : List Lv) (A : Option Addr) (c : Nat) (D : Nat → Prop) (w : World) (hD : Within D w) (hlen : ls.length * 40 ≤ 140737488351232 ∧ ls.length ≤ c) (hls : LvsAt D w ls A 0) :
    Calls Try.prog 19 #[.string nm, .slice A ls.length c] w fun e w' => ∃ cs', e = .returned (.agg cs') ∧ TmIs D w' (.mk 7 0 nm lzero' ls []) cs' ∧ Below w.heap.size w w' := by
 have hz := tm_zero
 have HLS := Lib.hid (hls.old (hD.old ((Upd.refl nob w).alloc (.cells #[.int .i64 7, .int .i64 0, .string nm, .int .i64 0, .int .i64 0, .slice none 0 0, .slice A ls.length c, .slice none 0 0] 27))) (fun _ h => h))
 clear hls
 go_enter Try.func19, Try.ntmps19
 go_wp2
 refine bodyPost_ret (results_cell_row rfl _ _ w.heap.size 27 #[.int .i64 7, .int .i64 0, .string nm, .int .i64 0, .int .i64 0, .slice none 0 0, .slice A ls.length c, .slice none 0 0] (0, 0) _ rfl (Blk.new _ _ _) Try.underlying27 rfl tm_size) rfl ?_
 refine ⟨_, rfl, ?_, (Below.refl _ _).alloc (Nat.le_refl _) _⟩
 simp only [TmIs]
 exact ⟨_, _, _, A, c, none, 0, rfl, by unfold InI; omega, by unfold InI; omega, hnm, lzero_is _ _, hlen, HLS.out, ⟨by simp, Nat.zero_le _⟩, by simp only [TmsAt]⟩
end Go.Proofs.Ytiampoebdmflgaa
/- The reference's Bind. -/
namespace Go.Proofs.Ytiampoebdmflgaa
open Go.RowKit
set_option linter.unusedVariables false
set_option maxRecDepth 100000
set_option maxHeartbeats 4000000
set_option linter.unusedSimpArgs false
theorem two_rows (c1 c2 : Array Value) (w : World) (g : Nat) (t : TypeId) (h : Blk w g t (c1 ++ c2)) (h1 : c1.size = 8) : rowAt w ((⟨g, 0, none⟩ : Addr).add (0 * 8)) c1 ∧ rowAt w ((⟨g, 0, none⟩ : Addr).add (1 * 8)) c2 := by
 refine ⟨sub_row h.rowAt _ _ fun j v hv => ?_, sub_row h.rowAt _ _ fun j v hv => ?_⟩
 · have hj : j < c1.size := (Array.getElem?_eq_some_iff.1 hv).1
   rw [Nat.zero_mul, Nat.zero_add, Array.getElem?_append_left hj]; exact hv
 rw [Array.getElem?_append_right (by omega), h1, Nat.one_mul, Nat.add_sub_cancel_left]; exact hv
theorem rbind_any (k : Int) (hk : InI k) (x y : Tm) (ca cb : Array Value) (D : Nat → Prop) (w : World) (hD : Within D w) (ha : TmIs D w x ca) (hb : TmIs D w y cb) :
    Calls Try.prog 18 #[.int .i64 k, .agg ca, .agg cb] w fun e w' => ∃ cs', e = .returned (.agg cs') ∧ TmIs (grow D w w') w' (.mk k 0 ByteArray.empty lzero' [] [x, y]) cs' ∧ Below w.heap.size w w' := by
 have hz := tm_zero
 have HA := Lib.hid ha
 have HB := Lib.hid hb
 obtain ⟨x1, y1, z1, A1, c1, A2, c2, hca, _, _, _, _, _, _, _, _⟩ := ha.lit
 obtain ⟨x2, y2, z2, B1, d1, B2, d2, hcb, _, _, _, _, _, _, _, _⟩ := hb.lit
 clear ha hb
 subst hca; subst hcb
 have hb1 := Blk.new (w.alloc (.cells #[.int .i64 x.k, .int .i64 x.n, .string x.nm, x1, y1, z1, .slice A1 x.ls.length c1, .slice A2 x.ks.length c2] 27) |>.alloc (.cells #[.int .i64 y.k, .int .i64 y.n, .string y.nm, x2, y2, z2, .slice B1 y.ls.length d1, .slice B2 y.ks.length d2] 27))
  27 #[.int .i64 k, .int .i64 0, .string ByteArray.empty, .int .i64 0, .int .i64 0, .slice none 0 0, .slice none 0 0, .slice (some ⟨w.heap.size + 1 + 1 + 1, 0, none⟩) 2 2]
 have hb2 := hb1.alloc (.cells #[.int .i64 x.k, .int .i64 x.n, .string x.nm, x1, y1, z1, .slice A1 x.ls.length c1, .slice A2 x.ks.length c2, .int .i64 y.k, .int .i64 y.n, .string y.nm, x2, y2, z2, .slice B1 y.ls.length d1, .slice B2 y.ks.length d2] 27)
 have hb3 := Blk.new (((w.alloc (.cells #[.int .i64 x.k, .int .i64 x.n, .string x.nm, x1, y1, z1, .slice A1 x.ls.length c1, .slice A2 x.ks.length c2] 27)).alloc (.cells #[.int .i64 y.k, .int .i64 y.n, .string y.nm, x2, y2, z2, .slice B1 y.ls.length d1, .slice B2 y.ks.length d2] 27)).alloc
  (.cells #[.int .i64 k, .int .i64 0, .string ByteArray.empty, .int .i64 0, .int .i64 0, .slice none 0 0, .slice none 0 0, .slice (some ⟨w.heap.size + 1 + 1 + 1, 0, none⟩) 2 2] 27)) 27
  (#[.int .i64 x.k, .int .i64 x.n, .string x.nm, x1, y1, z1, .slice A1 x.ls.length c1, .slice A2 x.ks.length c2] ++ #[.int .i64 y.k, .int .i64 y.n, .string y.nm, x2, y2, z2, .slice B1 y.ls.length d1, .slice B2 y.ks.length d2])
 simp only [World.size_alloc] at hb1 hb2 hb3
 obtain ⟨r1, r2⟩ := two_rows _ _ _ _ _ hb3 rfl
 have HR1 := Lib.hid r1
 have HR2 := Lib.hid r2
 have HB2 := Lib.hid hb2
 clear hb1 hb2 hb3 r1 r2
 go_enter Try.func18, Try.ntmps18
 go_wp2_with fail
 have hu : Upd nob w ((((w.alloc (.cells #[.int .i64 x.k, .int .i64 x.n, .string x.nm, x1, y1, z1, .slice A1 x.ls.length c1, .slice A2 x.ks.length c2] 27)).alloc (.cells #[.int .i64 y.k, .int .i64 y.n, .string y.nm, x2, y2, z2, .slice B1 y.ls.length d1, .slice B2 y.ks.length d2] 27)).alloc
  (.cells #[.int .i64 k, .int .i64 0, .string ByteArray.empty, .int .i64 0, .int .i64 0, .slice none 0 0, .slice none 0 0, .slice (some ⟨w.heap.size + 1 + 1 + 1, 0, none⟩) 2 2] 27)).alloc
  (.cells #[.int .i64 x.k, .int .i64 x.n, .string x.nm, x1, y1, z1, .slice A1 x.ls.length c1, .slice A2 x.ks.length c2, .int .i64 y.k, .int .i64 y.n, .string y.nm, x2, y2, z2, .slice B1 y.ls.length d1, .slice B2 y.ks.length d2] 27)) :=
  ((((Upd.refl nob w).alloc _).alloc _).alloc _).alloc _
 refine bodyPost_ret (results_cell_row rfl _ _ (w.heap.size + 1 + 1) 27 _ (0, 0) _ rfl HB2.out Try.underlying27 rfl tm_size) rfl ?_
 have hg : grow D w ((((w.alloc (.cells #[.int .i64 x.k, .int .i64 x.n, .string x.nm, x1, y1, z1, .slice A1 x.ls.length c1, .slice A2 x.ks.length c2] 27)).alloc (.cells #[.int .i64 y.k, .int .i64 y.n, .string y.nm, x2, y2, z2, .slice B1 y.ls.length d1, .slice B2 y.ks.length d2] 27)).alloc
  (.cells #[.int .i64 k, .int .i64 0, .string ByteArray.empty, .int .i64 0, .int .i64 0, .slice none 0 0, .slice none 0 0, .slice (some ⟨w.heap.size + 1 + 1 + 1, 0, none⟩) 2 2] 27)).alloc
  (.cells #[.int .i64 x.k, .int .i64 x.n, .string x.nm, x1, y1, z1, .slice A1 x.ls.length c1, .slice A2 x.ks.length c2, .int .i64 y.k, .int .i64 y.n, .string y.nm, x2, y2, z2, .slice B1 y.ls.length d1, .slice B2 y.ks.length d2] 27)) (w.heap.size + 1 + 1 + 1) :=
  .inr ⟨by omega, by simp only [World.size_alloc]; omega⟩
 refine ⟨_, rfl, ?_, hu.below⟩
 simp only [TmIs]
 refine ⟨_, _, _, none, 0, some ⟨w.heap.size + 1 + 1 + 1, 0, none⟩, 2, rfl, hk, by unfold InI; omega, by simp, lzero_is _ _, ⟨by simp, Nat.zero_le _⟩, by simp only [LvsAt], ⟨by simp, by simp⟩, ?_⟩
 simp only [TmsAt]
 exact ⟨⟨_, _, rfl, hg, HR1.out, HA.out.old (hD.old hu) (fun _ h => .inl h)⟩, ⟨_, _, rfl, hg, HR2.out, HB.out.old (hD.old hu) (fun _ h => .inl h)⟩, trivial⟩
end Go.Proofs.Ytiampoebdmflgaa
/- Two operations of a drawn region in either order; a drawn region within a round, walked as outside. -/
namespace Go.Proofs.Ytiampoebdmflgaa
open Go.RowKit
set_option linter.unusedVariables false
variable {P : Program} {ops : Array Oper} {Q : Exit → Act → World → Prop} {md : Region.Mode} {ro : Option Nat} {S : World → Prop}
theorem wpIn_region_P {id : Nat} {a : Act} {w : World} (hm : P.follows .mixedOrders = true) (hQ : ∀ a w, ¬ Q .outgrown a w) (hd : noDefer ops = true)
    (h : wpAny P .any ops (NoPanic Q) ops.size (Array.replicate ops.size false) a { w with drawn := w.drawn + 1 }) : (Code.region id ops true).wpIn { Fence.wide with round := ro } 0 P Q a w := by
 have h2 : (Code.region id ops true).wpIn { Fence.wide with round := ro } 0 P (NoPanic Q) a w := wpIn_region_any hm (wpAnyIn_of (Q := NoPanic Q) (fun a w h => hQ a w h) (noDefer_spec hd) _ _ _ _ h)
 exact Code.wpIn_mono NoPanic.imp h2
theorem wpAnyE_two {z i j : Nat} {oi oj : Oper} {fuel : Nat} {listed : Array Bool} {a : Act} {w : World} (T : Value → Value → World → Prop) (hr : Region.ready md ops listed = [i, j])
    (hri : Region.ready md ops (listed.setIfInBounds i true) = [j]) (hrj : Region.ready md ops (listed.setIfInBounds j true) = [i]) (hiz : (i == z) = false) (hjz : (j == z) = false) (hij : (i == j) = false)
    (hoi : ops[i]? = some oi) (hoj : ops[j]? = some oj) (hgi : ∀ y, Region.wanted oi y = true) (hgj : ∀ y, Region.wanted oj y = true) (hd : ∀ v u, (a.put oj.dst u).put oi.dst v = (a.put oi.dst v).put oj.dst u)
    (h1 : ∀ K : Act → World → Prop, (∀ v w1, S w1 → (∀ K' : Act → World → Prop, (∀ u w2, S w2 → T v u w2 → K' ((a.put oi.dst v).put oj.dst u) w2) → oj.wp P (a.put oi.dst v) w1 K' Q) → K (a.put oi.dst v) w1) → oi.wp P a w K Q)
    (h2 : ∀ K : Act → World → Prop, (∀ u w1, S w1 → (∀ K' : Act → World → Prop, (∀ v w2, S w2 → T v u w2 → K' ((a.put oj.dst u).put oi.dst v) w2) → oi.wp P (a.put oj.dst u) w1 K' Q) → K (a.put oj.dst u) w1) → oj.wp P a w K Q)
    (ht : ∀ v u w2, S w2 → T v u w2 → wpAnyE P md ops Q S z fuel ((listed.setIfInBounds i true).setIfInBounds j true) ((a.put oi.dst v).put oj.dst u) w2) : wpAnyE P md ops Q S z (fuel + 1 + 1) listed a w := by
 have hi' : i ≠ z := by simpa using hiz
 have hj' : j ≠ z := by simpa using hjz
 have hij' : i ≠ j := by simpa using hij
 refine ⟨fun h => (by rw [hr] at h; cases h), fun q hq => ?_⟩
 rw [hr] at hq
 rcases List.mem_cons.1 hq with rfl | hq
 · unfold wpOp
   rw [hoi]
   simp only [hgi, if_true]
   exact .inl (h1 _ fun v w1 hS hK => ⟨fun _ => ⟨hS, wpAnyE_one hri hjz hoj (hgj _) fun K hK2 => hK K fun u w2 hS2 hT => hK2 _ _ hS2 (ht v u w2 hS2 hT)⟩, fun h => absurd h hi'⟩)
 obtain rfl : q = j := by simpa using hq
 unfold wpOp
 rw [hoj]
 simp only [hgj, if_true]
 refine .inl (h2 _ fun u w1 hS hK => ⟨fun _ => ⟨hS, wpAnyE_one hrj hiz hoi (hgi _) fun K hK2 => hK K fun v w2 hS2 hT => hK2 _ _ hS2 ?_⟩, fun h => absurd h hj'⟩)
 rw [hd, Array.setIfInBounds_comm _ _ (Ne.symm hij')]
 exact ht v u w2 hS2 hT
theorem wpAnyH_last2 {i j : Nat} {oi oj : Oper} {fuel : Nat} {listed : Array Bool} {a : Act} {w : World} (hr : Region.ready md ops listed = [i, j])
    (hri : Region.ready md ops (listed.setIfInBounds i true) = [j]) (hrj : Region.ready md ops (listed.setIfInBounds j true) = [i])
    (hdi : Region.ready md ops ((listed.setIfInBounds i true).setIfInBounds j true) = []) (hdj : Region.ready md ops ((listed.setIfInBounds j true).setIfInBounds i true) = [])
    (hoi : ops[i]? = some oi) (hoj : ops[j]? = some oj) (hgi : ∀ y, Region.wanted oi y = true) (hgj : ∀ y, Region.wanted oj y = true)
    (h1 : ∀ K : Act → World → Prop, (∀ a1 w1, (∀ K' : Act → World → Prop, (∀ a2 w2, Q .normal a2 w2 → K' a2 w2) → oj.wp P a1 w1 K' Q) → K a1 w1) → oi.wp P a w K Q)
    (h2 : ∀ K : Act → World → Prop, (∀ a1 w1, (∀ K' : Act → World → Prop, (∀ a2 w2, Q .normal a2 w2 → K' a2 w2) → oi.wp P a1 w1 K' Q) → K a1 w1) → oj.wp P a w K Q) : wpAnyH P md ops Q (fun _ => True) (fuel + 1 + 1) listed a w := by
 refine wpAnyH_all hr (by simp) fun q hq => ?_
 rcases List.mem_cons.1 hq with rfl | hq
 · unfold wpOp
   rw [hoi]
   simp only [hgi, if_true]
   refine .inl (h1 _ fun a1 w1 hK => ⟨trivial, wpAnyH_all hri (by simp) fun q' hq' => ?_⟩)
   obtain rfl : q' = j := by simpa using hq'
   unfold wpOp
   rw [hoj]
   simp only [hgj, if_true]
   exact .inl (hK _ fun a2 w2 hQ => ⟨trivial, wpAnyH_done hdi hQ _⟩)
 obtain rfl : q = j := by simpa using hq
 unfold wpOp
 rw [hoj]
 simp only [hgj, if_true]
 refine .inl (h2 _ fun a1 w1 hK => ⟨trivial, wpAnyH_all hrj (by simp) fun q' hq' => ?_⟩)
 obtain rfl : q' = i := by simpa using hq'
 unfold wpOp
 rw [hoi]
 simp only [hgi, if_true]
 exact .inl (hK _ fun a2 w2 hQ => ⟨trivial, wpAnyH_done hdj hQ _⟩)
end Go.Proofs.Ytiampoebdmflgaa
/- Drawn regions held (OrdersHeld): one alone. -/
namespace Go.Proofs.Ytiampoebdmflgaa
open Go.RowKit
set_option linter.unusedVariables false
variable {P : Program} {ops : Array Oper} {Q : Exit → Act → World → Prop} {md : Region.Mode} {S : World → Prop}
theorem wpAnyH_alone {i : Nat} {o : Oper} {fuel : Nat} {listed : Array Bool} {a : Act} {w : World} (hr : Region.ready md ops listed = [i]) (ho : ops[i]? = some o) (hg : Region.wanted o (yielded ops a.tmps) = true)
    (h : ∀ K : Act → World → Prop, (∀ a' w', S w' → wpAnyH P md ops Q S fuel (listed.setIfInBounds i true) a' w' → K a' w') → o.wp P a w K Q) : wpAnyH P md ops Q S (fuel + 1) listed a w := by
 refine wpAnyH_all hr (by simp) fun q hq => ?_
 obtain rfl : q = i := by simpa using hq
 unfold wpOp
 rw [ho]
 simp only [hg, if_true]
 exact .inl (h _ fun a' w' hS h => ⟨hS, h⟩)
end Go.Proofs.Ytiampoebdmflgaa
