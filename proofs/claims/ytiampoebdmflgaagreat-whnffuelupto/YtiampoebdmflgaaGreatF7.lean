/- (machine).iota. -/
import Derived.Test.YtiampoebdmflgaaGreatF6
namespace Go.Proofs.YtiampoebdmflgaaGreat
open Go.RowKit
set_option linter.unusedVariables false
set_option maxRecDepth 100000
set_option maxHeartbeats 8000000
set_option linter.unusedSimpArgs false
theorem MacIs.drew' {w : World} {mb : Nat} {ev : Value} {f : Nat} (h : MacIs w mb ev f) : MacIs w.drew mb ev f := h
theorem iota_any (G : List Glb) (ev : Value) (mb fuel : Nat) (g : Glb) (gcs : Array Value) (gb : Nat) (h : Tm) (hcs : Array Value) (args : List Tm) (A : Option Addr) (c : Nat) (D : Nat → Prop) (w : World) (hD : Within D w) (hmb : ¬ D mb) (hmw : mb < w.heap.size) (hE : EnvV D w ev G)
    (hgD : D gb) (hg : Blk w gb 50 gcs) (hgl : GlIs D w g gcs) (hh : TmIs D w h hcs) (hargs : TmsAt D w args A 0) (hal : args.length * 120 ≤ 140737488351232 ∧ args.length ≤ c) (hM : MacIs w mb ev fuel) (hN2 : args.length ≤ 2000) (hrec : ∀ x ∈ args, WhnfC G ev mb fuel x) :
    Calls Tryz.prog 92 #[.pointer (some ⟨mb, 0, none⟩), .pointer (some ⟨gb, 0, none⟩), .agg hcs, .slice A args.length c] w fun e w' => ∃ (n f1 : Nat) (nx : Nx) (err : Int) (fv : Value), wiota G (fun f x => wwhnf G n f x) fuel g h args = some (f1, nx, err) ∧
     e = .returned (.tuple #[fv, .int .i64 err]) ∧ NextIs (grow D w w') w' fv nx ∧ MacIs w' mb ev f1 ∧ Upd (fun q => q = mb) w w' ∧ f1 ≤ fuel := by
 have hz := tm_zero
 obtain ⟨hp, hq, hB, hm, hd, hE_, hx, hE', hx', rfl⟩ := hh.lit8
 obtain ⟨N, hN⟩ : ∃ N, args.length = N := ⟨_, rfl⟩
 rw [hN] at hal hN2
 rw [hN]
 have HN := Lib.hid hN
 have hal1 := hal.1
 have hal2 := hal.2
 obtain ⟨W1, hW1⟩ : ∃ W1, (w.alloc (.cells #[.pointer (some ⟨gb, 0, none⟩)] 88)).alloc (.cells #[.int .i64 h.k, .int .i64 h.n, .string h.nm, .int .i64 hp, .int .i64 hq, .slice hB hm hd, .slice hE_ h.ls.length hx, .slice hE' h.ks.length hx'] 28) = W1 := ⟨_, rfl⟩
 have huW1 : Upd nob w W1 := by rw [← hW1]; exact ((Upd.refl nob w).alloc _).alloc _
 have hsW1 : W1.heap.size = w.heap.size + 2 := by rw [← hW1]; simp
 have b0 : Blk W1 (w.heap.size) 88 #[.pointer (some ⟨gb, 0, none⟩)] := by
  rw [← hW1]
  have h := Blk.new (w) 88 #[.pointer (some ⟨gb, 0, none⟩)]
  exact h.alloc _
 have b1 : Blk W1 (w.heap.size + 1) 28 #[.int .i64 h.k, .int .i64 h.n, .string h.nm, .int .i64 hp, .int .i64 hq, .slice hB hm hd, .slice hE_ h.ls.length hx, .slice hE' h.ks.length hx'] := by
  rw [← hW1]
  have h := Blk.new (w.alloc (.cells #[.pointer (some ⟨gb, 0, none⟩)] 88)) 28 #[.int .i64 h.k, .int .i64 h.n, .string h.nm, .int .i64 hp, .int .i64 hq, .slice hB hm hd, .slice hE_ h.ls.length hx, .slice hE' h.ks.length hx']
  rw [World.size_alloc] at h
  exact h
 have HW1 := Lib.hid hW1
 have HB5 := Lib.hid b0
 have HB6 := Lib.hid b1
 have hD1 := hD.up huW1
 have HG1 := Lib.hid (hg.upd huW1 (fun f => f))
 have HG0 := Lib.hid hg
 have HGL := Lib.hid hgl
 have HM1 := Lib.hid (show MacIs W1 mb ev fuel from Blk.upd hM huW1 (fun f => f))
 have HH := Lib.hid hh
 have HA := Lib.hid hargs
 have HE := Lib.hid hE
 have hcall := wmajor_any g gcs gb N D W1 HG1.out (hgl.old (hD.old huW1) (fun _ h => h)) (by omega)
 obtain ⟨at_, hat⟩ : ∃ a, wmajor g.params g.minors g.indices N = a := ⟨_, rfl⟩
 rw [hat] at hcall
 have HAT := Lib.hid hat
 have HC := Lib.hid hcall
 have hrow5 := b0.rowAt
 clear hW1 b0 b1 hg hgl hM hh hargs hE hcall hat hN
 go_enter Tryz.func92, Tryz.ntmps92
 go_wp2_with fail
 rw [HW1.out]
 refine HC.out.mono ?_
 rintro e w2 ⟨rfl, hb2⟩
 have hu2 : Upd nob W1 w2 := Upd.of_below hb2
 have hu02 := huW1.trans hu2
 by_cases hneg : at_ < 0
 · have e1 : (at_ < 0) = True := eq_true hneg
   have hres : ∀ n, wiota G (fun f x => wwhnf G n f x) fuel g h args = some (fuel, none, 0) := fun n => by unfold wiota; rw [HN.out, HAT.out, if_pos hneg]
   have HR := Lib.hid hres
   clear hneg hres
   go_wp2_with fail
   go_ret2
   exact ⟨0, fuel, none, 0, _, HR.out 0, rfl, .inl ⟨rfl, rfl⟩, Blk.upd HM1.out hu2 (fun f => f), hu02.mono (fun _ f => f.elim), Nat.le_refl _⟩
 have e1 : (at_ < 0) = False := eq_false hneg
 have hmj := wmajor_lt (p := g.params) (m := g.minors) (i := g.indices) (n := N) (by rw [HAT.out]; exact hneg)
 rw [HAT.out] at hmj
 obtain ⟨hp0, hm0, hi0, hat2, hat3⟩ := hmj
 obtain ⟨j, hj⟩ : ∃ j : Nat, at_ = j := ⟨at_.toNat, by omega⟩
 subst hj
 have hjN : j < N := by omega
 have hjl : j < args.length := by rw [HN.out]; exact hjN
 obtain ⟨x, hx0⟩ : ∃ x, args[j]? = some x := ⟨_, List.getElem?_eq_getElem hjl⟩
 obtain ⟨aa, xcs, hAa, haD, hxr, hxt⟩ := HA.out.at_ hx0
 rw [Nat.zero_add] at hxr
 have hxr2 : rowAt w2 (aa.add (j * 8)) xcs := hxr.old (hD.old hu02) (by rw [Addr_add_block]; exact haD)
 have hxs := hxt.oneCell
 have hsix : (Tryz.prog.info? 28).map (·.size) = some xcs.size := by rw [hxs.1]; exact tm_size
 have HAa := Lib.hid hAa
 have HX0 := Lib.hid hx0
 have hwc := hrec x (List.mem_of_getElem? hx0) D w2 xcs (hD.up hu02) hmb (HE.out.old (hD.old hu02) (fun _ h => h)) (hxt.old (hD.old hu02) (fun _ h => h)) (Blk.upd HM1.out hu2 (fun f => f))
 have HWC := Lib.hid hwc
 have hE1 := Lib.hid hat2
 clear hAa hxr hxt hx0 hneg hwc hat2
 go_wp2_with (first
  | (refine wpList_index_at rfl 26 (.tmp 27) (.tmp 28) rfl _ aa _ _ rfl HAa.out j rfl hjN 28 Tryz.underlying26 8 tm_size ?_)
  | ((with_reducible refine this_op (.load 28 (.tmp 29)) ?_); refine wpList_at rfl 28 (.tmp 29) rfl (aa.add (j * 8)) rfl _ _ hxr2 Tryz.underlying28 rfl hsix ?_))
 refine HWC.out.mono ?_
 rintro e w3 ⟨n, u, err, left, ucs, hw3, rfl, hut, hM3, hu3, hlef⟩
 obtain ⟨up, uq, uB, um, ud, uE, ux, uE', ux', rfl⟩ := hut.lit8
 have hu03 : Upd (fun q => q = mb) w w3 := (hu02.mono (fun _ f => f.elim)).trans hu3
 have hD3 : Within (grow D w2 w3) w3 := (hD.up hu02).grow hu3.size
 have hz2 := hu02.size
 have hz3 := hu3.size
 have HU := Lib.hid hut
 have HW3 := Lib.hid hw3
 have HM3 := Lib.hid hM3
 obtain ⟨W4, hW4⟩ : ∃ W4, w3.alloc (.cells #[.int .i64 u.k, .int .i64 u.n, .string u.nm, .int .i64 up, .int .i64 uq, .slice uB um ud, .slice uE u.ls.length ux, .slice uE' u.ks.length ux'] 28) = W4 := ⟨_, rfl⟩
 have hu4 : Upd nob w3 W4 := by rw [← hW4]; exact (Upd.refl nob w3).alloc _
 have hs4 : W4.heap.size = w3.heap.size + 1 := by rw [← hW4]; simp
 have HB11 := Lib.hid (show Blk W4 w3.heap.size 28 #[.int .i64 u.k, .int .i64 u.n, .string u.nm, .int .i64 up, .int .i64 uq, .slice uB um ud, .slice uE u.ls.length ux, .slice uE' u.ks.length ux'] by rw [← hW4]; exact Blk.new w3 _ _)
 have r11 := HB11.out.rowAt
 have hu04 : Upd (fun q => q = mb) w W4 := hu03.trans (hu4.mono (fun _ f => f.elim))
 have HS4 := Lib.hid hs4
 clear hut hw3 hM3 hs4
 by_cases herr : err = 0
 · have e2 : (err != 0) = false := by simp [herr]
   have HERR := Lib.hid herr
   clear herr
   go_wp2_with (first
    | ((with_reducible refine this_op (.load 28 (.tmp 11)) ?_); refine wpList_at rfl 28 (.tmp 11) rfl ⟨w3.heap.size, 0, none⟩ rfl _ _ r11 Tryz.underlying28 rfl tm_size ?_))
   have HW4 := Lib.hid hW4
   clear hW4 r11
   refine (tspine_any u _ (grow D w2 w3) W4 (hD3.up hu4) (HU.out.old (hD3.old hu4) (fun _ h => h))).mono ?_
   rintro e w5 ⟨scs, A5, c5_, rfl, hst, ⟨hfl, hfc⟩, hft, hb5⟩
   have hu5 : Upd nob W4 w5 := Upd.of_below hb5
   obtain ⟨⟨hd_, fs⟩, hsp⟩ : ∃ s, tspine u = s := ⟨_, rfl⟩
   have hF2 := tspine_len u
   rw [hsp] at hst hfl hfc hft hF2 ⊢
   simp only at hF2
   simp only at hst hfl hfc hft ⊢
   obtain ⟨sp, sq, sB, sm, sd, sE, sx, sE', sx', rfl⟩ := hst.lit8
   obtain ⟨F, hF⟩ : ∃ F, fs.length = F := ⟨_, rfl⟩
   rw [hF] at hfl hfc hF2 ⊢
   have HF := Lib.hid hF
   have HSP := Lib.hid hsp
   have HST := Lib.hid hst
   have HFT := Lib.hid hft
   have hz5 := hu5.size
   have hD5 : Within (grow (grow D w2 w3) W4 w5) w5 := (hD3.up hu4).grow hu5.size
   obtain ⟨W6, hW6⟩ : ∃ W6, w5.alloc (.cells #[.int .i64 hd_.k, .int .i64 hd_.n, .string hd_.nm, .int .i64 sp, .int .i64 sq, .slice sB sm sd, .slice sE hd_.ls.length sx, .slice sE' hd_.ks.length sx'] 28) = W6 := ⟨_, rfl⟩
   have hu6 : Upd nob w5 W6 := by rw [← hW6]; exact (Upd.refl nob w5).alloc _
   have hs6 : W6.heap.size = w5.heap.size + 1 := by rw [← hW6]; simp
   have HB13 := Lib.hid (show Blk W6 w5.heap.size 28 #[.int .i64 hd_.k, .int .i64 hd_.n, .string hd_.nm, .int .i64 sp, .int .i64 sq, .slice sB sm sd, .slice sE hd_.ls.length sx, .slice sE' hd_.ks.length sx'] by rw [← hW6]; exact Blk.new w5 _ _)
   have HS6 := Lib.hid hs6
   clear hst hft hF hsp hs6 hb5
   go_wp2_with fail
   have HW6 := Lib.hid hW6
   clear hW6
   have hu46 := hu5.trans hu6
   have hu36 := hu4.trans hu46
   have hu06 : Upd (fun q => q = mb) w W6 := hu03.trans (hu36.mono (fun _ f => f.elim))
   have hu16 : Upd (fun q => q = mb) W1 W6 := ((hu2.mono (fun _ f => f.elim)).trans hu3).trans (hu36.mono (fun _ f => f.elim))
   have hz1 := hu2.size
   have hs4 := HS4.out
   have hs6 := HS6.out
   have hoD : Old D w W6 := Old.of_upd hu06 (fun q hq => ⟨fun h => hmb (h ▸ hq), hD q hq⟩)
   have hD6 := hD.up hu06
   have bM := Blk.upd HM3.out hu36 (fun f => f)
   have m0 : W6.cell? ⟨mb, 0, none⟩ = some ev := Blk.cell bM 0
   have lM := Blk.lt bM
   have s2 : W6.cell? ⟨w5.heap.size, 2, none⟩ = some (.string hd_.nm) := HB13.out.cell 2
   have lS := HB13.out.lt
   refine wp_region_P (by kernel_rfl) ?_
   refine wpAny_of_held (S := fun X : World => ∀ p : Addr, p.block < W6.heap.size → X.cell? p = W6.cell? p) _ _ _ _ ?_
   have hS : ∀ p : Addr, p.block < W6.heap.size → W6.drew.cell? p = W6.cell? p := fun _ _ => rfl
   refine hT 0 ?_ rfl (by kernel_rfl) (by rfl) ?_ hS ?_
   rotate_left; · intro wx hx; clear hx; go_simp; with_reducible rfl
   try simp only [tl]
   refine hT 1 ?_ rfl (by kernel_rfl) (by rfl) ?_ hS ?_
   rotate_left; · intro wx hx; clear hx; go_simp; with_reducible rfl
   try simp only [tl]
   refine hT 2 ?_ rfl (by kernel_rfl) (by rfl) ?_ hS ?_
   rotate_left; · intro wx hx; clear hx; go_simp; with_reducible rfl
   try simp only [tl]
   refine hT 3 ?_ rfl (by kernel_rfl) (by rfl) ?_ hS ?_
   rotate_left
   · intro wx hx
     have q0 := (hx ⟨mb, 0, none⟩ lM).trans m0
     clear hx
     go_simp
     with_reducible rfl
   try simp only [tl]
   refine hT 4 ?_ rfl (by kernel_rfl) (by rfl) ?_ hS ?_
   rotate_left; · intro wx hx; clear hx; go_simp; with_reducible rfl
   try simp only [tl]
   refine hT 5 ?_ rfl (by kernel_rfl) (by rfl) ?_ hS ?_
   rotate_left
   · intro wx hx
     have q0 := (hx ⟨w5.heap.size, 2, none⟩ lS).trans s2
     clear hx
     go_simp
     with_reducible rfl
   try simp only [tl]
   refine wpAnyH_alone (i := 6) (by kernel_rfl) rfl (by rfl) fun K hK => ?_
   go_simp
   refine (find_any ev G hd_.nm D W6.drew (HE.out.old (w' := W6.drew) hoD (fun _ h => h))).mono ?_
   rintro e w7 ⟨qp, rfl, hfound, rfl⟩
   have HFO := Lib.hid (show FoundIs D W6 G hd_.nm qp from hfound.old (fun _ _ => rfl) (fun _ h => h))
   clear hfound
   refine hK _ _ (fun _ _ => rfl) ?_
   clear hK K; try simp only [tl]
   have hS : ∀ p : Addr, p.block < W6.heap.size → W6.drew.cell? p = W6.cell? p := fun _ _ => rfl
   refine wpAnyH_alone (i := 7) (by kernel_rfl) rfl (by rfl) fun K hK => ?_
   go_simp
   refine hK _ _ hS ?_
   clear hK K; try simp only [tl]
   refine wpAnyH_done (by kernel_rfl) ?_ _
   refine NoPanic.normal ?_
   obtain ⟨W7, hW7⟩ : ∃ W7, W6.drew = W7 := ⟨_, rfl⟩
   have hu7 : Upd nob W6 W7 := by rw [← hW7]; exact (Upd.refl nob W6).drew
   rw [hW7]
   clear hW7 hS m0 s2
   obtain ⟨ga0, ga1, ga2, ga3, ga4, ga5, ga6, ga7, gb0, gb1, gb2, gb3, gb4, gb5, gb6, gb7, gC, gcc, R, rc, rfl, gi, _, _, _, _, _, hru, ⟨hrl, hrc⟩⟩ := HGL.out
   obtain ⟨RL, hRL⟩ : ∃ RL, g.rules.length = RL := ⟨_, rfl⟩
   have HG6 := HG0.out
   rw [hRL] at hrl hrc HG6
   have hg7 : Blk W7 gb 50 #[.int .i64 g.kind, .string g.nm, .int .i64 g.vars, ga0, ga1, ga2, ga3, ga4, ga5, ga6, ga7, gb0, gb1, gb2, gb3, gb4, gb5, gb6, gb7, .string g.ind, .int .i64 g.params, .int .i64 g.indices, .int .i64 g.fields, .slice gC g.ctors.length gcc, .int .i64 g.minors, .slice R RL rc] := ((hu7.block gb (by have := hD _ hgD; have := hu06.size; omega) (fun f => f)).trans (hoD gb hgD)).trans HG6
   have b57 : Blk W7 w.heap.size 88 #[.pointer (some ⟨gb, 0, none⟩)] := (HB5.out.upd hu16 (fun h => by have : w.heap.size = mb := h; omega)).upd hu7 (fun f => f)
   have c5 : W7.cell? ⟨w.heap.size, 0, none⟩ = some (.pointer (some ⟨gb, 0, none⟩)) := b57.cell 0
   have cR : W7.cell? ⟨gb, 25, none⟩ = some (.slice R RL rc) := hg7.cell 25
   have l5 := b57.lt
   have lg := hg7.lt
   have hDW7 : Old D w W7 := hoD.trans (Old.of_upd hu7 (fun q hq => ⟨fun f => f, hD6 q hq⟩))
   have hD7 : Within D W7 := hD6.up hu7
   have HRU := Lib.hid hru
   have HRL := Lib.hid hRL
   have b137 := HB13.out.upd hu7 (fun f => f)
   have ht137 : TmIs (There W7) W7 hd_ #[.int .i64 hd_.k, .int .i64 hd_.n, .string hd_.nm, .int .i64 sp, .int .i64 sq, .slice sB sm sd, .slice sE hd_.ls.length sx, .slice sE' hd_.ks.length sx'] := (HST.out.old (D' := There W7) (hD5.old (hu6.trans hu7)) (fun q hq => (hD5.up (hu6.trans hu7)) q hq))
   have HT137 := Lib.hid ht137
   have HB137 := Lib.hid b137
   have HB57 := Lib.hid b57
   have HG7 := Lib.hid hg7
   clear hru hRL HG6 hg7 b57 ht137 b137
   go_wp2_with fail
   have hcall := widx_any g.rules R rc w5.heap.size hd_ (There W7) W7 (There_in W7) (HRU.out.old hDW7 (fun q hq => hD7 q hq)) (by rw [HRL.out]; exact hrl) ⟨_, HB137.out, HT137.out⟩ HB137.out.lt
   rw [HRL.out] at hcall
   refine hcall.mono ?_
   clear hcall
   rintro e w8 ⟨rfl, hb8⟩
   have hu8 : Upd nob W7 w8 := Upd.of_below hb8
   obtain ⟨kk, hkk⟩ : ∃ k, rfind hd_.nm g.rules 0 = k := ⟨_, rfl⟩
   rw [hkk]
   have HKK := Lib.hid hkk
   obtain ⟨W9, hW9⟩ : ∃ W9, w8.alloc (.cells #[.int .i64 kk] 3) = W9 := ⟨_, rfl⟩
   have hu9 : Upd nob w8 W9 := by rw [← hW9]; exact (Upd.refl nob w8).alloc _
   have hs9 : W9.heap.size = w8.heap.size + 1 := by rw [← hW9]; simp
   have HB16 := Lib.hid (show Blk W9 w8.heap.size 3 #[.int .i64 kk] by rw [← hW9]; exact Blk.new w8 _ _)
   have HS9 := Lib.hid hs9
   clear hkk hs9 hb8 c5 cR
   go_wp2_with fail
   have HW9 := Lib.hid hW9
   clear hW9
   have hu79 := hu8.trans hu9
   have hu69 := hu7.trans hu79
   have hDW9 : Old D w W9 := hDW7.trans (Old.of_upd hu79 (fun q hq => ⟨fun f => f, hD7 q hq⟩))
   have hD9 : Within D W9 := hD7.up hu79
   have hu09 : Upd (fun q => q = mb) w W9 := hu06.trans (hu69.mono (fun _ f => f.elim))
   have BM9 := Lib.hid (show MacIs W9 mb ev left from Blk.upd HM3.out (hu36.trans hu69) (fun f => f))
   have B59 := Lib.hid (HB57.out.upd hu79 (fun f => f))
   have B139 := Lib.hid (HB137.out.upd hu79 (fun f => f))
   have G9 := Lib.hid (HG7.out.upd hu79 (fun f => f))
   have FO9 := Lib.hid (HFO.out.old (Old.of_upd hu69 (fun q hq => ⟨fun f => f, hD6 q hq⟩)) (fun _ h => h))
   have c5 : W9.cell? ⟨w.heap.size, 0, none⟩ = some (.pointer (some ⟨gb, 0, none⟩)) := B59.out.cell 0
   have s0 : W9.cell? ⟨w5.heap.size, 0, none⟩ = some (.int .i64 hd_.k) := B139.out.cell 0
   have gi19 : W9.cell? ⟨gb, 19, none⟩ = some (.string g.ind) := G9.out.cell 19
   have k16 : W9.cell? ⟨w8.heap.size, 0, none⟩ = some (.int .i64 kk) := HB16.out.cell 0
   have l5 := B59.out.lt
   have l13 := B139.out.lt
   have lg := G9.out.lt
   have l16 := HB16.out.lt
   have wres : ∀ nx : Nx, wpick G g h args j hd_ fs = nx → wiota G (fun f x => wwhnf G n f x) fuel g h args = some (left, nx, 0) := by
    intro nx hnx
    unfold wiota
    rw [HN.out, HAT.out, if_neg (by omega)]
    have e3 : ((j : Int)).toNat = j := by omega
    rw [e3, HX0.out]
    simp only
    rw [HW3.out]
    simp only
    rw [if_neg (fun h => h HERR.out), HSP.out, hnx]
   have WRES := Lib.hid wres
   clear wres
   by_cases k7 : hd_.k = 7
   · have t7 : (hd_.k != 7) = false := by simp [k7]
     have K7 := Lib.hid k7
     clear k7
     rcases FO9.out with ⟨rfl, hfn⟩ | ⟨cg, cb, ccs, rfl, hfs, hcD, hcb, hcg⟩
     · have hpk : wpick G g h args j hd_ fs = none := by unfold wpick; rw [if_neg (fun h => h K7.out), hfn]
       have HPK := Lib.hid hpk
       clear hpk hfn
       refine wp_region_P (by kernel_rfl) ?_
       refine wpAny_of_held (S := fun X : World => ∀ p : Addr, p.block < W9.heap.size → X.cell? p = W9.cell? p) _ _ _ _ ?_
       have hS : ∀ p : Addr, p.block < W9.heap.size → W9.drew.cell? p = W9.cell? p := fun _ _ => rfl
       refine hT 0 ?_ rfl (by kernel_rfl) (by rfl) ?_ hS ?_
       rotate_left; · intro wx hx; clear hx; go_simp; with_reducible rfl
       try simp only [tl]
       refine hT 1 ?_ rfl (by kernel_rfl) (by rfl) ?_ hS ?_
       rotate_left
       · intro wx hx
         have q0 := (hx ⟨w5.heap.size, 0, none⟩ l13).trans s0
         clear hx
         go_simp
         with_reducible rfl
       try simp only [tl]
       refine hT 2 ?_ rfl (by kernel_rfl) (by rfl) ?_ hS ?_
       rotate_left; · intro wx hx; clear hx; go_simp; with_reducible rfl
       try simp only [tl]
       refine hT 3 ?_ rfl (by kernel_rfl) (by rfl) ?_ hS ?_
       rotate_left; · intro wx hx; clear hx; go_simp; with_reducible rfl
       try simp only [tl]
       refine hT 4 ?_ rfl (by kernel_rfl) (by rfl) ?_ hS ?_
       rotate_left; · intro wx hx; clear hx; go_simp; with_reducible rfl
       try simp only [tl]
       refine hT 5 ?_ rfl (by kernel_rfl) (by rfl) ?_ hS ?_
       rotate_left; · intro wx hx; clear hx; go_simp; with_reducible rfl
       try simp only [tl]
       refine hT 6 ?_ rfl (by kernel_rfl) (by rfl) ?_ hS ?_
       rotate_left; · intro wx hx; clear hx; go_simp; with_reducible rfl
       try simp only [tl]
       refine hT 7 ?_ rfl (by kernel_rfl) (by rfl) ?_ hS ?_
       rotate_left; · intro wx hx; clear hx; go_simp; with_reducible rfl
       try simp only [tl]
       refine wpAnyH_take (i := 8) (v := undef) rfl (by kernel_rfl) (by kernel_rfl) (by kernel_rfl) (fun _ _ _ h => h) (Or.inr ⟨by rfl, by rfl⟩) hS ?_
       try simp only [tl]
       refine wpAnyH_take (i := 9) (v := undef) rfl (by kernel_rfl) (by kernel_rfl) (by kernel_rfl) (fun _ _ _ h => h) (Or.inr ⟨by rfl, by rfl⟩) hS ?_
       try simp only [tl]
       refine wpAnyH_take (i := 10) (v := undef) rfl (by kernel_rfl) (by kernel_rfl) (by kernel_rfl) (fun _ _ _ h => h) (Or.inr ⟨by rfl, by rfl⟩) hS ?_
       try simp only [tl]
       refine wpAnyH_take (i := 11) (v := undef) rfl (by kernel_rfl) (by kernel_rfl) (by kernel_rfl) (fun _ _ _ h => h) (Or.inr ⟨by rfl, by rfl⟩) hS ?_
       try simp only [tl]
       refine wpAnyH_take (i := 12) (v := undef) rfl (by kernel_rfl) (by kernel_rfl) (by kernel_rfl) (fun _ _ _ h => h) (Or.inr ⟨by rfl, by rfl⟩) hS ?_
       try simp only [tl]
       refine hT 13 ?_ rfl (by kernel_rfl) (by rfl) ?_ hS ?_
       rotate_left; · intro wx hx; clear hx; go_simp; with_reducible rfl
       try simp only [tl]
       refine hT 14 ?_ rfl (by kernel_rfl) (by rfl) ?_ hS ?_
       rotate_left; · intro wx hx; clear hx; go_simp; with_reducible rfl
       try simp only [tl]
       refine wpAnyH_take (i := 15) (v := undef) rfl (by kernel_rfl) (by kernel_rfl) (by kernel_rfl) (fun _ _ _ h => h) (Or.inr ⟨by rfl, by rfl⟩) hS ?_
       try simp only [tl]
       refine wpAnyH_take (i := 16) (v := undef) rfl (by kernel_rfl) (by kernel_rfl) (by kernel_rfl) (fun _ _ _ h => h) (Or.inr ⟨by rfl, by rfl⟩) hS ?_
       try simp only [tl]
       refine wpAnyH_take (i := 17) (v := undef) rfl (by kernel_rfl) (by kernel_rfl) (by kernel_rfl) (fun _ _ _ h => h) (Or.inr ⟨by rfl, by rfl⟩) hS ?_
       try simp only [tl]
       refine wpAnyH_take (i := 18) (v := undef) rfl (by kernel_rfl) (by kernel_rfl) (by kernel_rfl) (fun _ _ _ h => h) (Or.inr ⟨by rfl, by rfl⟩) hS ?_
       try simp only [tl]
       refine wpAnyH_take (i := 19) (v := undef) rfl (by kernel_rfl) (by kernel_rfl) (by kernel_rfl) (fun _ _ _ h => h) (Or.inr ⟨by rfl, by rfl⟩) hS ?_
       try simp only [tl]
       refine wpAnyH_take (i := 20) (v := undef) rfl (by kernel_rfl) (by kernel_rfl) (by kernel_rfl) (fun _ _ _ h => h) (Or.inr ⟨by rfl, by rfl⟩) hS ?_
       try simp only [tl]
       refine wpAnyH_take (i := 21) (v := undef) rfl (by kernel_rfl) (by kernel_rfl) (by kernel_rfl) (fun _ _ _ h => h) (Or.inr ⟨by rfl, by rfl⟩) hS ?_
       try simp only [tl]
       refine wpAnyH_take (i := 22) (v := undef) rfl (by kernel_rfl) (by kernel_rfl) (by kernel_rfl) (fun _ _ _ h => h) (Or.inr ⟨by rfl, by rfl⟩) hS ?_
       try simp only [tl]
       refine wpAnyH_take (i := 23) (v := undef) rfl (by kernel_rfl) (by kernel_rfl) (by kernel_rfl) (fun _ _ _ h => h) (Or.inr ⟨by rfl, by rfl⟩) hS ?_
       try simp only [tl]
       refine hT 24 ?_ rfl (by kernel_rfl) (by rfl) ?_ hS ?_
       rotate_left; · intro wx hx; clear hx; go_simp; with_reducible rfl
       try simp only [tl]
       refine hT 25 ?_ rfl (by kernel_rfl) (by rfl) ?_ hS ?_
       rotate_left; · intro wx hx; clear hx; go_simp; with_reducible rfl
       try simp only [tl]
       refine wpAnyH_take (i := 26) (v := undef) rfl (by kernel_rfl) (by kernel_rfl) (by kernel_rfl) (fun _ _ _ h => h) (Or.inr ⟨by rfl, by rfl⟩) hS ?_
       try simp only [tl]
       refine wpAnyH_take (i := 27) (v := undef) rfl (by kernel_rfl) (by kernel_rfl) (by kernel_rfl) (fun _ _ _ h => h) (Or.inr ⟨by rfl, by rfl⟩) hS ?_
       try simp only [tl]
       refine hT 28 ?_ rfl (by kernel_rfl) (by rfl) ?_ hS ?_
       rotate_left; · intro wx hx; clear hx; go_simp; with_reducible rfl
       try simp only [tl]
       refine wpAnyH_done (by kernel_rfl) ?_ _
       refine NoPanic.normal ?_
       go_wp2_with fail
       go_ret2
       exact ⟨n, left, none, 0, _, WRES.out _ HPK.out, rfl, .inl ⟨rfl, rfl⟩, BM9.out.drew', hu09.drew, hlef⟩
     obtain ⟨ca0, ca1, ca2, ca3, ca4, ca5, ca6, ca7, cb0, cb1, cb2, cb3, cb4, cb5, cb6, cb7, cC, ccc, cR, crc, rfl, _, _, _, _, _, _, _, _⟩ := hcg
     have c0 : W9.cell? ⟨cb, 0, none⟩ = some (.int .i64 cg.kind) := hcb.cell 0
     have c19 : W9.cell? ⟨cb, 19, none⟩ = some (.string cg.ind) := hcb.cell 19
     have lc := hcb.lt
     clear hcb
     by_cases k4 : cg.kind = 4
     · have t4 : (cg.kind != 4) = false := by simp [k4]
       have K4 := Lib.hid k4
       clear k4
       cases hind : (cg.ind.toList == g.ind.toList) with
       | false =>
        have HIND := Lib.hid hind
        have hpk : wpick G g h args j hd_ fs = none := by unfold wpick; rw [if_neg (fun h => h K7.out), hfs]; simp only; rw [if_pos (.inr (.inl HIND.out))]
        have HPK := Lib.hid hpk
        have tind : (cg.ind.toList != g.ind.toList) = true := by simp [bne, hind]
        clear hpk hfs
        refine wp_region_P (by kernel_rfl) ?_
        refine wpAny_of_held (S := fun X : World => ∀ p : Addr, p.block < W9.heap.size → X.cell? p = W9.cell? p) _ _ _ _ ?_
        have hS : ∀ p : Addr, p.block < W9.heap.size → W9.drew.cell? p = W9.cell? p := fun _ _ => rfl
        refine hT 0 ?_ rfl (by kernel_rfl) (by rfl) ?_ hS ?_
        rotate_left; · intro wx hx; clear hx; go_simp; with_reducible rfl
        try simp only [tl]
        refine hT 1 ?_ rfl (by kernel_rfl) (by rfl) ?_ hS ?_
        rotate_left
        · intro wx hx
          have q0 := (hx ⟨w5.heap.size, 0, none⟩ l13).trans s0
          clear hx
          go_simp
          with_reducible rfl
        try simp only [tl]
        refine hT 2 ?_ rfl (by kernel_rfl) (by rfl) ?_ hS ?_
        rotate_left; · intro wx hx; clear hx; go_simp; with_reducible rfl
        try simp only [tl]
        refine hT 3 ?_ rfl (by kernel_rfl) (by rfl) ?_ hS ?_
        rotate_left; · intro wx hx; clear hx; go_simp; with_reducible rfl
        try simp only [tl]
        refine hT 4 ?_ rfl (by kernel_rfl) (by rfl) ?_ hS ?_
        rotate_left; · intro wx hx; clear hx; go_simp; with_reducible rfl
        try simp only [tl]
        refine hT 5 ?_ rfl (by kernel_rfl) (by rfl) ?_ hS ?_
        rotate_left; · intro wx hx; clear hx; go_simp; with_reducible rfl
        try simp only [tl]
        refine hT 6 ?_ rfl (by kernel_rfl) (by rfl) ?_ hS ?_
        rotate_left; · intro wx hx; clear hx; go_simp; with_reducible rfl
        try simp only [tl]
        refine hT 7 ?_ rfl (by kernel_rfl) (by rfl) ?_ hS ?_
        rotate_left; · intro wx hx; clear hx; go_simp; with_reducible rfl
        try simp only [tl]
        refine hT 8 ?_ rfl (by kernel_rfl) (by rfl) ?_ hS ?_
        rotate_left; · intro wx hx; clear hx; go_simp; with_reducible rfl
        try simp only [tl]
        refine hT 9 ?_ rfl (by kernel_rfl) (by rfl) ?_ hS ?_
        rotate_left; · intro wx hx; clear hx; go_simp; with_reducible rfl
        try simp only [tl]
        refine hT 10 ?_ rfl (by kernel_rfl) (by rfl) ?_ hS ?_
        rotate_left; · intro wx hx; clear hx; go_simp; with_reducible rfl
        try simp only [tl]
        refine hT 11 ?_ rfl (by kernel_rfl) (by rfl) ?_ hS ?_
        rotate_left
        · intro wx hx
          have q0 := (hx ⟨cb, 0, none⟩ lc).trans c0
          clear hx
          go_simp
          with_reducible rfl
        try simp only [tl]
        refine hT 12 ?_ rfl (by kernel_rfl) (by rfl) ?_ hS ?_
        rotate_left; · intro wx hx; clear hx; go_simp; with_reducible rfl
        try simp only [tl]
        refine hT 13 ?_ rfl (by kernel_rfl) (by rfl) ?_ hS ?_
        rotate_left; · intro wx hx; clear hx; go_simp; with_reducible rfl
        try simp only [tl]
        refine hT 14 ?_ rfl (by kernel_rfl) (by rfl) ?_ hS ?_
        rotate_left; · intro wx hx; clear hx; go_simp; with_reducible rfl
        try simp only [tl]
        refine hT 15 ?_ rfl (by kernel_rfl) (by rfl) ?_ hS ?_
        rotate_left; · intro wx hx; clear hx; go_simp; with_reducible rfl
        try simp only [tl]
        refine hT 16 ?_ rfl (by kernel_rfl) (by rfl) ?_ hS ?_
        rotate_left; · intro wx hx; clear hx; go_simp; with_reducible rfl
        try simp only [tl]
        refine hT 17 ?_ rfl (by kernel_rfl) (by rfl) ?_ hS ?_
        rotate_left; · intro wx hx; clear hx; go_simp; with_reducible rfl
        try simp only [tl]
        refine hT 18 ?_ rfl (by kernel_rfl) (by rfl) ?_ hS ?_
        rotate_left
        · intro wx hx
          have q0 := (hx ⟨cb, 19, none⟩ lc).trans c19
          clear hx
          go_simp
          with_reducible rfl
        try simp only [tl]
        refine hT 19 ?_ rfl (by kernel_rfl) (by rfl) ?_ hS ?_
        rotate_left
        · intro wx hx
          have q0 := (hx ⟨w.heap.size, 0, none⟩ l5).trans c5
          clear hx
          go_simp
          with_reducible rfl
        try simp only [tl]
        refine hT 20 ?_ rfl (by kernel_rfl) (by rfl) ?_ hS ?_
        rotate_left; · intro wx hx; clear hx; go_simp; with_reducible rfl
        try simp only [tl]
        refine hT 21 ?_ rfl (by kernel_rfl) (by rfl) ?_ hS ?_
        rotate_left; · intro wx hx; clear hx; go_simp; with_reducible rfl
        try simp only [tl]
        refine hT 22 ?_ rfl (by kernel_rfl) (by rfl) ?_ hS ?_
        rotate_left
        · intro wx hx
          have q0 := (hx ⟨gb, 19, none⟩ lg).trans gi19
          clear hx
          go_simp
          with_reducible rfl
        try simp only [tl]
        refine hT 23 ?_ rfl (by kernel_rfl) (by rfl) ?_ hS ?_
        rotate_left; · intro wx hx; clear hx; go_simp; with_reducible rfl
        try simp only [tl]
        refine hT 24 ?_ rfl (by kernel_rfl) (by rfl) ?_ hS ?_
        rotate_left; · intro wx hx; clear hx; go_simp; with_reducible rfl
        try simp only [tl]
        refine hT 25 ?_ rfl (by kernel_rfl) (by rfl) ?_ hS ?_
        rotate_left; · intro wx hx; clear hx; go_simp; with_reducible rfl
        try simp only [tl]
        refine wpAnyH_take (i := 26) (v := undef) rfl (by kernel_rfl) (by kernel_rfl) (by kernel_rfl) (fun _ _ _ h => h) (Or.inr ⟨by rfl, by rfl⟩) hS ?_
        try simp only [tl]
        refine wpAnyH_take (i := 27) (v := undef) rfl (by kernel_rfl) (by kernel_rfl) (by kernel_rfl) (fun _ _ _ h => h) (Or.inr ⟨by rfl, by rfl⟩) hS ?_
        try simp only [tl]
        refine hT 28 ?_ rfl (by kernel_rfl) (by rfl) ?_ hS ?_
        rotate_left; · intro wx hx; clear hx; go_simp; with_reducible rfl
        try simp only [tl]
        refine wpAnyH_done (by kernel_rfl) ?_ _
        refine NoPanic.normal ?_
        go_wp2_with fail
        go_ret2
        exact ⟨n, left, none, 0, _, WRES.out _ HPK.out, rfl, .inl ⟨rfl, rfl⟩, BM9.out.drew', hu09.drew, hlef⟩
       | true =>
        have HIND := Lib.hid hind
        have tind : (cg.ind.toList != g.ind.toList) = false := by simp [bne, hind]
        by_cases hk0 : kk < 0
        · have tk : (kk < 0) = True := eq_true hk0
          have hpk : wpick G g h args j hd_ fs = none := by unfold wpick; rw [if_neg (fun h => h K7.out), hfs]; simp only; rw [if_pos (.inr (.inr (by rw [HKK.out]; exact hk0)))]
          have HPK := Lib.hid hpk
          clear hpk hfs hk0
          refine wp_region_P (by kernel_rfl) ?_
          refine wpAny_of_held (S := fun X : World => ∀ p : Addr, p.block < W9.heap.size → X.cell? p = W9.cell? p) _ _ _ _ ?_
          have hS : ∀ p : Addr, p.block < W9.heap.size → W9.drew.cell? p = W9.cell? p := fun _ _ => rfl
          refine hT 0 ?_ rfl (by kernel_rfl) (by rfl) ?_ hS ?_
          rotate_left; · intro wx hx; clear hx; go_simp; with_reducible rfl
          try simp only [tl]
          refine hT 1 ?_ rfl (by kernel_rfl) (by rfl) ?_ hS ?_
          rotate_left
          · intro wx hx
            have q0 := (hx ⟨w5.heap.size, 0, none⟩ l13).trans s0
            clear hx
            go_simp
            with_reducible rfl
          try simp only [tl]
          refine hT 2 ?_ rfl (by kernel_rfl) (by rfl) ?_ hS ?_
          rotate_left; · intro wx hx; clear hx; go_simp; with_reducible rfl
          try simp only [tl]
          refine hT 3 ?_ rfl (by kernel_rfl) (by rfl) ?_ hS ?_
          rotate_left; · intro wx hx; clear hx; go_simp; with_reducible rfl
          try simp only [tl]
          refine hT 4 ?_ rfl (by kernel_rfl) (by rfl) ?_ hS ?_
          rotate_left; · intro wx hx; clear hx; go_simp; with_reducible rfl
          try simp only [tl]
          refine hT 5 ?_ rfl (by kernel_rfl) (by rfl) ?_ hS ?_
          rotate_left; · intro wx hx; clear hx; go_simp; with_reducible rfl
          try simp only [tl]
          refine hT 6 ?_ rfl (by kernel_rfl) (by rfl) ?_ hS ?_
          rotate_left; · intro wx hx; clear hx; go_simp; with_reducible rfl
          try simp only [tl]
          refine hT 7 ?_ rfl (by kernel_rfl) (by rfl) ?_ hS ?_
          rotate_left; · intro wx hx; clear hx; go_simp; with_reducible rfl
          try simp only [tl]
          refine hT 8 ?_ rfl (by kernel_rfl) (by rfl) ?_ hS ?_
          rotate_left; · intro wx hx; clear hx; go_simp; with_reducible rfl
          try simp only [tl]
          refine hT 9 ?_ rfl (by kernel_rfl) (by rfl) ?_ hS ?_
          rotate_left; · intro wx hx; clear hx; go_simp; with_reducible rfl
          try simp only [tl]
          refine hT 10 ?_ rfl (by kernel_rfl) (by rfl) ?_ hS ?_
          rotate_left; · intro wx hx; clear hx; go_simp; with_reducible rfl
          try simp only [tl]
          refine hT 11 ?_ rfl (by kernel_rfl) (by rfl) ?_ hS ?_
          rotate_left
          · intro wx hx
            have q0 := (hx ⟨cb, 0, none⟩ lc).trans c0
            clear hx
            go_simp
            with_reducible rfl
          try simp only [tl]
          refine hT 12 ?_ rfl (by kernel_rfl) (by rfl) ?_ hS ?_
          rotate_left; · intro wx hx; clear hx; go_simp; with_reducible rfl
          try simp only [tl]
          refine hT 13 ?_ rfl (by kernel_rfl) (by rfl) ?_ hS ?_
          rotate_left; · intro wx hx; clear hx; go_simp; with_reducible rfl
          try simp only [tl]
          refine hT 14 ?_ rfl (by kernel_rfl) (by rfl) ?_ hS ?_
          rotate_left; · intro wx hx; clear hx; go_simp; with_reducible rfl
          try simp only [tl]
          refine hT 15 ?_ rfl (by kernel_rfl) (by rfl) ?_ hS ?_
          rotate_left; · intro wx hx; clear hx; go_simp; with_reducible rfl
          try simp only [tl]
          refine hT 16 ?_ rfl (by kernel_rfl) (by rfl) ?_ hS ?_
          rotate_left; · intro wx hx; clear hx; go_simp; with_reducible rfl
          try simp only [tl]
          refine hT 17 ?_ rfl (by kernel_rfl) (by rfl) ?_ hS ?_
          rotate_left; · intro wx hx; clear hx; go_simp; with_reducible rfl
          try simp only [tl]
          refine hT 18 ?_ rfl (by kernel_rfl) (by rfl) ?_ hS ?_
          rotate_left
          · intro wx hx
            have q0 := (hx ⟨cb, 19, none⟩ lc).trans c19
            clear hx
            go_simp
            with_reducible rfl
          try simp only [tl]
          refine hT 19 ?_ rfl (by kernel_rfl) (by rfl) ?_ hS ?_
          rotate_left
          · intro wx hx
            have q0 := (hx ⟨w.heap.size, 0, none⟩ l5).trans c5
            clear hx
            go_simp
            with_reducible rfl
          try simp only [tl]
          refine hT 20 ?_ rfl (by kernel_rfl) (by rfl) ?_ hS ?_
          rotate_left; · intro wx hx; clear hx; go_simp; with_reducible rfl
          try simp only [tl]
          refine hT 21 ?_ rfl (by kernel_rfl) (by rfl) ?_ hS ?_
          rotate_left; · intro wx hx; clear hx; go_simp; with_reducible rfl
          try simp only [tl]
          refine hT 22 ?_ rfl (by kernel_rfl) (by rfl) ?_ hS ?_
          rotate_left
          · intro wx hx
            have q0 := (hx ⟨gb, 19, none⟩ lg).trans gi19
            clear hx
            go_simp
            with_reducible rfl
          try simp only [tl]
          refine hT 23 ?_ rfl (by kernel_rfl) (by rfl) ?_ hS ?_
          rotate_left; · intro wx hx; clear hx; go_simp; with_reducible rfl
          try simp only [tl]
          refine hT 24 ?_ rfl (by kernel_rfl) (by rfl) ?_ hS ?_
          rotate_left; · intro wx hx; clear hx; go_simp; with_reducible rfl
          try simp only [tl]
          refine hT 25 ?_ rfl (by kernel_rfl) (by rfl) ?_ hS ?_
          rotate_left; · intro wx hx; clear hx; go_simp; with_reducible rfl
          try simp only [tl]
          refine hT 26 ?_ rfl (by kernel_rfl) (by rfl) ?_ hS ?_
          rotate_left
          · intro wx hx
            have q0 := (hx ⟨w8.heap.size, 0, none⟩ l16).trans k16
            clear hx
            go_simp
            with_reducible rfl
          try simp only [tl]
          refine hT 27 ?_ rfl (by kernel_rfl) (by rfl) ?_ hS ?_
          rotate_left; · intro wx hx; clear hx; go_simp; with_reducible rfl
          try simp only [tl]
          refine hT 28 ?_ rfl (by kernel_rfl) (by rfl) ?_ hS ?_
          rotate_left; · intro wx hx; clear hx; go_simp; with_reducible rfl
          try simp only [tl]
          refine wpAnyH_done (by kernel_rfl) ?_ _
          refine NoPanic.normal ?_
          go_wp2_with fail
          go_ret2
          exact ⟨n, left, none, 0, _, WRES.out _ HPK.out, rfl, .inl ⟨rfl, rfl⟩, BM9.out.drew', hu09.drew, hlef⟩
        have tk : (kk < 0) = False := eq_false hk0
        obtain ⟨kn, hkn⟩ : ∃ kn : Nat, kk = kn := ⟨kk.toNat, by omega⟩
        subst hkn
        have hkl : kn < RL := by
         rcases rfind_spec hd_.nm g.rules 0 with h1 | ⟨j', h1, h2⟩
         · rw [HKK.out] at h1; omega
         rw [HKK.out] at h1; rw [HRL.out] at h2; omega
        obtain ⟨r, hr⟩ : ∃ r, g.rules[kn]? = some r := ⟨_, List.getElem?_eq_getElem (by rw [HRL.out]; exact hkl)⟩
        have hpk : wpick G g h args j hd_ fs = if r.fields < 0 ∨ wrap64 ((F : Int) - g.params) ≠ r.fields then none else some (wlevels r.body h.ls (args.take (g.params + 1 + g.minors).toNat ++ fs.drop g.params.toNat ++ args.drop (j + 1))) := by
         unfold wpick
         rw [if_neg (fun h => h K7.out), hfs]
         simp only
         rw [HKK.out, if_neg (by rw [HIND.out]; intro h; rcases h with h | h | h; exact h K4.out; cases h; omega)]
         have e3 : ((kn : Int)).toNat = kn := by omega
         rw [e3, hr]
         simp only
         rw [HF.out]
        have HPK := Lib.hid hpk
        have HR := Lib.hid hr
        clear hpk hfs hk0 hr
        refine wp_region_P (by kernel_rfl) ?_
        refine wpAny_of_held (S := fun X : World => ∀ p : Addr, p.block < W9.heap.size → X.cell? p = W9.cell? p) _ _ _ _ ?_
        have hS : ∀ p : Addr, p.block < W9.heap.size → W9.drew.cell? p = W9.cell? p := fun _ _ => rfl
        refine hT 0 ?_ rfl (by kernel_rfl) (by rfl) ?_ hS ?_
        rotate_left; · intro wx hx; clear hx; go_simp; with_reducible rfl
        try simp only [tl]
        refine hT 1 ?_ rfl (by kernel_rfl) (by rfl) ?_ hS ?_
        rotate_left
        · intro wx hx
          have q0 := (hx ⟨w5.heap.size, 0, none⟩ l13).trans s0
          clear hx
          go_simp
          with_reducible rfl
        try simp only [tl]
        refine hT 2 ?_ rfl (by kernel_rfl) (by rfl) ?_ hS ?_
        rotate_left; · intro wx hx; clear hx; go_simp; with_reducible rfl
        try simp only [tl]
        refine hT 3 ?_ rfl (by kernel_rfl) (by rfl) ?_ hS ?_
        rotate_left; · intro wx hx; clear hx; go_simp; with_reducible rfl
        try simp only [tl]
        refine hT 4 ?_ rfl (by kernel_rfl) (by rfl) ?_ hS ?_
        rotate_left; · intro wx hx; clear hx; go_simp; with_reducible rfl
        try simp only [tl]
        refine hT 5 ?_ rfl (by kernel_rfl) (by rfl) ?_ hS ?_
        rotate_left; · intro wx hx; clear hx; go_simp; with_reducible rfl
        try simp only [tl]
        refine hT 6 ?_ rfl (by kernel_rfl) (by rfl) ?_ hS ?_
        rotate_left; · intro wx hx; clear hx; go_simp; with_reducible rfl
        try simp only [tl]
        refine hT 7 ?_ rfl (by kernel_rfl) (by rfl) ?_ hS ?_
        rotate_left; · intro wx hx; clear hx; go_simp; with_reducible rfl
        try simp only [tl]
        refine hT 8 ?_ rfl (by kernel_rfl) (by rfl) ?_ hS ?_
        rotate_left; · intro wx hx; clear hx; go_simp; with_reducible rfl
        try simp only [tl]
        refine hT 9 ?_ rfl (by kernel_rfl) (by rfl) ?_ hS ?_
        rotate_left; · intro wx hx; clear hx; go_simp; with_reducible rfl
        try simp only [tl]
        refine hT 10 ?_ rfl (by kernel_rfl) (by rfl) ?_ hS ?_
        rotate_left; · intro wx hx; clear hx; go_simp; with_reducible rfl
        try simp only [tl]
        refine hT 11 ?_ rfl (by kernel_rfl) (by rfl) ?_ hS ?_
        rotate_left
        · intro wx hx
          have q0 := (hx ⟨cb, 0, none⟩ lc).trans c0
          clear hx
          go_simp
          with_reducible rfl
        try simp only [tl]
        refine hT 12 ?_ rfl (by kernel_rfl) (by rfl) ?_ hS ?_
        rotate_left; · intro wx hx; clear hx; go_simp; with_reducible rfl
        try simp only [tl]
        refine hT 13 ?_ rfl (by kernel_rfl) (by rfl) ?_ hS ?_
        rotate_left; · intro wx hx; clear hx; go_simp; with_reducible rfl
        try simp only [tl]
        refine hT 14 ?_ rfl (by kernel_rfl) (by rfl) ?_ hS ?_
        rotate_left; · intro wx hx; clear hx; go_simp; with_reducible rfl
        try simp only [tl]
        refine hT 15 ?_ rfl (by kernel_rfl) (by rfl) ?_ hS ?_
        rotate_left; · intro wx hx; clear hx; go_simp; with_reducible rfl
        try simp only [tl]
        refine hT 16 ?_ rfl (by kernel_rfl) (by rfl) ?_ hS ?_
        rotate_left; · intro wx hx; clear hx; go_simp; with_reducible rfl
        try simp only [tl]
        refine hT 17 ?_ rfl (by kernel_rfl) (by rfl) ?_ hS ?_
        rotate_left; · intro wx hx; clear hx; go_simp; with_reducible rfl
        try simp only [tl]
        refine hT 18 ?_ rfl (by kernel_rfl) (by rfl) ?_ hS ?_
        rotate_left
        · intro wx hx
          have q0 := (hx ⟨cb, 19, none⟩ lc).trans c19
          clear hx
          go_simp
          with_reducible rfl
        try simp only [tl]
        refine hT 19 ?_ rfl (by kernel_rfl) (by rfl) ?_ hS ?_
        rotate_left
        · intro wx hx
          have q0 := (hx ⟨w.heap.size, 0, none⟩ l5).trans c5
          clear hx
          go_simp
          with_reducible rfl
        try simp only [tl]
        refine hT 20 ?_ rfl (by kernel_rfl) (by rfl) ?_ hS ?_
        rotate_left; · intro wx hx; clear hx; go_simp; with_reducible rfl
        try simp only [tl]
        refine hT 21 ?_ rfl (by kernel_rfl) (by rfl) ?_ hS ?_
        rotate_left; · intro wx hx; clear hx; go_simp; with_reducible rfl
        try simp only [tl]
        refine hT 22 ?_ rfl (by kernel_rfl) (by rfl) ?_ hS ?_
        rotate_left
        · intro wx hx
          have q0 := (hx ⟨gb, 19, none⟩ lg).trans gi19
          clear hx
          go_simp
          with_reducible rfl
        try simp only [tl]
        refine hT 23 ?_ rfl (by kernel_rfl) (by rfl) ?_ hS ?_
        rotate_left; · intro wx hx; clear hx; go_simp; with_reducible rfl
        try simp only [tl]
        refine hT 24 ?_ rfl (by kernel_rfl) (by rfl) ?_ hS ?_
        rotate_left; · intro wx hx; clear hx; go_simp; with_reducible rfl
        try simp only [tl]
        refine hT 25 ?_ rfl (by kernel_rfl) (by rfl) ?_ hS ?_
        rotate_left; · intro wx hx; clear hx; go_simp; with_reducible rfl
        try simp only [tl]
        refine hT 26 ?_ rfl (by kernel_rfl) (by rfl) ?_ hS ?_
        rotate_left
        · intro wx hx
          have q0 := (hx ⟨w8.heap.size, 0, none⟩ l16).trans k16
          clear hx
          go_simp
          with_reducible rfl
        try simp only [tl]
        refine hT 27 ?_ rfl (by kernel_rfl) (by rfl) ?_ hS ?_
        rotate_left; · intro wx hx; clear hx; go_simp; with_reducible rfl
        try simp only [tl]
        refine hT 28 ?_ rfl (by kernel_rfl) (by rfl) ?_ hS ?_
        rotate_left; · intro wx hx; clear hx; go_simp; with_reducible rfl
        try simp only [tl]
        refine wpAnyH_done (by kernel_rfl) ?_ _
        refine NoPanic.normal ?_
        obtain ⟨W10, hW10⟩ : ∃ W10, W9.drew = W10 := ⟨_, rfl⟩
        have hu10 : Upd nob W9 W10 := by rw [← hW10]; exact (Upd.refl nob W9).drew
        first
         | rw [hW10]
         | rw [show ({ heap := W9.heap, tape := W9.tape, drawn := W9.drawn + 1, os := W9.os, output := W9.output } : World) = W10 from hW10]
        clear hW10 hS c5 s0 gi19 k16 c0 c19
        obtain ⟨ra, rcs, hRa, hraD, hrr, rbc, rfl, hfI, _, _⟩ := HRU.out kn r HR.out
        subst hRa
        have hDW10 : Old D w W10 := hDW9.trans (Old.of_upd hu10 (fun q hq => ⟨fun f => f, hD9 q hq⟩))
        have hD10 : Within D W10 := hD9.up hu10
        have hu010 : Upd (fun q => q = mb) w W10 := hu09.trans (hu10.mono (fun _ f => f.elim))
        have B5 := Lib.hid (B59.out.upd hu10 (fun f => f))
        have B13 := Lib.hid (B139.out.upd hu10 (fun f => f))
        have B16 := Lib.hid (HB16.out.upd hu10 (fun f => f))
        have GG := Lib.hid (G9.out.upd hu10 (fun f => f))
        have BM := Lib.hid (show MacIs W10 mb ev left from Blk.upd BM9.out hu10 (fun f => f))
        have c5 : W10.cell? ⟨w.heap.size, 0, none⟩ = some (.pointer (some ⟨gb, 0, none⟩)) := B5.out.cell 0
        have cR : W10.cell? ⟨gb, 25, none⟩ = some (.slice (some ra) RL rc) := GG.out.cell 25
        have k16 : W10.cell? ⟨w8.heap.size, 0, none⟩ = some (.int .i64 kn) := B16.out.cell 0
        have l5 := B5.out.lt
        have l16 := B16.out.lt
        have lg := GG.out.lt
        have hfc1 : W10.cell? ((ra.add (kn * 10)).add 1) = some (.int .i64 r.fields) := (hrr.old hDW10 (by rw [Addr_add_block]; exact hraD)) 1 (.int .i64 r.fields) (by rw [Array.getElem?_append_left (by simp)]; rfl)
        have lra : ((ra.add (kn * 10)).add 1).block < W10.heap.size := by rw [Addr_add_block, Addr_add_block]; exact hD10 _ hraD
        obtain ⟨pn, hpn⟩ : ∃ pn : Nat, g.params = pn := ⟨g.params.toNat, by omega⟩
        obtain ⟨mn, hmn⟩ : ∃ mn : Nat, g.minors = mn := ⟨g.minors.toNat, by omega⟩
        have c20 : W10.cell? ⟨gb, 20, none⟩ = some (.int .i64 (pn : Int)) := by rw [← hpn]; exact GG.out.cell 20
        have c24 : W10.cell? ⟨gb, 24, none⟩ = some (.int .i64 (mn : Int)) := by rw [← hmn]; exact GG.out.cell 24
        have HPN := Lib.hid hpn
        have HMN := Lib.hid hmn
        have e1N := hE1.out
        rw [hpn, hmn] at e1N
        rw [hpn] at hp0 hat3
        rw [hmn] at hm0 hat3
        have hle1 : pn + 1 + mn ≤ c := by omega
        have hle2 : j + 1 ≤ N := by omega
        have hle3 : pn + 1 + mn ≤ N := by omega
        clear hpn hmn hrr e1N
        go_wp2_with fail
        refine wp_region_P (by kernel_rfl) ?_
        refine wpAny_of_held (S := fun X : World => ∀ p : Addr, p.block < W10.heap.size → X.cell? p = W10.cell? p) _ _ _ _ ?_
        have hS : ∀ p : Addr, p.block < W10.heap.size → W10.drew.cell? p = W10.cell? p := fun _ _ => rfl
        refine hT 0 ?_ rfl (by kernel_rfl) (by rfl) ?_ hS ?_
        rotate_left
        · intro wx hx
          have q0 := (hx ⟨w.heap.size, 0, none⟩ l5).trans c5
          clear hx
          go_simp
          with_reducible rfl
        try simp only [tl]
        refine hT 1 ?_ rfl (by kernel_rfl) (by rfl) ?_ hS ?_
        rotate_left; · intro wx hx; clear hx; go_simp; with_reducible rfl
        try simp only [tl]
        refine hT 2 ?_ rfl (by kernel_rfl) (by rfl) ?_ hS ?_
        rotate_left; · intro wx hx; clear hx; go_simp; with_reducible rfl
        try simp only [tl]
        refine hT 3 ?_ rfl (by kernel_rfl) (by rfl) ?_ hS ?_
        rotate_left
        · intro wx hx
          have q0 := (hx ⟨gb, 25, none⟩ lg).trans cR
          clear hx
          go_simp
          with_reducible rfl
        try simp only [tl]
        refine hT 4 ?_ rfl (by kernel_rfl) (by rfl) ?_ hS ?_
        rotate_left
        · intro wx hx
          have q0 := (hx ⟨w8.heap.size, 0, none⟩ l16).trans k16
          clear hx
          go_simp
          with_reducible rfl
        try simp only [tl]
        refine hT 5 (.pointer (some (Addr.add ra (kn * 10)))) rfl (by kernel_rfl) (by rfl) ?_ hS ?_
        · intro wx hx
          exact run_index_at 48 (.tmp 87) (.tmp 88) rfl _ ra _ _ rfl rfl kn rfl hkl 132 Tryz.underlying48 10 ru_size
        try simp only [tl]
        refine hT 6 (.pointer (some ((ra.add (kn * 10)).add 1))) rfl (by kernel_rfl) (by rfl) ?_ hS ?_
        · intro wx hx
          go_simp
        try simp only [tl]
        refine hT 7 (.int .i64 r.fields) rfl (by kernel_rfl) (by rfl) ?_ hS ?_
        · intro wx hx
          have q := (hx ((ra.add (kn * 10)).add 1) lra).trans hfc1
          have e : ((ra.add (kn * 10)).add 1) = ⟨(ra.add (kn * 10)).block, (ra.add (kn * 10)).off + 1, none⟩ := rfl
          rw [e] at q
          go_simp
        try simp only [tl]
        refine wpAnyH_alone (i := 8) (by kernel_rfl) rfl (by rfl) fun K hK => ?_
        go_simp
        refine hK _ _ hS ?_
        clear hK K; try simp only [tl]
        refine wpAnyH_done (by kernel_rfl) ?_ _
        refine NoPanic.normal ?_
        obtain ⟨W12, hW12⟩ : ∃ W12, W10.drew = W12 := ⟨_, rfl⟩
        have hu12 : Upd nob W10 W12 := by rw [← hW12]; exact (Upd.refl nob W10).drew
        first
         | rw [hW12]
         | rw [show ({ heap := W10.heap, tape := W10.tape, drawn := W10.drawn + 1, os := W10.os, output := W10.output } : World) = W12 from hW12]
        clear hW12 hS c5 cR k16 hfc1 lra
        have hDW12 : Old D w W12 := hDW10.trans (Old.of_upd hu12 (fun q hq => ⟨fun f => f, hD10 q hq⟩))
        have hu012 : Upd (fun q => q = mb) w W12 := hu010.trans (hu12.mono (fun _ f => f.elim))
        have c5 : W12.cell? ⟨w.heap.size, 0, none⟩ = some (.pointer (some ⟨gb, 0, none⟩)) := (B5.out.upd hu12 (fun f => f)).cell 0
        have d20 : W12.cell? ⟨gb, 20, none⟩ = some (.int .i64 (pn : Int)) := (hu12.cell (p := ⟨gb, 20, none⟩) lg (fun f => f)).trans c20
        have d24 : W12.cell? ⟨gb, 24, none⟩ = some (.int .i64 (mn : Int)) := (hu12.cell (p := ⟨gb, 24, none⟩) lg (fun f => f)).trans c24
        have hz12 := hu12.size
        have lg2 : gb < W12.heap.size := Nat.lt_of_lt_of_le lg hz12
        have l52 : w.heap.size < W12.heap.size := Nat.lt_of_lt_of_le l5 hz12
        clear c20 c24
        have BM12 := Lib.hid (show MacIs W12 mb ev left from Blk.upd BM.out hu12 (fun f => f))
        by_cases hf0 : r.fields < 0
        · have ef : (r.fields < 0) = True := eq_true hf0
          have hpk : wpick G g h args j hd_ fs = none := by rw [HPK.out, if_pos (.inl hf0)]
          have HP2 := Lib.hid hpk
          clear hf0 hpk
          go_wp2_with fail
          go_ret2
          first
           | exact ⟨n, left, none, 0, _, WRES.out _ HP2.out, rfl, .inl ⟨rfl, rfl⟩, BM12.out, hu012, hlef⟩
           | exact ⟨n, left, none, 0, WRES.out _ HP2.out, _, rfl, .inl ⟨rfl, rfl⟩, BM12.out, hu012, hlef⟩
        have ef : (r.fields < 0) = False := eq_false hf0
        have hwF : wrap64 ((F : Int) - pn) = (F : Int) - pn := by unfold wrap64; omega
        by_cases hne : wrap64 ((F : Int) - pn) = r.fields
        · have ene : (((F : Int) - pn) != r.fields) = false := by rw [hwF] at hne; simp [hne]
          have hpk : wpick G g h args j hd_ fs = some (wlevels r.body h.ls (args.take (pn + 1 + mn) ++ fs.drop pn ++ args.drop (j + 1))) := by
           rw [HPK.out, HPN.out, HMN.out, if_neg (fun hh => hh.elim hf0 (fun hh => hh hne))]
           have q1 : ((pn : Int) + 1 + mn).toNat = pn + 1 + mn := by omega
           have q2 : ((pn : Int)).toNat = pn := by omega
           rw [q1, q2]
          have HP2 := Lib.hid hpk
          have hpF : pn ≤ F := by
           have : wrap64 ((F : Int) - pn) = (F : Int) - pn := by unfold wrap64; omega
           omega
          clear hpk hne
          go_wp2_with fail
          obtain ⟨l0, hl0⟩ : ∃ l, args.take (pn + 1 + mn) = l := ⟨_, rfl⟩
          obtain ⟨l1, hl1⟩ : ∃ l, fs.drop pn = l := ⟨_, rfl⟩
          obtain ⟨l2, hl2⟩ : ∃ l, args.drop (j + 1) = l := ⟨_, rfl⟩
          have n0 : l0.length = pn + 1 + mn := by rw [← hl0, List.length_take, HN.out]; omega
          have n1 : l1.length = F - pn := by rw [← hl1, List.length_drop, HF.out]
          have n2 : l2.length = N - (j + 1) := by rw [← hl2, List.length_drop, HN.out]
          have hpk := HP2.out
          rw [hl0, hl1, hl2] at hpk
          have HP3 := Lib.hid hpk
          obtain ⟨A1, hA1⟩ : ∃ X, (if c5_ = pn then A5 else A5.map (·.add (pn * 8))) = X := ⟨_, rfl⟩
          obtain ⟨A2, hA2⟩ : ∃ X, (if c = j + 1 then A else A.map (·.add ((j + 1) * 8))) = X := ⟨_, rfl⟩
          have hDD : Within (grow D w W12) W12 := hD.grow hu012.size
          have hfs12 : TmsAt (grow D w W12) W12 fs A5 0 := HFT.out.old (hD5.old (hu6.trans (hu69.trans (hu10.trans hu12)))) (fun q hq => by
           have hz6 := (hu6.trans (hu69.trans (hu10.trans hu12))).size
           rcases hq with hq | hq
           · rcases hq with hq | hq
             · exact .inl hq
             exact .inr ⟨by have := hq.1; omega, by have := hq.2; have := hu5.size; omega⟩
           exact .inr ⟨by have := hq.1; omega, by have := hq.2; omega⟩)
          have ht1 : TmsAt (grow D w W12) W12 l1 A1 0 := by
           have q := hfs12.drop pn c5_ (by rw [HF.out]; exact hfc)
           rw [hl1, hA1] at q
           exact q
          have hargs12 : TmsAt (grow D w W12) W12 args A 0 := HA.out.old hDW12 (fun q hq => .inl hq)
          have ht0 : TmsAt (grow D w W12) W12 l0 A 0 := by
           have q := hargs12.take (pn + 1 + mn)
           rw [hl0] at q
           exact q
          have ht2 : TmsAt (grow D w W12) W12 l2 A2 0 := by
           have q := hargs12.drop (j + 1) c (by rw [HN.out]; exact hal2)
           rw [hl2, hA2] at q
           exact q
          have HA1 := Lib.hid hA1
          have HA2 := Lib.hid hA2
          have T0 := Lib.hid ht0
          have T1 := Lib.hid ht1
          have T2 := Lib.hid ht2
          have N0 := Lib.hid n0
          have N1 := Lib.hid n1
          have N2 := Lib.hid n2
          have C5F := Lib.hid hfc
          have ws1 : IntKind.i64.wrap ((pn : Int) + 1) = ((pn + 1 : Nat) : Int) := by rw [IntWalk.i64_in _ ⟨by omega, by omega⟩]; omega
          have ws2 : IntKind.i64.wrap (((pn + 1 : Nat) : Int) + mn) = ((pn + 1 + mn : Nat) : Int) := by rw [IntWalk.i64_in _ ⟨by omega, by omega⟩]; omega
          have ws3 : IntKind.i64.wrap ((j : Int) + 1) = ((j + 1 : Nat) : Int) := by rw [IntWalk.i64_in _ ⟨by omega, by omega⟩]; omega
          clear hl0 hl1 hl2 hpk hA1 hA2 hfs12 ht0 ht1 hargs12 ht2 n0 n1 n2
          have fin : ∀ (WF : World) (b18 : Nat) (An : Option Addr) (cn : Nat), Upd nob W12 WF → Blk WF b18 26 #[.slice An (l0 ++ l1 ++ l2).length cn] → w.heap.size ≤ b18 → (l0 ++ l1 ++ l2).length ≤ cn → TmsAt (grow D w WF) WF (l0 ++ l1 ++ l2) An 0 →
              ∃ (n f1 : Nat) (nx : Nx) (err : Int) (fv : Value), wiota G (fun f x => wwhnf G n f x) fuel g h args = some (f1, nx, err) ∧ (fv = .func (.func 125) #[] #[.pointer (some ⟨w.heap.size, 0, none⟩), .pointer (some ⟨w8.heap.size, 0, none⟩), .pointer (some ⟨w.heap.size + 1, 0, none⟩), .pointer (some ⟨b18, 0, none⟩)] ∧ err = 0) ∧ NextIs (grow D w WF) WF fv nx ∧ MacIs WF mb ev f1 ∧ Upd (fun q => q = mb) w WF ∧ f1 ≤ fuel := by
           intro WF b18 An cn huF hb18 hb18w hcn htn
           have hzF := huF.size
           have hu0F : Upd (fun q => q = mb) w WF := hu012.trans (huF.mono (fun _ f => f.elim))
           have hDWF : Old D w WF := hDW12.trans (Old.of_upd huF (fun q hq => ⟨fun f => f, (hD10.up hu12) q hq⟩))
           have hu1F : Upd nob W10 WF := hu12.trans huF
           have x5 := B5.out.upd hu1F (fun f => f)
           have x16 := B16.out.upd hu1F (fun f => f)
           have xg := GG.out.upd hu1F (fun f => f)
           have x6 : Blk WF (w.heap.size + 1) 28 #[.int .i64 h.k, .int .i64 h.n, .string h.nm, .int .i64 hp, .int .i64 hq, .slice hB hm hd, .slice hE_ h.ls.length hx, .slice hE' h.ks.length hx'] := (HB6.out.upd hu16 (fun h => by have : w.heap.size + 1 = mb := h; omega)).upd ((hu69.trans hu10).trans hu1F) (fun f => f)
           have hgl : GlIs D WF g #[.int .i64 g.kind, .string g.nm, .int .i64 g.vars, ga0, ga1, ga2, ga3, ga4, ga5, ga6, ga7, gb0, gb1, gb2, gb3, gb4, gb5, gb6, gb7, .string g.ind, .int .i64 g.params, .int .i64 g.indices, .int .i64 g.fields, .slice gC g.ctors.length gcc, .int .i64 g.minors, .slice (some ra) RL rc] := by
            have := HGL.out
            rw [HRL.out] at this
            exact this.old hDWF (fun _ h => h)
           have hhF : TmIs D WF h #[.int .i64 h.k, .int .i64 h.n, .string h.nm, .int .i64 hp, .int .i64 hq, .slice hB hm hd, .slice hE_ h.ls.length hx, .slice hE' h.ks.length hx'] := HH.out.old hDWF (fun _ h => h)
           refine ⟨n, left, some (wlevels r.body h.ls (l0 ++ l1 ++ l2)), 0, _, WRES.out _ HP3.out, ⟨rfl, rfl⟩, .inr ⟨_, _, _, _, rfl, rfl, fun _ _ => by go_simp, fun W hW hin => ?_⟩, Blk.upd BM12.out huF (fun f => f), hu0F, hlef⟩
           have l6 := x6.lt
           have l5' := x5.lt
           have l16' := x16.lt
           have l18' := hb18.lt
           have hb8 : w.heap.size ≤ w8.heap.size := by have := hu06.size; have := hu7.size; have := hu8.size; omega
           refine iota2_any h (l0 ++ l1 ++ l2) w.heap.size w8.heap.size (w.heap.size + 1) b18 gb kn g #[.int .i64 g.kind, .string g.nm, .int .i64 g.vars, ga0, ga1, ga2, ga3, ga4, ga5, ga6, ga7, gb0, gb1, gb2, gb3, gb4, gb5, gb6, gb7, .string g.ind, .int .i64 g.params, .int .i64 g.indices, .int .i64 g.fields, .slice gC g.ctors.length gcc, .int .i64 g.minors, .slice (some ra) RL rc] r (grow D w WF) W hin ((hW _ (.inr ⟨Nat.le_refl _, l5'⟩)).trans x5) ((hW _ (.inr ⟨hb8, l16'⟩)).trans x16) ((hW _ (.inl hgD)).trans xg) (hgl.old (hW.mono fun q hq => .inl hq) (fun q hq => .inl hq)) HR.out
            ⟨_, (hW _ (.inr ⟨by omega, l6⟩)).trans x6, hhF.old (hW.mono fun q hq => .inl hq) (fun q hq => .inl hq)⟩ ⟨An, cn, (hW _ (.inr ⟨hb18w, l18'⟩)).trans hb18, ⟨?_, hcn⟩, htn.old hW (fun _ h => h)⟩
           simp only [List.length_append, N0.out, N1.out, N2.out]
           omega
          have FIN := Lib.hid fin
          clear fin
          refine wp_region_P (by kernel_rfl) ?_
          refine wpAny_of_E (fun X : World => ∀ p : Addr, p.block < W12.heap.size → X.cell? p = W12.cell? p) 25 _ _ _ _ ?_
          have hS : ∀ p : Addr, p.block < W12.heap.size → W12.drew.cell? p = W12.cell? p := fun _ _ => rfl
          refine eT 0 ?_ [] rfl (by kernel_rfl) (by rfl) ?_ hS ?_
          rotate_left; · intro wx hx; clear hx; go_simp; with_reducible rfl
          try simp only [tl]
          refine eT 1 ?_ [] rfl (by kernel_rfl) (by rfl) ?_ hS ?_
          rotate_left
          · intro wx hx
            have q0 := (hx ⟨w.heap.size, 0, none⟩ l52).trans c5
            clear hx
            go_simp
            with_reducible rfl
          try simp only [tl]
          refine eT 2 ?_ [] rfl (by kernel_rfl) (by rfl) ?_ hS ?_
          rotate_left; · intro wx hx; clear hx; go_simp; with_reducible rfl
          try simp only [tl]
          refine eT 3 ?_ [] rfl (by kernel_rfl) (by rfl) ?_ hS ?_
          rotate_left; · intro wx hx; clear hx; go_simp; with_reducible rfl
          try simp only [tl]
          refine eT 4 ?_ [] rfl (by kernel_rfl) (by rfl) ?_ hS ?_
          rotate_left
          · intro wx hx
            have q0 := (hx ⟨gb, 20, none⟩ lg2).trans d20
            clear hx
            go_simp
            with_reducible rfl
          try simp only [tl]
          refine eT 5 (.int .i64 ((pn + 1 : Nat) : Int)) [] rfl (by kernel_rfl) (by rfl) ?_ hS ?_
          · intro wx hx
            rw [← ws1]
            go_simp
          try simp only [tl]
          refine eT 6 ?_ [] rfl (by kernel_rfl) (by rfl) ?_ hS ?_
          rotate_left
          · intro wx hx
            have q0 := (hx ⟨w.heap.size, 0, none⟩ l52).trans c5
            clear hx
            go_simp
            with_reducible rfl
          try simp only [tl]
          refine eT 7 ?_ [] rfl (by kernel_rfl) (by rfl) ?_ hS ?_
          rotate_left; · intro wx hx; clear hx; go_simp; with_reducible rfl
          try simp only [tl]
          refine eT 8 ?_ [] rfl (by kernel_rfl) (by rfl) ?_ hS ?_
          rotate_left; · intro wx hx; clear hx; go_simp; with_reducible rfl
          try simp only [tl]
          refine eT 9 ?_ [] rfl (by kernel_rfl) (by rfl) ?_ hS ?_
          rotate_left
          · intro wx hx
            have q0 := (hx ⟨gb, 24, none⟩ lg2).trans d24
            clear hx
            go_simp
            with_reducible rfl
          try simp only [tl]
          refine eT 10 (.int .i64 ((pn + 1 + mn : Nat) : Int)) [] rfl (by kernel_rfl) (by rfl) ?_ hS ?_
          · intro wx hx
            rw [← ws2]
            go_simp
          try simp only [tl]
          refine eT 11 (.slice A (pn + 1 + mn) c) [] rfl (by kernel_rfl) (by rfl) ?_ hS ?_
          · intro wx hx
            exact run_slice_h8 26 _ _ rfl A N c rfl (pn + 1 + mn) rfl hle1 und_tms 8 sz_tms
          try simp only [tl]
          refine eT 12 ?_ [] rfl (by kernel_rfl) (by rfl) ?_ hS ?_
          rotate_left; · intro wx hx; clear hx; go_simp; with_reducible rfl
          try simp only [tl]
          refine eT 13 ?_ [] rfl (by kernel_rfl) (by rfl) ?_ hS ?_
          rotate_left
          · intro wx hx
            have q0 := (hx ⟨w.heap.size, 0, none⟩ l52).trans c5
            clear hx
            go_simp
            with_reducible rfl
          try simp only [tl]
          refine eT 14 ?_ [] rfl (by kernel_rfl) (by rfl) ?_ hS ?_
          rotate_left; · intro wx hx; clear hx; go_simp; with_reducible rfl
          try simp only [tl]
          refine eT 15 ?_ [] rfl (by kernel_rfl) (by rfl) ?_ hS ?_
          rotate_left; · intro wx hx; clear hx; go_simp; with_reducible rfl
          try simp only [tl]
          refine eT 16 ?_ [] rfl (by kernel_rfl) (by rfl) ?_ hS ?_
          rotate_left
          · intro wx hx
            have q0 := (hx ⟨gb, 20, none⟩ lg2).trans d20
            clear hx
            go_simp
            with_reducible rfl
          try simp only [tl]
          refine eT 17 (.slice A1 (F - pn) (c5_ - pn)) [] rfl (by kernel_rfl) (by rfl) ?_ hS ?_
          · intro wx hx
            rw [← HA1.out]
            exact run_slice_l8 26 _ _ rfl A5 F c5_ rfl pn rfl hpF und_tms 8 sz_tms
          try simp only [tl]
          refine eT 18 ?_ [] rfl (by kernel_rfl) (by rfl) ?_ hS ?_
          rotate_left; · intro wx hx; clear hx; go_simp; with_reducible rfl
          try simp only [tl]
          refine eT 19 ?_ [] rfl (by kernel_rfl) (by rfl) ?_ hS ?_
          rotate_left; · intro wx hx; clear hx; go_simp; with_reducible rfl
          try simp only [tl]
          refine eT 20 (.int .i64 ((j + 1 : Nat) : Int)) [] rfl (by kernel_rfl) (by rfl) ?_ hS ?_
          · intro wx hx
            rw [← ws3]
            go_simp
          try simp only [tl]
          refine eT 21 (.slice A2 (N - (j + 1)) (c - (j + 1))) [] rfl (by kernel_rfl) (by rfl) ?_ hS ?_
          · intro wx hx
            rw [← HA2.out]
            exact run_slice_l8 26 _ _ rfl A N c rfl (j + 1) rfl hle2 und_tms 8 sz_tms
          try simp only [tl]
          refine wpAnyE_br (i := 22) (j := 24) (by kernel_rfl) (by kernel_rfl) (by kernel_rfl) rfl rfl (by rfl) (by rfl) (fun K hK => ?_) (fun K hK => ?_)
          · go_simp
            obtain ⟨v1, hwv1⟩ : ∃ x, (W12.alloc (.cells #[.slice A (pn + 1 + mn) c, .slice A1 (F - pn) (c5_ - pn), .slice A2 (N - (j + 1)) (c - (j + 1))] 26)).drew = x := ⟨_, rfl⟩
            have huv1 : Upd nob W12 v1 := by rw [← hwv1]; exact ((Upd.refl nob W12).alloc _).drew
            have hsv1 : Upd nob W12 v1 := by rw [← hwv1]; exact ((Upd.refl nob W12).alloc _).drew
            have hbv1 : Blk v1 W12.heap.size 26 #[.slice A (pn + 1 + mn) c, .slice A1 (F - pn) (c5_ - pn), .slice A2 (N - (j + 1)) (c - (j + 1))] := by rw [← hwv1]; exact Blk.new W12 _ _
            have hzv1 : v1.heap.size = W12.heap.size + 1 := by rw [← hwv1]; simp
            rw [hwv1]
            clear hwv1
            refine hK _ _ (cells_of_upd huv1) ?_
            clear hK K; try simp only [tl]
            have hS : ∀ p : Addr, p.block < W12.heap.size → v1.cell? p = W12.cell? p := cells_of_upd huv1
            have HBv1 := Lib.hid hbv1
            have HZv1 := Lib.hid hzv1
            clear hbv1 hzv1
            refine wpAnyE_br (i := 23) (j := 24) (by kernel_rfl) (by kernel_rfl) (by kernel_rfl) rfl rfl (by rfl) (by rfl) (fun K hK => ?_) (fun K hK => ?_)
            · go_simp
              have hbs : Blk v1 W12.heap.size 26 #[.slice A l0.length c, .slice A1 l1.length (c5_ - pn), .slice A2 l2.length (c - (j + 1))] := by rw [N0.out, N1.out, N2.out]; exact HBv1.out
              refine (concat_any l0 l1 l2 A A1 A2 c (c5_ - pn) (c - (j + 1)) (W12.heap.size) (grow D w W12) v1 (hDD.up huv1) hbs (T0.out.old (hDD.old huv1) (fun _ h => h)) (T1.out.old (hDD.old huv1) (fun _ h => h)) (T2.out.old (hDD.old huv1) (fun _ h => h)) (by rw [N0.out, N1.out, N2.out]; omega)).mono ?_
              rintro e v2 ⟨An, cn, rfl, hcn, htn, huc⟩
              have huv2 : Upd nob W12 v2 := huv1.trans huc
              refine hK _ _ (cells_of_upd huv2) ?_
              clear hK K; try simp only [tl]
              have hS : ∀ p : Addr, p.block < W12.heap.size → v2.cell? p = W12.cell? p := cells_of_upd huv2
              have HTN := Lib.hid htn
              have hcz := huc.size
              clear htn hbs
              refine wpAnyE_one (i := 24) (by kernel_rfl) (by kernel_rfl) rfl (by rfl) fun K hK => ?_
              go_simp
              obtain ⟨v3, hwv3⟩ : ∃ x, v2.alloc (.cells #[.slice none 0 0] 26) = x := ⟨_, rfl⟩
              have huv3 : Upd nob W12 v3 := by rw [← hwv3]; exact huv2.alloc _
              have hsv3 : Upd nob v2 v3 := by rw [← hwv3]; exact ((Upd.refl nob v2).alloc _)
              have hbv3 : Blk v3 v2.heap.size 26 #[.slice none 0 0] := by rw [← hwv3]; exact Blk.new v2 _ _
              have hzv3 : v3.heap.size = v2.heap.size + 1 := by rw [← hwv3]; simp
              rw [hwv3]
              clear hwv3
              refine hK _ _ (cells_of_upd huv3) ?_
              clear hK K; try simp only [tl]
              have hS : ∀ p : Addr, p.block < W12.heap.size → v3.cell? p = W12.cell? p := cells_of_upd huv3
              have HBv3 := Lib.hid hbv3
              have HZv3 := Lib.hid hzv3
              clear hbv3 hzv3
              obtain ⟨E, hEd⟩ : ∃ E, grow (grow D w W12) v1 v2 = E := ⟨_, rfl⟩
              have hz12w := hu012.size
              have hzC := huv1.size
              have hzv3 := HZv3.out
              have hzv1 := HZv1.out
              have hzv3_ := huv3.size
              have hE1_ : ∀ q, E q → q ≠ v2.heap.size := fun q hq => by
               rw [← hEd] at hq
               rcases hq with hq | hq
               · have := hDD q hq; omega
               have h1 := hq.1; have h2 := hq.2; omega
              have hE2 : ∀ q, E q → grow D w v3 q ∧ q < v3.heap.size := fun q hq => by
               rw [← hEd] at hq
               rcases hq with hq | hq
               · have h0 := hDD q hq
                 exact ⟨hq.imp (fun h => h) (fun h => ⟨h.1, by have := h.2; omega⟩), by omega⟩
               have h1 := hq.1; have h2 := hq.2; exact ⟨.inr ⟨by omega, by omega⟩, by omega⟩
              have HTE := Lib.hid (show TmsAt E v3 (l0 ++ l1 ++ l2) An 0 from by rw [← hEd]; exact HTN.out.old (Within.old (Within.grow (hDD.up huv1) hcz) hsv3) (fun _ h => h))
              have hbf : Blk v3 (v2.heap.size) 26 #[.slice none 0 0] := HBv3.out
              have hbc : v3.cell? ⟨v2.heap.size, 0, none⟩ = some (.slice none 0 0) := hbf.cell 0
              have hbz := hbf.frozen 0
              have hbl := hbf.lt
              have hb12 : W12.heap.size ≤ v2.heap.size := by omega
              have HBF := Lib.hid hbf
              have HE1_ := Lib.hid hE1_
              clear hbf hE1_ hzv3 hzv1
              refine wpAnyE_z (by kernel_rfl) rfl (by rfl) fun K hK => ?_
              go_simp
              refine hK _ _ ?_
              clear hK K; try simp only [tl]
              refine wpAny_done (by kernel_rfl) ?_ _
              refine NoPanic.normal ?_
              have hl3 : (l0 ++ l1 ++ l2).length = l0.length + (l1.length + l2.length) := by simp [Nat.add_assoc]
              have hset : Upd (fun q => q = v2.heap.size) v3 (v3.setCell ⟨v2.heap.size, 0, none⟩ (.slice An (l0 ++ l1 ++ l2).length cn)) := (Upd.refl (fun q => q = v2.heap.size) v3).setCell (p := ⟨v2.heap.size, 0, none⟩) (.inl rfl) _
              have hBW := HBF.out.set 0 (.slice An (l0 ++ l1 ++ l2).length cn)
              obtain ⟨WF, hWF⟩ : ∃ WF, v3.setCell ⟨v2.heap.size, 0, none⟩ (.slice An (l0 ++ l1 ++ l2).length cn) = WF := ⟨_, rfl⟩
              rw [hWF] at hset hBW
              first | rw [hWF] | rw [← hl3, hWF]
              clear hWF
              have hzs := hset.size
              have huWF : Upd nob W12 WF := huv3.trans' hset (fun q hq h => by have : q = v2.heap.size := h; omega)
              have htF : TmsAt (grow D w WF) WF (l0 ++ l1 ++ l2) An 0 := HTE.out.old (D' := grow D w WF) (Old.of_upd hset (fun q hq => ⟨fun h => HE1_.out q hq h, (hE2 q hq).2⟩)) (fun q hq => (hE2 q hq).1.imp (fun h => h) (fun h => ⟨h.1, by omega⟩))
              have hz12' := hu012.size
              have hF := FIN.out WF (v2.heap.size) An cn huWF hBW (by omega) hcn htF
              have HFF := Lib.hid hF
              clear hF htF hBW hset
              go_wp2_with fail
              go_ret2
              obtain ⟨n', f1', nx', err', fv', y1, ⟨y2, y3⟩, y4, y5, y6, y7⟩ := HFF.out
              subst y2 y3
              first
               | exact ⟨n', f1', nx', 0, _, y1, rfl, y4, y5, y6, y7⟩
               | exact ⟨n', f1', nx', 0, y1, _, rfl, y4, y5, y6, y7⟩
            go_simp
            obtain ⟨v2, hwv2⟩ : ∃ x, v1.alloc (.cells #[.slice none 0 0] 26) = x := ⟨_, rfl⟩
            have huv2 : Upd nob W12 v2 := by rw [← hwv2]; exact huv1.alloc _
            have hsv2 : Upd nob v1 v2 := by rw [← hwv2]; exact ((Upd.refl nob v1).alloc _)
            have hbv2 : Blk v2 v1.heap.size 26 #[.slice none 0 0] := by rw [← hwv2]; exact Blk.new v1 _ _
            have hzv2 : v2.heap.size = v1.heap.size + 1 := by rw [← hwv2]; simp
            rw [hwv2]
            clear hwv2
            refine hK _ _ (cells_of_upd huv2) ?_
            clear hK K; try simp only [tl]
            have hS : ∀ p : Addr, p.block < W12.heap.size → v2.cell? p = W12.cell? p := cells_of_upd huv2
            have HBv2 := Lib.hid hbv2
            have HZv2 := Lib.hid hzv2
            clear hbv2 hzv2
            refine wpAnyE_one (i := 23) (by kernel_rfl) (by kernel_rfl) rfl (by rfl) fun K hK => ?_
            go_simp
            have hbs : Blk v2 W12.heap.size 26 #[.slice A l0.length c, .slice A1 l1.length (c5_ - pn), .slice A2 l2.length (c - (j + 1))] := by rw [N0.out, N1.out, N2.out]; exact (HBv1.out.upd hsv2 (fun f => f))
            refine (concat_any l0 l1 l2 A A1 A2 c (c5_ - pn) (c - (j + 1)) (W12.heap.size) (grow D w W12) v2 (hDD.up huv2) hbs (T0.out.old (hDD.old huv2) (fun _ h => h)) (T1.out.old (hDD.old huv2) (fun _ h => h)) (T2.out.old (hDD.old huv2) (fun _ h => h)) (by rw [N0.out, N1.out, N2.out]; omega)).mono ?_
            rintro e v3 ⟨An, cn, rfl, hcn, htn, huc⟩
            have huv3 : Upd nob W12 v3 := huv2.trans huc
            refine hK _ _ (cells_of_upd huv3) ?_
            clear hK K; try simp only [tl]
            have hS : ∀ p : Addr, p.block < W12.heap.size → v3.cell? p = W12.cell? p := cells_of_upd huv3
            have HTN := Lib.hid htn
            have hcz := huc.size
            clear htn hbs
            obtain ⟨E, hEd⟩ : ∃ E, grow (grow D w W12) v2 v3 = E := ⟨_, rfl⟩
            have hz12w := hu012.size
            have hzC := huv2.size
            have hzv2 := HZv2.out
            have hzv1 := HZv1.out
            have hzv3_ := huv3.size
            have hE1_ : ∀ q, E q → q ≠ v1.heap.size := fun q hq => by
             rw [← hEd] at hq
             rcases hq with hq | hq
             · have := hDD q hq; omega
             have h1 := hq.1; have h2 := hq.2; omega
            have hE2 : ∀ q, E q → grow D w v3 q ∧ q < v3.heap.size := fun q hq => by
             rw [← hEd] at hq
             rcases hq with hq | hq
             · have h0 := hDD q hq
               exact ⟨hq.imp (fun h => h) (fun h => ⟨h.1, by have := h.2; omega⟩), by omega⟩
             have h1 := hq.1; have h2 := hq.2; exact ⟨.inr ⟨by omega, by omega⟩, by omega⟩
            have HTE := Lib.hid (show TmsAt E v3 (l0 ++ l1 ++ l2) An 0 from by rw [← hEd]; exact HTN.out)
            have hbf : Blk v3 (v1.heap.size) 26 #[.slice none 0 0] := (HBv2.out.upd huc (fun f => f))
            have hbc : v3.cell? ⟨v1.heap.size, 0, none⟩ = some (.slice none 0 0) := hbf.cell 0
            have hbz := hbf.frozen 0
            have hbl := hbf.lt
            have hb12 : W12.heap.size ≤ v1.heap.size := by omega
            have HBF := Lib.hid hbf
            have HE1_ := Lib.hid hE1_
            clear hbf hE1_ hzv2 hzv1
            refine wpAnyE_z (by kernel_rfl) rfl (by rfl) fun K hK => ?_
            go_simp
            refine hK _ _ ?_
            clear hK K; try simp only [tl]
            refine wpAny_done (by kernel_rfl) ?_ _
            refine NoPanic.normal ?_
            have hl3 : (l0 ++ l1 ++ l2).length = l0.length + (l1.length + l2.length) := by simp [Nat.add_assoc]
            have hset : Upd (fun q => q = v1.heap.size) v3 (v3.setCell ⟨v1.heap.size, 0, none⟩ (.slice An (l0 ++ l1 ++ l2).length cn)) := (Upd.refl (fun q => q = v1.heap.size) v3).setCell (p := ⟨v1.heap.size, 0, none⟩) (.inl rfl) _
            have hBW := HBF.out.set 0 (.slice An (l0 ++ l1 ++ l2).length cn)
            obtain ⟨WF, hWF⟩ : ∃ WF, v3.setCell ⟨v1.heap.size, 0, none⟩ (.slice An (l0 ++ l1 ++ l2).length cn) = WF := ⟨_, rfl⟩
            rw [hWF] at hset hBW
            first | rw [hWF] | rw [← hl3, hWF]
            clear hWF
            have hzs := hset.size
            have huWF : Upd nob W12 WF := huv3.trans' hset (fun q hq h => by have : q = v1.heap.size := h; omega)
            have htF : TmsAt (grow D w WF) WF (l0 ++ l1 ++ l2) An 0 := HTE.out.old (D' := grow D w WF) (Old.of_upd hset (fun q hq => ⟨fun h => HE1_.out q hq h, (hE2 q hq).2⟩)) (fun q hq => (hE2 q hq).1.imp (fun h => h) (fun h => ⟨h.1, by omega⟩))
            have hz12' := hu012.size
            have hF := FIN.out WF (v1.heap.size) An cn huWF hBW (by omega) hcn htF
            have HFF := Lib.hid hF
            clear hF htF hBW hset
            go_wp2_with fail
            go_ret2
            obtain ⟨n', f1', nx', err', fv', y1, ⟨y2, y3⟩, y4, y5, y6, y7⟩ := HFF.out
            subst y2 y3
            first
             | exact ⟨n', f1', nx', 0, _, y1, rfl, y4, y5, y6, y7⟩
             | exact ⟨n', f1', nx', 0, y1, _, rfl, y4, y5, y6, y7⟩
          go_simp
          obtain ⟨v1, hwv1⟩ : ∃ x, (W12.alloc (.cells #[.slice none 0 0] 26)).drew = x := ⟨_, rfl⟩
          have huv1 : Upd nob W12 v1 := by rw [← hwv1]; exact ((Upd.refl nob W12).alloc _).drew
          have hsv1 : Upd nob W12 v1 := by rw [← hwv1]; exact ((Upd.refl nob W12).alloc _).drew
          have hbv1 : Blk v1 W12.heap.size 26 #[.slice none 0 0] := by rw [← hwv1]; exact Blk.new W12 _ _
          have hzv1 : v1.heap.size = W12.heap.size + 1 := by rw [← hwv1]; simp
          rw [hwv1]
          clear hwv1
          refine hK _ _ (cells_of_upd huv1) ?_
          clear hK K; try simp only [tl]
          have hS : ∀ p : Addr, p.block < W12.heap.size → v1.cell? p = W12.cell? p := cells_of_upd huv1
          have HBv1 := Lib.hid hbv1
          have HZv1 := Lib.hid hzv1
          clear hbv1 hzv1
          refine wpAnyE_one (i := 22) (by kernel_rfl) (by kernel_rfl) rfl (by rfl) fun K hK => ?_
          go_simp
          obtain ⟨v2, hwv2⟩ : ∃ x, v1.alloc (.cells #[.slice A (pn + 1 + mn) c, .slice A1 (F - pn) (c5_ - pn), .slice A2 (N - (j + 1)) (c - (j + 1))] 26) = x := ⟨_, rfl⟩
          have huv2 : Upd nob W12 v2 := by rw [← hwv2]; exact huv1.alloc _
          have hsv2 : Upd nob v1 v2 := by rw [← hwv2]; exact ((Upd.refl nob v1).alloc _)
          have hbv2 : Blk v2 v1.heap.size 26 #[.slice A (pn + 1 + mn) c, .slice A1 (F - pn) (c5_ - pn), .slice A2 (N - (j + 1)) (c - (j + 1))] := by rw [← hwv2]; exact Blk.new v1 _ _
          have hzv2 : v2.heap.size = v1.heap.size + 1 := by rw [← hwv2]; simp
          rw [hwv2]
          clear hwv2
          refine hK _ _ (cells_of_upd huv2) ?_
          clear hK K; try simp only [tl]
          have hS : ∀ p : Addr, p.block < W12.heap.size → v2.cell? p = W12.cell? p := cells_of_upd huv2
          have HBv2 := Lib.hid hbv2
          have HZv2 := Lib.hid hzv2
          clear hbv2 hzv2
          refine wpAnyE_one (i := 23) (by kernel_rfl) (by kernel_rfl) rfl (by rfl) fun K hK => ?_
          go_simp
          have hbs : Blk v2 v1.heap.size 26 #[.slice A l0.length c, .slice A1 l1.length (c5_ - pn), .slice A2 l2.length (c - (j + 1))] := by rw [N0.out, N1.out, N2.out]; exact HBv2.out
          refine (concat_any l0 l1 l2 A A1 A2 c (c5_ - pn) (c - (j + 1)) (v1.heap.size) (grow D w W12) v2 (hDD.up huv2) hbs (T0.out.old (hDD.old huv2) (fun _ h => h)) (T1.out.old (hDD.old huv2) (fun _ h => h)) (T2.out.old (hDD.old huv2) (fun _ h => h)) (by rw [N0.out, N1.out, N2.out]; omega)).mono ?_
          rintro e v3 ⟨An, cn, rfl, hcn, htn, huc⟩
          have huv3 : Upd nob W12 v3 := huv2.trans huc
          refine hK _ _ (cells_of_upd huv3) ?_
          clear hK K; try simp only [tl]
          have hS : ∀ p : Addr, p.block < W12.heap.size → v3.cell? p = W12.cell? p := cells_of_upd huv3
          have HTN := Lib.hid htn
          have hcz := huc.size
          clear htn hbs
          obtain ⟨E, hEd⟩ : ∃ E, grow (grow D w W12) v2 v3 = E := ⟨_, rfl⟩
          have hz12w := hu012.size
          have hzC := huv2.size
          have hzv2 := HZv2.out
          have hzv1 := HZv1.out
          have hzv3_ := huv3.size
          have hE1_ : ∀ q, E q → q ≠ W12.heap.size := fun q hq => by
           rw [← hEd] at hq
           rcases hq with hq | hq
           · have := hDD q hq; omega
           have h1 := hq.1; have h2 := hq.2; omega
          have hE2 : ∀ q, E q → grow D w v3 q ∧ q < v3.heap.size := fun q hq => by
           rw [← hEd] at hq
           rcases hq with hq | hq
           · have h0 := hDD q hq
             exact ⟨hq.imp (fun h => h) (fun h => ⟨h.1, by have := h.2; omega⟩), by omega⟩
           have h1 := hq.1; have h2 := hq.2; exact ⟨.inr ⟨by omega, by omega⟩, by omega⟩
          have HTE := Lib.hid (show TmsAt E v3 (l0 ++ l1 ++ l2) An 0 from by rw [← hEd]; exact HTN.out)
          have hbf : Blk v3 (W12.heap.size) 26 #[.slice none 0 0] := ((HBv1.out.upd hsv2 (fun f => f)).upd huc (fun f => f))
          have hbc : v3.cell? ⟨W12.heap.size, 0, none⟩ = some (.slice none 0 0) := hbf.cell 0
          have hbz := hbf.frozen 0
          have hbl := hbf.lt
          have hb12 : W12.heap.size ≤ W12.heap.size := by omega
          have HBF := Lib.hid hbf
          have HE1_ := Lib.hid hE1_
          clear hbf hE1_ hzv2 hzv1
          refine wpAnyE_z (by kernel_rfl) rfl (by rfl) fun K hK => ?_
          go_simp
          refine hK _ _ ?_
          clear hK K; try simp only [tl]
          refine wpAny_done (by kernel_rfl) ?_ _
          refine NoPanic.normal ?_
          have hl3 : (l0 ++ l1 ++ l2).length = l0.length + (l1.length + l2.length) := by simp [Nat.add_assoc]
          have hset : Upd (fun q => q = W12.heap.size) v3 (v3.setCell ⟨W12.heap.size, 0, none⟩ (.slice An (l0 ++ l1 ++ l2).length cn)) := (Upd.refl (fun q => q = W12.heap.size) v3).setCell (p := ⟨W12.heap.size, 0, none⟩) (.inl rfl) _
          have hBW := HBF.out.set 0 (.slice An (l0 ++ l1 ++ l2).length cn)
          obtain ⟨WF, hWF⟩ : ∃ WF, v3.setCell ⟨W12.heap.size, 0, none⟩ (.slice An (l0 ++ l1 ++ l2).length cn) = WF := ⟨_, rfl⟩
          rw [hWF] at hset hBW
          first | rw [hWF] | rw [← hl3, hWF]
          clear hWF
          have hzs := hset.size
          have huWF : Upd nob W12 WF := huv3.trans' hset (fun q hq h => by have : q = W12.heap.size := h; omega)
          have htF : TmsAt (grow D w WF) WF (l0 ++ l1 ++ l2) An 0 := HTE.out.old (D' := grow D w WF) (Old.of_upd hset (fun q hq => ⟨fun h => HE1_.out q hq h, (hE2 q hq).2⟩)) (fun q hq => (hE2 q hq).1.imp (fun h => h) (fun h => ⟨h.1, by omega⟩))
          have hz12' := hu012.size
          have hF := FIN.out WF (W12.heap.size) An cn huWF hBW (by omega) hcn htF
          have HFF := Lib.hid hF
          clear hF htF hBW hset
          go_wp2_with fail
          go_ret2
          obtain ⟨n', f1', nx', err', fv', y1, ⟨y2, y3⟩, y4, y5, y6, y7⟩ := HFF.out
          subst y2 y3
          first
           | exact ⟨n', f1', nx', 0, _, y1, rfl, y4, y5, y6, y7⟩
           | exact ⟨n', f1', nx', 0, y1, _, rfl, y4, y5, y6, y7⟩
        have ene : (((F : Int) - pn) != r.fields) = true := by rw [hwF] at hne; simp [hne]
        have hpk : wpick G g h args j hd_ fs = none := by rw [HPK.out, HPN.out, if_pos (.inr hne)]
        have HP2 := Lib.hid hpk
        clear hpk hne
        go_wp2_with fail
        go_ret2
        first
         | exact ⟨n, left, none, 0, _, WRES.out _ HP2.out, rfl, .inl ⟨rfl, rfl⟩, BM12.out, hu012, hlef⟩
         | exact ⟨n, left, none, 0, WRES.out _ HP2.out, _, rfl, .inl ⟨rfl, rfl⟩, BM12.out, hu012, hlef⟩
     have t4 : (cg.kind != 4) = true := by simp [k4]
     have hpk : wpick G g h args j hd_ fs = none := by unfold wpick; rw [if_neg (fun h => h K7.out), hfs]; simp only; rw [if_pos (.inl k4)]
     have HPK := Lib.hid hpk
     clear hpk hfs k4
     refine wp_region_P (by kernel_rfl) ?_
     refine wpAny_of_held (S := fun X : World => ∀ p : Addr, p.block < W9.heap.size → X.cell? p = W9.cell? p) _ _ _ _ ?_
     have hS : ∀ p : Addr, p.block < W9.heap.size → W9.drew.cell? p = W9.cell? p := fun _ _ => rfl
     refine hT 0 ?_ rfl (by kernel_rfl) (by rfl) ?_ hS ?_
     rotate_left; · intro wx hx; clear hx; go_simp; with_reducible rfl
     try simp only [tl]
     refine hT 1 ?_ rfl (by kernel_rfl) (by rfl) ?_ hS ?_
     rotate_left
     · intro wx hx
       have q0 := (hx ⟨w5.heap.size, 0, none⟩ l13).trans s0
       clear hx
       go_simp
       with_reducible rfl
     try simp only [tl]
     refine hT 2 ?_ rfl (by kernel_rfl) (by rfl) ?_ hS ?_
     rotate_left; · intro wx hx; clear hx; go_simp; with_reducible rfl
     try simp only [tl]
     refine hT 3 ?_ rfl (by kernel_rfl) (by rfl) ?_ hS ?_
     rotate_left; · intro wx hx; clear hx; go_simp; with_reducible rfl
     try simp only [tl]
     refine hT 4 ?_ rfl (by kernel_rfl) (by rfl) ?_ hS ?_
     rotate_left; · intro wx hx; clear hx; go_simp; with_reducible rfl
     try simp only [tl]
     refine hT 5 ?_ rfl (by kernel_rfl) (by rfl) ?_ hS ?_
     rotate_left; · intro wx hx; clear hx; go_simp; with_reducible rfl
     try simp only [tl]
     refine hT 6 ?_ rfl (by kernel_rfl) (by rfl) ?_ hS ?_
     rotate_left; · intro wx hx; clear hx; go_simp; with_reducible rfl
     try simp only [tl]
     refine hT 7 ?_ rfl (by kernel_rfl) (by rfl) ?_ hS ?_
     rotate_left; · intro wx hx; clear hx; go_simp; with_reducible rfl
     try simp only [tl]
     refine hT 8 ?_ rfl (by kernel_rfl) (by rfl) ?_ hS ?_
     rotate_left; · intro wx hx; clear hx; go_simp; with_reducible rfl
     try simp only [tl]
     refine hT 9 ?_ rfl (by kernel_rfl) (by rfl) ?_ hS ?_
     rotate_left; · intro wx hx; clear hx; go_simp; with_reducible rfl
     try simp only [tl]
     refine hT 10 ?_ rfl (by kernel_rfl) (by rfl) ?_ hS ?_
     rotate_left; · intro wx hx; clear hx; go_simp; with_reducible rfl
     try simp only [tl]
     refine hT 11 ?_ rfl (by kernel_rfl) (by rfl) ?_ hS ?_
     rotate_left
     · intro wx hx
       have q0 := (hx ⟨cb, 0, none⟩ lc).trans c0
       clear hx
       go_simp
       with_reducible rfl
     try simp only [tl]
     refine hT 12 ?_ rfl (by kernel_rfl) (by rfl) ?_ hS ?_
     rotate_left; · intro wx hx; clear hx; go_simp; with_reducible rfl
     try simp only [tl]
     refine hT 13 ?_ rfl (by kernel_rfl) (by rfl) ?_ hS ?_
     rotate_left; · intro wx hx; clear hx; go_simp; with_reducible rfl
     try simp only [tl]
     refine hT 14 ?_ rfl (by kernel_rfl) (by rfl) ?_ hS ?_
     rotate_left; · intro wx hx; clear hx; go_simp; with_reducible rfl
     try simp only [tl]
     refine wpAnyH_take (i := 15) (v := undef) rfl (by kernel_rfl) (by kernel_rfl) (by kernel_rfl) (fun _ _ _ h => h) (Or.inr ⟨by rfl, by rfl⟩) hS ?_
     try simp only [tl]
     refine wpAnyH_take (i := 16) (v := undef) rfl (by kernel_rfl) (by kernel_rfl) (by kernel_rfl) (fun _ _ _ h => h) (Or.inr ⟨by rfl, by rfl⟩) hS ?_
     try simp only [tl]
     refine wpAnyH_take (i := 17) (v := undef) rfl (by kernel_rfl) (by kernel_rfl) (by kernel_rfl) (fun _ _ _ h => h) (Or.inr ⟨by rfl, by rfl⟩) hS ?_
     try simp only [tl]
     refine wpAnyH_take (i := 18) (v := undef) rfl (by kernel_rfl) (by kernel_rfl) (by kernel_rfl) (fun _ _ _ h => h) (Or.inr ⟨by rfl, by rfl⟩) hS ?_
     try simp only [tl]
     refine wpAnyH_take (i := 19) (v := undef) rfl (by kernel_rfl) (by kernel_rfl) (by kernel_rfl) (fun _ _ _ h => h) (Or.inr ⟨by rfl, by rfl⟩) hS ?_
     try simp only [tl]
     refine wpAnyH_take (i := 20) (v := undef) rfl (by kernel_rfl) (by kernel_rfl) (by kernel_rfl) (fun _ _ _ h => h) (Or.inr ⟨by rfl, by rfl⟩) hS ?_
     try simp only [tl]
     refine wpAnyH_take (i := 21) (v := undef) rfl (by kernel_rfl) (by kernel_rfl) (by kernel_rfl) (fun _ _ _ h => h) (Or.inr ⟨by rfl, by rfl⟩) hS ?_
     try simp only [tl]
     refine wpAnyH_take (i := 22) (v := undef) rfl (by kernel_rfl) (by kernel_rfl) (by kernel_rfl) (fun _ _ _ h => h) (Or.inr ⟨by rfl, by rfl⟩) hS ?_
     try simp only [tl]
     refine wpAnyH_take (i := 23) (v := undef) rfl (by kernel_rfl) (by kernel_rfl) (by kernel_rfl) (fun _ _ _ h => h) (Or.inr ⟨by rfl, by rfl⟩) hS ?_
     try simp only [tl]
     refine hT 24 ?_ rfl (by kernel_rfl) (by rfl) ?_ hS ?_
     rotate_left; · intro wx hx; clear hx; go_simp; with_reducible rfl
     try simp only [tl]
     refine hT 25 ?_ rfl (by kernel_rfl) (by rfl) ?_ hS ?_
     rotate_left; · intro wx hx; clear hx; go_simp; with_reducible rfl
     try simp only [tl]
     refine wpAnyH_take (i := 26) (v := undef) rfl (by kernel_rfl) (by kernel_rfl) (by kernel_rfl) (fun _ _ _ h => h) (Or.inr ⟨by rfl, by rfl⟩) hS ?_
     try simp only [tl]
     refine wpAnyH_take (i := 27) (v := undef) rfl (by kernel_rfl) (by kernel_rfl) (by kernel_rfl) (fun _ _ _ h => h) (Or.inr ⟨by rfl, by rfl⟩) hS ?_
     try simp only [tl]
     refine hT 28 ?_ rfl (by kernel_rfl) (by rfl) ?_ hS ?_
     rotate_left; · intro wx hx; clear hx; go_simp; with_reducible rfl
     try simp only [tl]
     refine wpAnyH_done (by kernel_rfl) ?_ _
     refine NoPanic.normal ?_
     go_wp2_with fail
     go_ret2
     exact ⟨n, left, none, 0, _, WRES.out _ HPK.out, rfl, .inl ⟨rfl, rfl⟩, BM9.out.drew', hu09.drew, hlef⟩
   have t7 : (hd_.k != 7) = true := by simp [k7]
   have hpk : wpick G g h args j hd_ fs = none := by unfold wpick; rw [if_pos k7]
   have HPK := Lib.hid hpk
   clear hpk k7
   refine wp_region_P (by kernel_rfl) ?_
   refine wpAny_of_held (S := fun X : World => ∀ p : Addr, p.block < W9.heap.size → X.cell? p = W9.cell? p) _ _ _ _ ?_
   have hS : ∀ p : Addr, p.block < W9.heap.size → W9.drew.cell? p = W9.cell? p := fun _ _ => rfl
   refine hT 0 ?_ rfl (by kernel_rfl) (by rfl) ?_ hS ?_
   rotate_left; · intro wx hx; clear hx; go_simp; with_reducible rfl
   try simp only [tl]
   refine hT 1 ?_ rfl (by kernel_rfl) (by rfl) ?_ hS ?_
   rotate_left
   · intro wx hx
     have q0 := (hx ⟨w5.heap.size, 0, none⟩ l13).trans s0
     clear hx
     go_simp
     with_reducible rfl
   try simp only [tl]
   refine hT 2 ?_ rfl (by kernel_rfl) (by rfl) ?_ hS ?_
   rotate_left; · intro wx hx; clear hx; go_simp; with_reducible rfl
   try simp only [tl]
   refine hT 3 ?_ rfl (by kernel_rfl) (by rfl) ?_ hS ?_
   rotate_left; · intro wx hx; clear hx; go_simp; with_reducible rfl
   try simp only [tl]
   refine wpAnyH_take (i := 4) (v := undef) rfl (by kernel_rfl) (by kernel_rfl) (by kernel_rfl) (fun _ _ _ h => h) (Or.inr ⟨by rfl, by rfl⟩) hS ?_
   try simp only [tl]
   refine wpAnyH_take (i := 5) (v := undef) rfl (by kernel_rfl) (by kernel_rfl) (by kernel_rfl) (fun _ _ _ h => h) (Or.inr ⟨by rfl, by rfl⟩) hS ?_
   try simp only [tl]
   refine hT 6 ?_ rfl (by kernel_rfl) (by rfl) ?_ hS ?_
   rotate_left; · intro wx hx; clear hx; go_simp; with_reducible rfl
   try simp only [tl]
   refine hT 7 ?_ rfl (by kernel_rfl) (by rfl) ?_ hS ?_
   rotate_left; · intro wx hx; clear hx; go_simp; with_reducible rfl
   try simp only [tl]
   refine wpAnyH_take (i := 8) (v := undef) rfl (by kernel_rfl) (by kernel_rfl) (by kernel_rfl) (fun _ _ _ h => h) (Or.inr ⟨by rfl, by rfl⟩) hS ?_
   try simp only [tl]
   refine wpAnyH_take (i := 9) (v := undef) rfl (by kernel_rfl) (by kernel_rfl) (by kernel_rfl) (fun _ _ _ h => h) (Or.inr ⟨by rfl, by rfl⟩) hS ?_
   try simp only [tl]
   refine wpAnyH_take (i := 10) (v := undef) rfl (by kernel_rfl) (by kernel_rfl) (by kernel_rfl) (fun _ _ _ h => h) (Or.inr ⟨by rfl, by rfl⟩) hS ?_
   try simp only [tl]
   refine wpAnyH_take (i := 11) (v := undef) rfl (by kernel_rfl) (by kernel_rfl) (by kernel_rfl) (fun _ _ _ h => h) (Or.inr ⟨by rfl, by rfl⟩) hS ?_
   try simp only [tl]
   refine wpAnyH_take (i := 12) (v := undef) rfl (by kernel_rfl) (by kernel_rfl) (by kernel_rfl) (fun _ _ _ h => h) (Or.inr ⟨by rfl, by rfl⟩) hS ?_
   try simp only [tl]
   refine hT 13 ?_ rfl (by kernel_rfl) (by rfl) ?_ hS ?_
   rotate_left; · intro wx hx; clear hx; go_simp; with_reducible rfl
   try simp only [tl]
   refine hT 14 ?_ rfl (by kernel_rfl) (by rfl) ?_ hS ?_
   rotate_left; · intro wx hx; clear hx; go_simp; with_reducible rfl
   try simp only [tl]
   refine wpAnyH_take (i := 15) (v := undef) rfl (by kernel_rfl) (by kernel_rfl) (by kernel_rfl) (fun _ _ _ h => h) (Or.inr ⟨by rfl, by rfl⟩) hS ?_
   try simp only [tl]
   refine wpAnyH_take (i := 16) (v := undef) rfl (by kernel_rfl) (by kernel_rfl) (by kernel_rfl) (fun _ _ _ h => h) (Or.inr ⟨by rfl, by rfl⟩) hS ?_
   try simp only [tl]
   refine wpAnyH_take (i := 17) (v := undef) rfl (by kernel_rfl) (by kernel_rfl) (by kernel_rfl) (fun _ _ _ h => h) (Or.inr ⟨by rfl, by rfl⟩) hS ?_
   try simp only [tl]
   refine wpAnyH_take (i := 18) (v := undef) rfl (by kernel_rfl) (by kernel_rfl) (by kernel_rfl) (fun _ _ _ h => h) (Or.inr ⟨by rfl, by rfl⟩) hS ?_
   try simp only [tl]
   refine wpAnyH_take (i := 19) (v := undef) rfl (by kernel_rfl) (by kernel_rfl) (by kernel_rfl) (fun _ _ _ h => h) (Or.inr ⟨by rfl, by rfl⟩) hS ?_
   try simp only [tl]
   refine wpAnyH_take (i := 20) (v := undef) rfl (by kernel_rfl) (by kernel_rfl) (by kernel_rfl) (fun _ _ _ h => h) (Or.inr ⟨by rfl, by rfl⟩) hS ?_
   try simp only [tl]
   refine wpAnyH_take (i := 21) (v := undef) rfl (by kernel_rfl) (by kernel_rfl) (by kernel_rfl) (fun _ _ _ h => h) (Or.inr ⟨by rfl, by rfl⟩) hS ?_
   try simp only [tl]
   refine wpAnyH_take (i := 22) (v := undef) rfl (by kernel_rfl) (by kernel_rfl) (by kernel_rfl) (fun _ _ _ h => h) (Or.inr ⟨by rfl, by rfl⟩) hS ?_
   try simp only [tl]
   refine wpAnyH_take (i := 23) (v := undef) rfl (by kernel_rfl) (by kernel_rfl) (by kernel_rfl) (fun _ _ _ h => h) (Or.inr ⟨by rfl, by rfl⟩) hS ?_
   try simp only [tl]
   refine hT 24 ?_ rfl (by kernel_rfl) (by rfl) ?_ hS ?_
   rotate_left; · intro wx hx; clear hx; go_simp; with_reducible rfl
   try simp only [tl]
   refine hT 25 ?_ rfl (by kernel_rfl) (by rfl) ?_ hS ?_
   rotate_left; · intro wx hx; clear hx; go_simp; with_reducible rfl
   try simp only [tl]
   refine wpAnyH_take (i := 26) (v := undef) rfl (by kernel_rfl) (by kernel_rfl) (by kernel_rfl) (fun _ _ _ h => h) (Or.inr ⟨by rfl, by rfl⟩) hS ?_
   try simp only [tl]
   refine wpAnyH_take (i := 27) (v := undef) rfl (by kernel_rfl) (by kernel_rfl) (by kernel_rfl) (fun _ _ _ h => h) (Or.inr ⟨by rfl, by rfl⟩) hS ?_
   try simp only [tl]
   refine hT 28 ?_ rfl (by kernel_rfl) (by rfl) ?_ hS ?_
   rotate_left; · intro wx hx; clear hx; go_simp; with_reducible rfl
   try simp only [tl]
   refine wpAnyH_done (by kernel_rfl) ?_ _
   refine NoPanic.normal ?_
   go_wp2_with fail
   go_ret2
   exact ⟨n, left, none, 0, _, WRES.out _ HPK.out, rfl, .inl ⟨rfl, rfl⟩, BM9.out.drew', hu09.drew, hlef⟩
 have e2 : (err != 0) = true := by simp [herr]
 have hres : wiota G (fun f x => wwhnf G n f x) fuel g h args = some (left, none, err) := by
  unfold wiota
  rw [HN.out, HAT.out, if_neg (by omega)]
  have e3 : ((j : Int)).toNat = j := by omega
  rw [e3, HX0.out]
  simp only
  rw [HW3.out]
  simp only
  rw [if_pos herr]
 have HR := Lib.hid hres
 clear herr hres
 go_wp2_with fail
 go_ret2
 exact ⟨n, left, none, err, _, HR.out, rfl, .inl ⟨rfl, rfl⟩, Blk.upd HM3.out hu4 (fun f => f), hu04, hlef⟩
end Go.Proofs.YtiampoebdmflgaaGreat
