/- Texts put one behind the other: Wnil, Post, Open, Openw. -/
import Derived.Test.YtiampoebdmflgaaM9
import Derived.Test.YtiampoebdmflgaaM10
import Derived.Test.YtiampoebdmflgaaRows
import Derived.Test.YtiampoebdmflgaaProg
import Derived.WalkKit
import Derived.ProofKit
import Derived.OpenShut
import Derived.Carry
import Derived.Test.YtiampoebdmflgaaM2
import Derived.Test.YtiampoebdmflgaaM3
import Derived.JoinedCond
import Derived.Lib.SmallJoins
import Derived.Deep.Slices

/- WhnfNil walked. -/
namespace Go.Proofs.Ytiampoebdmflgaa
open Go.RowKit
set_option linter.unusedVariables false
set_option maxRecDepth 100000
set_option maxHeartbeats 8000000
set_option linter.unusedSimpArgs false
theorem TmIs.nb {w w' : World} {S : Nat → Prop} {b : Nat} {t : Tm} {cs : Array Value} (h : TmIs (NB b w) w t cs) (hu : Upd S w w') (hS : ∀ q, S q → q = b ∨ w.heap.size ≤ q) : TmIs (NB b w') w' t cs :=
 h.old (Old.of_upd hu fun q hq => ⟨fun f => (hS q f).elim hq.2 (fun h => absurd hq.1 (by omega)), hq.1⟩) (fun q hq => ⟨Nat.lt_of_lt_of_le hq.1 hu.size, hq.2⟩)
theorem NB_in (b : Nat) (w : World) : Within (NB b w) w := fun _ h => h.1
set_option maxHeartbeats 16000000 in
theorem whnfnil_any (t : Tm) (nm : ByteArray) (fuel : Int) (cs : Array Value) (D : Nat → Prop) (w : World) (hD : Within D w) (ht : TmIs D w t cs) :
    Calls Try.prog 7 #[.agg cs, .string nm, .int .i64 fuel] w fun e w' => e = .returned (.bool true) ∧ Below w.heap.size w w' := by
 have hz := tm_zero
 have hgz := gl_zero
 obtain ⟨yp, yq, yB, ym, yd, yE, yx, yE', yx', rfl⟩ := ht.lit8
 obtain ⟨W1, hW1⟩ : ∃ W1, w.alloc (.cells #[.int .i64 t.k, .int .i64 t.n, .string t.nm, .int .i64 yp, .int .i64 yq, .slice yB ym yd, .slice yE t.ls.length yx, .slice yE' t.ks.length yx'] 27) = W1 := ⟨_, rfl⟩
 have huW1 : Upd nob w W1 := by rw [← hW1]; exact (Upd.refl nob w).alloc _
 have hsW1 : W1.heap.size = w.heap.size + 1 := by rw [← hW1]; simp
 have b0 : Blk W1 (w.heap.size) 27 #[.int .i64 t.k, .int .i64 t.n, .string t.nm, .int .i64 yp, .int .i64 yq, .slice yB ym yd, .slice yE t.ls.length yx, .slice yE' t.ks.length yx'] := by
  rw [← hW1]
  have h := Blk.new (w) 27 #[.int .i64 t.k, .int .i64 t.n, .string t.nm, .int .i64 yp, .int .i64 yq, .slice yB ym yd, .slice yE t.ls.length yx, .slice yE' t.ks.length yx']
  exact h
 have h1 : TmIs D W1 t #[.int .i64 t.k, .int .i64 t.n, .string t.nm, .int .i64 yp, .int .i64 yq, .slice yB ym yd, .slice yE t.ls.length yx, .slice yE' t.ks.length yx'] := ht.old (hD.old huW1) (fun _ h => h)
 have hD1 : Within D W1 := hD.up huW1
 have H1 := Lib.hid h1
 have HB1 := Lib.hid b0
 have HW1 := Lib.hid hW1
 have hd1 : ∀ q, D q → q < W1.heap.size := fun q hq => hD1 q hq
 have HS1 := Lib.hid hsW1
 clear hW1 b0 ht h1 hsW1
 go_enter Try.func7, Try.ntmps7
 go_wp2_with fail
 rw [HW1.out]
 have r1 := HB1.out.rowAt
 have hlt1 := HB1.out.lt
 refine wp_region_post (R := fun a0 a' w' => ∃ (b : Nat) (u : Tm) (err : Int) (left n : Nat) (p q : Int) (B : Option Addr) (m d : Nat) (E : Option Addr) (x : Nat) (E' : Option Addr) (x' : Nat), a' = puts a0 [(17, (.pointer none)), (18, (.agg #[.int .i64 t.k, .int .i64 t.n, .string t.nm, .int .i64 yp, .int .i64 yq, .slice yB ym yd, .slice yE t.ls.length yx, .slice yE' t.ks.length yx'])), (19, (.int .i64 fuel)), (20, (.int .i64 (min fuel 3000))), (21, (.tuple #[.agg #[.int .i64 u.k, .int .i64 u.n, .string u.nm, .int .i64 p, .int .i64 q, .slice B m d, .slice E u.ls.length x, .slice E' u.ks.length x'], .int .i64 left, .int .i64 err])), (16, (.tuple #[.agg #[.int .i64 u.k, .int .i64 u.n, .string u.nm, .int .i64 p, .int .i64 q, .slice B m d, .slice E u.ls.length x, .slice E' u.ks.length x'], .int .i64 left, .int .i64 err])), (22, (.agg #[.int .i64 u.k, .int .i64 u.n, .string u.nm, .int .i64 p, .int .i64 q, .slice B m d, .slice E u.ls.length x, .slice E' u.ks.length x'])), (23, (.int .i64 left)), (24, (.int .i64 err)), (8, (.pointer (some ⟨b, 0, none⟩))), (9, (.int .i64 left)), (10, (.int .i64 err))] ∧ Blk w' b 27 #[.int .i64 u.k, .int .i64 u.n, .string u.nm, .int .i64 p, .int .i64 q, .slice B m d, .slice E u.ls.length x, .slice E' u.ks.length x'] ∧ TmIs (NB b w') w' u #[.int .i64 u.k, .int .i64 u.n, .string u.nm, .int .i64 p, .int .i64 q, .slice B m d, .slice E u.ls.length x, .slice E' u.ks.length x'] ∧ wwhnf [] n (wfuel (min fuel 3000)).toNat t = some (u, err, left) ∧ W1.heap.size ≤ b ∧ Upd nob W1 w') ?_ ?_
 rotate_left
 rotate_left
 refine wp_region_P (by kernel_rfl) ?_
 refine wpAny_of_E (fun X : World => ∀ p : Addr, p.block < W1.heap.size → X.cell? p = W1.cell? p) 12 _ _ _ _ ?_
 have hS : ∀ p : Addr, p.block < W1.heap.size → W1.drew.cell? p = W1.cell? p := fun _ _ => rfl
 refine wpAnyE_take (i := 0) (v := ?_) [] rfl (by kernel_rfl) (fun _ _ _ h => h) (Or.inl ⟨by rfl, ?_⟩) hS ?_
 rotate_left
 · intro wx hx
   clear hx
   go_simp
   with_reducible rfl
 try simp only [tl]
 refine wpAnyE_take (i := 1) (v := (.agg #[.int .i64 t.k, .int .i64 t.n, .string t.nm, .int .i64 yp, .int .i64 yq, .slice yB ym yd, .slice yE t.ls.length yx, .slice yE' t.ks.length yx'])) [] rfl (by kernel_rfl) (fun _ _ _ h => h) (Or.inl ⟨by rfl, ?_⟩) hS ?_
 · intro wx hx
   exact run_load_at 27 (.tmp 3) rfl ⟨w.heap.size, 0, none⟩ rfl #[.int .i64 t.k, .int .i64 t.n, .string t.nm, .int .i64 yp, .int .i64 yq, .slice yB ym yd, .slice yE t.ls.length yx, .slice yE' t.ks.length yx'] _ (row_on r1 hlt1 hx) Try.underlying27 rfl tm_size
 try simp only [tl]
 refine wpAnyE_take (i := 2) (v := ?_) [] rfl (by kernel_rfl) (fun _ _ _ h => h) (Or.inl ⟨by rfl, ?_⟩) hS ?_
 rotate_left
 · intro wx hx
   clear hx
   go_simp
   with_reducible rfl
 try simp only [tl]
 refine wpAnyE_br (i := 3) (j := 9) (by kernel_rfl) (by kernel_rfl) (by kernel_rfl) rfl rfl (by rfl) (by rfl) (fun K hK => ?_) (fun K hK => ?_)
 · go_simp
   refine (little_any fuel W1.drew).mono ?_
   rintro e w0' ⟨rfl, rfl⟩
   refine hK _ _ hS ?_
   clear hK K
   try simp only [tl]
   refine wpAnyE_br (i := 4) (j := 9) (by kernel_rfl) (by kernel_rfl) (by kernel_rfl) rfl rfl (by rfl) (by rfl) (fun K hK => ?_) (fun K hK => ?_)
   · go_simp
     refine (whnf_top [] _ (min fuel 3000) t (There W1) W1.drew _ (fun _ h => h) (.inl ⟨rfl, rfl⟩) (H1.out.old (hD1.old (Upd.refl nob W1).drew) (fun q hq => by have h1 := hd1 q hq; exact (by omega : q < W1.heap.size)))).mono ?_
     rintro e w8 ⟨n8, u, err, left, ucs, hwh, rfl, ht8, hn8, hle8⟩
     have huw8 : Upd nob W1.drew w8 := hn8
     have hUw8 : Upd nob W1 w8 := ((Upd.refl nob W1).drew).trans huw8
     have hsw8 : W1.heap.size ≤ w8.heap.size := huw8.size
     refine hK _ _ (cells_of_upd hUw8) ?_
     clear hK K
     try simp only [tl]
     have hS : ∀ p : Addr, p.block < W1.heap.size → w8.cell? p = W1.cell? p := cells_of_upd hUw8
     obtain ⟨p, q, B, m, d, E, x, E', x', rfl⟩ := ht8.lit8
     have HO8 := Lib.hid ht8.oneCell.2
     have HWH := Lib.hid hwh
     have ht : TmIs (There w8) w8 u #[.int .i64 u.k, .int .i64 u.n, .string u.nm, .int .i64 p, .int .i64 q, .slice B m d, .slice E u.ls.length x, .slice E' u.ks.length x'] := ht8.old (Old.refl _ _) (fun q hq => by
      rcases hq with h | h
      · have h : q < W1.heap.size := h; exact (by omega : q < w8.heap.size)
      · exact h.2)
     have HT := Lib.hid ht
     clear ht8 hwh hle8 ht
     refine wpAnyE_take (i := 5) (v := ?_) [] rfl (by kernel_rfl) (fun _ _ _ h => h) (Or.inl ⟨by rfl, ?_⟩) hS ?_
     rotate_left
     · intro wx hx
       clear hx
       go_simp
       with_reducible rfl
     try simp only [tl]
     refine wpAnyE_take (i := 6) (v := ?_) [] rfl (by kernel_rfl) (fun _ _ _ h => h) (Or.inl ⟨by rfl, ?_⟩) hS ?_
     rotate_left
     · intro wx hx
       clear hx
       go_simp
       with_reducible rfl
     try simp only [tl]
     refine wpAnyE_take (i := 7) (v := ?_) [] rfl (by kernel_rfl) (fun _ _ _ h => h) (Or.inl ⟨by rfl, ?_⟩) hS ?_
     rotate_left
     · intro wx hx
       clear hx
       go_simp
       with_reducible rfl
     try simp only [tl]
     refine wpAnyE_take (i := 8) (v := ?_) [] rfl (by kernel_rfl) (fun _ _ _ h => h) (Or.inl ⟨by rfl, ?_⟩) hS ?_
     rotate_left
     · intro wx hx
       clear hx
       go_simp
       with_reducible rfl
     try simp only [tl]
     refine wpAnyE_one (i := 9) (by kernel_rfl) (by kernel_rfl) rfl (by rfl) fun K hK => ?_
     go_simp
     have huwa : Upd nob w8 (w8.alloc (.cells #[.int .i64 0, .int .i64 0, .string ByteArray.empty, .int .i64 0, .int .i64 0, .slice none 0 0, .slice none 0 0, .slice none 0 0] 27)) := (Upd.refl nob w8).alloc _
     obtain ⟨wa, hwwa⟩ : ∃ wa, w8.alloc (.cells #[.int .i64 0, .int .i64 0, .string ByteArray.empty, .int .i64 0, .int .i64 0, .slice none 0 0, .slice none 0 0, .slice none 0 0] 27) = wa := ⟨_, rfl⟩
     have hAwa : Blk wa w8.heap.size 27 #[.int .i64 0, .int .i64 0, .string ByteArray.empty, .int .i64 0, .int .i64 0, .slice none 0 0, .slice none 0 0, .slice none 0 0] := by rw [← hwwa]; exact Blk.new w8 _ _
     rw [hwwa] at huwa ⊢
     clear hwwa
     have hUwa : Upd nob W1 wa := (hUw8).trans huwa
     have hswa : w8.heap.size + 1 ≤ wa.heap.size := hAwa.lt
     have hgwa : W1.heap.size ≤ w8.heap.size := (hUw8).size
     refine hK _ _ (cells_of_upd hUwa) ?_
     clear hK K
     try simp only [tl]
     have hS : ∀ p : Addr, p.block < W1.heap.size → wa.cell? p = W1.cell? p := cells_of_upd hUwa
     have HTa := Lib.hid (HT.out.old (D' := NB (w8.heap.size) wa) (Old.of_upd huwa (fun q hq => ⟨fun f => f, hq⟩)) (fun q hq => by have h : q < w8.heap.size := hq; exact ⟨by omega, by omega⟩))
     refine wpAnyE_one (i := 10) (by kernel_rfl) (by kernel_rfl) rfl (by rfl) fun K hK => ?_
     refine owp_store_blk 27 (.tmp 8) (.tmp 22) rfl rfl (w8.heap.size) _ rfl rfl 27 _ hAwa tm_size rfl HO8.out ?_
     obtain ⟨gb, hgb⟩ : ∃ gb, w8.heap.size = gb := ⟨_, rfl⟩
     have hgW : W1.heap.size ≤ gb := by rw [← hgb]; exact (by omega)
     have hB := (hAwa).row #[.int .i64 u.k, .int .i64 u.n, .string u.nm, .int .i64 p, .int .i64 q, .slice B m d, .slice E u.ls.length x, .slice E' u.ks.length x']
     obtain ⟨wS, hwwS⟩ : ∃ WF, wa.setRow (w8.heap.size) #[.int .i64 u.k, .int .i64 u.n, .string u.nm, .int .i64 p, .int .i64 q, .slice B m d, .slice E u.ls.length x, .slice E' u.ks.length x'] = WF := ⟨_, rfl⟩
     have huwS : Upd (fun q => q = gb) wa wS := by rw [← hwwS, ← hgb]; exact (Upd.refl (fun q => q = w8.heap.size) wa).setRow (.inl rfl) _
     rw [hwwS] at hB ⊢
     clear hwwS
     have hUwS : Upd nob W1 wS := (hUwa).trans' huwS (fun q hq h => by have h : q = gb := h; omega)
     refine hK _ _ (cells_of_upd hUwS) ?_
     clear hK K
     try simp only [tl]
     have hS : ∀ p : Addr, p.block < W1.heap.size → wS.cell? p = W1.cell? p := cells_of_upd hUwS
     refine wpAnyE_one (i := 11) (by kernel_rfl) (by kernel_rfl) rfl (by rfl) fun K hK => ?_
     go_simp
     refine hK _ _ hS ?_
     clear hK K
     try simp only [tl]
     refine wpAnyE_z (by kernel_rfl) rfl (by rfl) fun K hK => ?_
     go_simp
     refine hK _ _ ?_
     clear hK K
     try simp only [tl]
     refine wpAny_done (by kernel_rfl) ?_ _
     refine NoPanic.normal ?_
     have hfin : TmIs (NB gb wS) wS u #[.int .i64 u.k, .int .i64 u.n, .string u.nm, .int .i64 p, .int .i64 q, .slice B m d, .slice E u.ls.length x, .slice E' u.ks.length x'] := TmIs.nb (by rw [← hgb]; exact HTa.out) huwS (fun q h => .inl h)
     exact ⟨rfl, gb, u, err, left, n8, p, q, B, m, d, E, x, E', x', by rw [← hgb]; simp only [puts]; try simp only [tl], by rw [← hgb]; exact hB, hfin, HWH.out, hgW, hUwS⟩
   · go_simp
     have huwa : Upd nob W1.drew ((W1.alloc (.cells #[.int .i64 0, .int .i64 0, .string ByteArray.empty, .int .i64 0, .int .i64 0, .slice none 0 0, .slice none 0 0, .slice none 0 0] 27)).drew) := (Upd.refl nob W1.drew).alloc _
     obtain ⟨wa, hwwa⟩ : ∃ wa, (W1.alloc (.cells #[.int .i64 0, .int .i64 0, .string ByteArray.empty, .int .i64 0, .int .i64 0, .slice none 0 0, .slice none 0 0, .slice none 0 0] 27)).drew = wa := ⟨_, rfl⟩
     have hAwa : Blk wa W1.heap.size 27 #[.int .i64 0, .int .i64 0, .string ByteArray.empty, .int .i64 0, .int .i64 0, .slice none 0 0, .slice none 0 0, .slice none 0 0] := by rw [← hwwa]; exact Blk.new W1.drew _ _
     rw [hwwa] at huwa ⊢
     clear hwwa
     have hUwa : Upd nob W1 wa := ((Upd.refl nob W1).drew).trans huwa
     have hswa : W1.heap.size + 1 ≤ wa.heap.size := hAwa.lt
     have hgwa : W1.heap.size ≤ W1.heap.size := ((Upd.refl nob W1).drew).size
     refine hK _ _ (cells_of_upd hUwa) ?_
     clear hK K
     try simp only [tl]
     have hS : ∀ p : Addr, p.block < W1.heap.size → wa.cell? p = W1.cell? p := cells_of_upd hUwa
     refine wpAnyE_one (i := 4) (by kernel_rfl) (by kernel_rfl) rfl (by rfl) fun K hK => ?_
     go_simp
     refine (whnf_top [] _ (min fuel 3000) t (NB (W1.heap.size) wa) wa _ (fun _ h => h.1) (.inl ⟨rfl, rfl⟩) (H1.out.old (hD1.old hUwa) (fun q hq => by have h1 := hd1 q hq; exact ⟨by omega, by omega⟩))).mono ?_
     rintro e w8 ⟨n8, u, err, left, ucs, hwh, rfl, ht8, hn8, hle8⟩
     have huw8 : Upd nob wa w8 := hn8
     have hUw8 : Upd nob W1 w8 := (hUwa).trans huw8
     have hsw8 : wa.heap.size ≤ w8.heap.size := huw8.size
     have hAw8 := (hAwa).upd huw8 (fun f => f)
     refine hK _ _ (cells_of_upd hUw8) ?_
     clear hK K
     try simp only [tl]
     have hS : ∀ p : Addr, p.block < W1.heap.size → w8.cell? p = W1.cell? p := cells_of_upd hUw8
     obtain ⟨p, q, B, m, d, E, x, E', x', rfl⟩ := ht8.lit8
     have HO8 := Lib.hid ht8.oneCell.2
     have HWH := Lib.hid hwh
     have ht : TmIs (NB (W1.heap.size) w8) w8 u #[.int .i64 u.k, .int .i64 u.n, .string u.nm, .int .i64 p, .int .i64 q, .slice B m d, .slice E u.ls.length x, .slice E' u.ks.length x'] := ht8.old (Old.refl _ _) (fun q hq => by
      rcases hq with h | h
      · have := h.1; have := h.2; exact ⟨by omega, by omega⟩
      · have := h.1; have := h.2; exact ⟨by omega, by omega⟩)
     have HT := Lib.hid ht
     clear ht8 hwh hle8 ht
     refine wpAnyE_take (i := 5) (v := ?_) [] rfl (by kernel_rfl) (fun _ _ _ h => h) (Or.inl ⟨by rfl, ?_⟩) hS ?_
     rotate_left
     · intro wx hx
       clear hx
       go_simp
       with_reducible rfl
     try simp only [tl]
     refine wpAnyE_take (i := 6) (v := ?_) [] rfl (by kernel_rfl) (fun _ _ _ h => h) (Or.inl ⟨by rfl, ?_⟩) hS ?_
     rotate_left
     · intro wx hx
       clear hx
       go_simp
       with_reducible rfl
     try simp only [tl]
     refine wpAnyE_take (i := 7) (v := ?_) [] rfl (by kernel_rfl) (fun _ _ _ h => h) (Or.inl ⟨by rfl, ?_⟩) hS ?_
     rotate_left
     · intro wx hx
       clear hx
       go_simp
       with_reducible rfl
     try simp only [tl]
     refine wpAnyE_take (i := 8) (v := ?_) [] rfl (by kernel_rfl) (fun _ _ _ h => h) (Or.inl ⟨by rfl, ?_⟩) hS ?_
     rotate_left
     · intro wx hx
       clear hx
       go_simp
       with_reducible rfl
     try simp only [tl]
     refine wpAnyE_one (i := 10) (by kernel_rfl) (by kernel_rfl) rfl (by rfl) fun K hK => ?_
     refine owp_store_blk 27 (.tmp 8) (.tmp 22) rfl rfl (W1.heap.size) _ rfl rfl 27 _ hAw8 tm_size rfl HO8.out ?_
     obtain ⟨gb, hgb⟩ : ∃ gb, W1.heap.size = gb := ⟨_, rfl⟩
     have hgW : W1.heap.size ≤ gb := by rw [← hgb]; exact (by omega)
     have hB := (hAw8).row #[.int .i64 u.k, .int .i64 u.n, .string u.nm, .int .i64 p, .int .i64 q, .slice B m d, .slice E u.ls.length x, .slice E' u.ks.length x']
     obtain ⟨wS, hwwS⟩ : ∃ WF, w8.setRow (W1.heap.size) #[.int .i64 u.k, .int .i64 u.n, .string u.nm, .int .i64 p, .int .i64 q, .slice B m d, .slice E u.ls.length x, .slice E' u.ks.length x'] = WF := ⟨_, rfl⟩
     have huwS : Upd (fun q => q = gb) w8 wS := by rw [← hwwS, ← hgb]; exact (Upd.refl (fun q => q = W1.heap.size) w8).setRow (.inl rfl) _
     rw [hwwS] at hB ⊢
     clear hwwS
     have hUwS : Upd nob W1 wS := (hUw8).trans' huwS (fun q hq h => by have h : q = gb := h; omega)
     refine hK _ _ (cells_of_upd hUwS) ?_
     clear hK K
     try simp only [tl]
     have hS : ∀ p : Addr, p.block < W1.heap.size → wS.cell? p = W1.cell? p := cells_of_upd hUwS
     refine wpAnyE_one (i := 11) (by kernel_rfl) (by kernel_rfl) rfl (by rfl) fun K hK => ?_
     go_simp
     refine hK _ _ hS ?_
     clear hK K
     try simp only [tl]
     refine wpAnyE_z (by kernel_rfl) rfl (by rfl) fun K hK => ?_
     go_simp
     refine hK _ _ ?_
     clear hK K
     try simp only [tl]
     refine wpAny_done (by kernel_rfl) ?_ _
     refine NoPanic.normal ?_
     have hfin : TmIs (NB gb wS) wS u #[.int .i64 u.k, .int .i64 u.n, .string u.nm, .int .i64 p, .int .i64 q, .slice B m d, .slice E u.ls.length x, .slice E' u.ks.length x'] := TmIs.nb (by rw [← hgb]; exact HT.out) huwS (fun q h => .inl h)
     exact ⟨rfl, gb, u, err, left, n8, p, q, B, m, d, E, x, E', x', by rw [← hgb]; simp only [puts]; try simp only [tl], by rw [← hgb]; exact hB, hfin, HWH.out, hgW, hUwS⟩
 · go_simp
   have huwa : Upd nob W1.drew ((W1.alloc (.cells #[.int .i64 0, .int .i64 0, .string ByteArray.empty, .int .i64 0, .int .i64 0, .slice none 0 0, .slice none 0 0, .slice none 0 0] 27)).drew) := (Upd.refl nob W1.drew).alloc _
   obtain ⟨wa, hwwa⟩ : ∃ wa, (W1.alloc (.cells #[.int .i64 0, .int .i64 0, .string ByteArray.empty, .int .i64 0, .int .i64 0, .slice none 0 0, .slice none 0 0, .slice none 0 0] 27)).drew = wa := ⟨_, rfl⟩
   have hAwa : Blk wa W1.heap.size 27 #[.int .i64 0, .int .i64 0, .string ByteArray.empty, .int .i64 0, .int .i64 0, .slice none 0 0, .slice none 0 0, .slice none 0 0] := by rw [← hwwa]; exact Blk.new W1.drew _ _
   rw [hwwa] at huwa ⊢
   clear hwwa
   have hUwa : Upd nob W1 wa := ((Upd.refl nob W1).drew).trans huwa
   have hswa : W1.heap.size + 1 ≤ wa.heap.size := hAwa.lt
   have hgwa : W1.heap.size ≤ W1.heap.size := ((Upd.refl nob W1).drew).size
   refine hK _ _ (cells_of_upd hUwa) ?_
   clear hK K
   try simp only [tl]
   have hS : ∀ p : Addr, p.block < W1.heap.size → wa.cell? p = W1.cell? p := cells_of_upd hUwa
   refine wpAnyE_one (i := 3) (by kernel_rfl) (by kernel_rfl) rfl (by rfl) fun K hK => ?_
   go_simp
   refine (little_any fuel wa).mono ?_
   rintro e w0' ⟨rfl, rfl⟩
   refine hK _ _ hS ?_
   clear hK K
   try simp only [tl]
   refine wpAnyE_one (i := 4) (by kernel_rfl) (by kernel_rfl) rfl (by rfl) fun K hK => ?_
   go_simp
   refine (whnf_top [] _ (min fuel 3000) t (NB (W1.heap.size) wa) wa _ (fun _ h => h.1) (.inl ⟨rfl, rfl⟩) (H1.out.old (hD1.old hUwa) (fun q hq => by have h1 := hd1 q hq; exact ⟨by omega, by omega⟩))).mono ?_
   rintro e w8 ⟨n8, u, err, left, ucs, hwh, rfl, ht8, hn8, hle8⟩
   have huw8 : Upd nob wa w8 := hn8
   have hUw8 : Upd nob W1 w8 := (hUwa).trans huw8
   have hsw8 : wa.heap.size ≤ w8.heap.size := huw8.size
   have hAw8 := (hAwa).upd huw8 (fun f => f)
   refine hK _ _ (cells_of_upd hUw8) ?_
   clear hK K
   try simp only [tl]
   have hS : ∀ p : Addr, p.block < W1.heap.size → w8.cell? p = W1.cell? p := cells_of_upd hUw8
   obtain ⟨p, q, B, m, d, E, x, E', x', rfl⟩ := ht8.lit8
   have HO8 := Lib.hid ht8.oneCell.2
   have HWH := Lib.hid hwh
   have ht : TmIs (NB (W1.heap.size) w8) w8 u #[.int .i64 u.k, .int .i64 u.n, .string u.nm, .int .i64 p, .int .i64 q, .slice B m d, .slice E u.ls.length x, .slice E' u.ks.length x'] := ht8.old (Old.refl _ _) (fun q hq => by
    rcases hq with h | h
    · have := h.1; have := h.2; exact ⟨by omega, by omega⟩
    · have := h.1; have := h.2; exact ⟨by omega, by omega⟩)
   have HT := Lib.hid ht
   clear ht8 hwh hle8 ht
   refine wpAnyE_take (i := 5) (v := ?_) [] rfl (by kernel_rfl) (fun _ _ _ h => h) (Or.inl ⟨by rfl, ?_⟩) hS ?_
   rotate_left
   · intro wx hx
     clear hx
     go_simp
     with_reducible rfl
   try simp only [tl]
   refine wpAnyE_take (i := 6) (v := ?_) [] rfl (by kernel_rfl) (fun _ _ _ h => h) (Or.inl ⟨by rfl, ?_⟩) hS ?_
   rotate_left
   · intro wx hx
     clear hx
     go_simp
     with_reducible rfl
   try simp only [tl]
   refine wpAnyE_take (i := 7) (v := ?_) [] rfl (by kernel_rfl) (fun _ _ _ h => h) (Or.inl ⟨by rfl, ?_⟩) hS ?_
   rotate_left
   · intro wx hx
     clear hx
     go_simp
     with_reducible rfl
   try simp only [tl]
   refine wpAnyE_take (i := 8) (v := ?_) [] rfl (by kernel_rfl) (fun _ _ _ h => h) (Or.inl ⟨by rfl, ?_⟩) hS ?_
   rotate_left
   · intro wx hx
     clear hx
     go_simp
     with_reducible rfl
   try simp only [tl]
   refine wpAnyE_one (i := 10) (by kernel_rfl) (by kernel_rfl) rfl (by rfl) fun K hK => ?_
   refine owp_store_blk 27 (.tmp 8) (.tmp 22) rfl rfl (W1.heap.size) _ rfl rfl 27 _ hAw8 tm_size rfl HO8.out ?_
   obtain ⟨gb, hgb⟩ : ∃ gb, W1.heap.size = gb := ⟨_, rfl⟩
   have hgW : W1.heap.size ≤ gb := by rw [← hgb]; exact (by omega)
   have hB := (hAw8).row #[.int .i64 u.k, .int .i64 u.n, .string u.nm, .int .i64 p, .int .i64 q, .slice B m d, .slice E u.ls.length x, .slice E' u.ks.length x']
   obtain ⟨wS, hwwS⟩ : ∃ WF, w8.setRow (W1.heap.size) #[.int .i64 u.k, .int .i64 u.n, .string u.nm, .int .i64 p, .int .i64 q, .slice B m d, .slice E u.ls.length x, .slice E' u.ks.length x'] = WF := ⟨_, rfl⟩
   have huwS : Upd (fun q => q = gb) w8 wS := by rw [← hwwS, ← hgb]; exact (Upd.refl (fun q => q = W1.heap.size) w8).setRow (.inl rfl) _
   rw [hwwS] at hB ⊢
   clear hwwS
   have hUwS : Upd nob W1 wS := (hUw8).trans' huwS (fun q hq h => by have h : q = gb := h; omega)
   refine hK _ _ (cells_of_upd hUwS) ?_
   clear hK K
   try simp only [tl]
   have hS : ∀ p : Addr, p.block < W1.heap.size → wS.cell? p = W1.cell? p := cells_of_upd hUwS
   refine wpAnyE_one (i := 11) (by kernel_rfl) (by kernel_rfl) rfl (by rfl) fun K hK => ?_
   go_simp
   refine hK _ _ hS ?_
   clear hK K
   try simp only [tl]
   refine wpAnyE_z (by kernel_rfl) rfl (by rfl) fun K hK => ?_
   go_simp
   refine hK _ _ ?_
   clear hK K
   try simp only [tl]
   refine wpAny_done (by kernel_rfl) ?_ _
   refine NoPanic.normal ?_
   have hfin : TmIs (NB gb wS) wS u #[.int .i64 u.k, .int .i64 u.n, .string u.nm, .int .i64 p, .int .i64 q, .slice B m d, .slice E u.ls.length x, .slice E' u.ks.length x'] := TmIs.nb (by rw [← hgb]; exact HT.out) huwS (fun q h => .inl h)
   exact ⟨rfl, gb, u, err, left, n8, p, q, B, m, d, E, x, E', x', by rw [← hgb]; simp only [puts]; try simp only [tl], by rw [← hgb]; exact hB, hfin, HWH.out, hgW, hUwS⟩
 rintro a' w2 ⟨b, u, err, left, n, p, q, B, m, d, E, x, E', x', rfl, hb, hu, hwu, hb1, hu2⟩
 have HB2 := Lib.hid hb
 have HU2 := Lib.hid hu
 have HWU := Lib.hid hwu
 have HBL := Lib.hid hb1
 clear hb hu hwu r1 hlt1
 simp only [puts]
 try simp only [tl]
 go_wp2_with fail
 have HBT2 := Lib.hid (HB1.out.upd hu2 (fun f => f))
 have r1 := HBT2.out.rowAt
 have hlt1 := HBT2.out.lt
 have H2 := Lib.hid (H1.out.old (hD1.old hu2) (fun _ h => h))
 have hd2 : ∀ q, D q → q < w2.heap.size := fun q hq => Nat.lt_of_lt_of_le (hD1 q hq) hu2.size
 refine wp_region_post (R := fun a0 a' w' => ∃ (eb : Nat) (b : Nat) (u : Tm) (err : Int) (left n : Nat) (p q : Int) (B : Option Addr) (m d : Nat) (E : Option Addr) (x : Nat) (E' : Option Addr) (x' : Nat), a' = puts a0 [(26, (.pointer (some ⟨eb, 0, none⟩))), (27, (.agg #[.int .i64 t.k, .int .i64 t.n, .string t.nm, .int .i64 yp, .int .i64 yq, .slice yB ym yd, .slice yE t.ls.length yx, .slice yE' t.ks.length yx'])), (28, (.int .i64 fuel)), (29, (.int .i64 (min fuel 3000))), (30, (.tuple #[.agg #[.int .i64 u.k, .int .i64 u.n, .string u.nm, .int .i64 p, .int .i64 q, .slice B m d, .slice E u.ls.length x, .slice E' u.ks.length x'], .int .i64 left, .int .i64 err])), (25, (.tuple #[.agg #[.int .i64 u.k, .int .i64 u.n, .string u.nm, .int .i64 p, .int .i64 q, .slice B m d, .slice E u.ls.length x, .slice E' u.ks.length x'], .int .i64 left, .int .i64 err])), (31, (.agg #[.int .i64 u.k, .int .i64 u.n, .string u.nm, .int .i64 p, .int .i64 q, .slice B m d, .slice E u.ls.length x, .slice E' u.ks.length x'])), (32, (.int .i64 left)), (33, (.int .i64 err)), (11, (.pointer (some ⟨b, 0, none⟩))), (12, (.int .i64 left)), (13, (.int .i64 err))] ∧ Blk w' b 27 #[.int .i64 u.k, .int .i64 u.n, .string u.nm, .int .i64 p, .int .i64 q, .slice B m d, .slice E u.ls.length x, .slice E' u.ks.length x'] ∧ TmIs (NB b w') w' u #[.int .i64 u.k, .int .i64 u.n, .string u.nm, .int .i64 p, .int .i64 q, .slice B m d, .slice E u.ls.length x, .slice E' u.ks.length x'] ∧ wwhnf [] n (wfuel (min fuel 3000)).toNat t = some (u, err, left) ∧ w2.heap.size ≤ b ∧ Upd nob w2 w') ?_ ?_
 rotate_left
 rotate_left
 refine wp_region_P (by kernel_rfl) ?_
 refine wpAny_of_E (fun X : World => ∀ p : Addr, p.block < w2.heap.size → X.cell? p = w2.cell? p) 12 _ _ _ _ ?_
 have hS : ∀ p : Addr, p.block < w2.heap.size → w2.drew.cell? p = w2.cell? p := fun _ _ => rfl
 refine wpAnyE_take (i := 1) (v := (.agg #[.int .i64 t.k, .int .i64 t.n, .string t.nm, .int .i64 yp, .int .i64 yq, .slice yB ym yd, .slice yE t.ls.length yx, .slice yE' t.ks.length yx'])) [] rfl (by kernel_rfl) (fun _ _ _ h => h) (Or.inl ⟨by rfl, ?_⟩) hS ?_
 · intro wx hx
   exact run_load_at 27 (.tmp 3) rfl ⟨w.heap.size, 0, none⟩ rfl #[.int .i64 t.k, .int .i64 t.n, .string t.nm, .int .i64 yp, .int .i64 yq, .slice yB ym yd, .slice yE t.ls.length yx, .slice yE' t.ks.length yx'] _ (row_on r1 hlt1 hx) Try.underlying27 rfl tm_size
 try simp only [tl]
 refine wpAnyE_take (i := 2) (v := ?_) [] rfl (by kernel_rfl) (fun _ _ _ h => h) (Or.inl ⟨by rfl, ?_⟩) hS ?_
 rotate_left
 · intro wx hx
   clear hx
   go_simp
   with_reducible rfl
 try simp only [tl]
 refine wpAnyE_br (i := 0) (j := 9) (by kernel_rfl) (by kernel_rfl) (by kernel_rfl) rfl rfl (by rfl) (by rfl) (fun K hK => ?_) (fun K hK => ?_)
 · go_simp
   refine (new_nil w2.drew).mono ?_
   rintro e w7 ⟨eb, rfl, hE0, hn7⟩
   have huw7 : Upd nob w2.drew w7 := hn7
   have hUw7 : Upd nob w2 w7 := ((Upd.refl nob w2).drew).trans huw7
   have hsw7 : w2.heap.size ≤ w7.heap.size := huw7.size
   refine hK _ _ (cells_of_upd hUw7) ?_
   clear hK K
   try simp only [tl]
   have hS : ∀ p : Addr, p.block < w2.heap.size → w7.cell? p = w2.cell? p := cells_of_upd hUw7
   have HE0 := Lib.hid hE0
   clear hE0
   refine wpAnyE_br (i := 3) (j := 9) (by kernel_rfl) (by kernel_rfl) (by kernel_rfl) rfl rfl (by rfl) (by rfl) (fun K hK => ?_) (fun K hK => ?_)
   · go_simp
     refine (little_any fuel w7).mono ?_
     rintro e w0' ⟨rfl, rfl⟩
     refine hK _ _ hS ?_
     clear hK K
     try simp only [tl]
     refine wpAnyE_br (i := 4) (j := 9) (by kernel_rfl) (by kernel_rfl) (by kernel_rfl) rfl rfl (by rfl) (by rfl) (fun K hK => ?_) (fun K hK => ?_)
     · go_simp
       refine (whnf_top [] _ (min fuel 3000) t (There w7) w7 _ (fun _ h => h) (.inr ⟨eb, rfl, HE0.out.old (Old.refl _ _) (fun q hq => by have h1 : w2.heap.size ≤ q := hq.1; have h2 := hq.2; exact h2)⟩) (H2.out.old ((hD1.up hu2).old hUw7) (fun q hq => by have h1 := hd2 q hq; exact (by omega : q < w7.heap.size)))).mono ?_
       rintro e w8 ⟨n8, u, err, left, ucs, hwh, rfl, ht8, hn8, hle8⟩
       have huw8 : Upd nob w7 w8 := hn8
       have hUw8 : Upd nob w2 w8 := (hUw7).trans huw8
       have hsw8 : w7.heap.size ≤ w8.heap.size := huw8.size
       refine hK _ _ (cells_of_upd hUw8) ?_
       clear hK K
       try simp only [tl]
       have hS : ∀ p : Addr, p.block < w2.heap.size → w8.cell? p = w2.cell? p := cells_of_upd hUw8
       obtain ⟨p, q, B, m, d, E, x, E', x', rfl⟩ := ht8.lit8
       have HO8 := Lib.hid ht8.oneCell.2
       have HWH := Lib.hid hwh
       have ht : TmIs (There w8) w8 u #[.int .i64 u.k, .int .i64 u.n, .string u.nm, .int .i64 p, .int .i64 q, .slice B m d, .slice E u.ls.length x, .slice E' u.ks.length x'] := ht8.old (Old.refl _ _) (fun q hq => by
        rcases hq with h | h
        · have h : q < w7.heap.size := h; exact (by omega : q < w8.heap.size)
        · exact h.2)
       have HT := Lib.hid ht
       clear ht8 hwh hle8 ht
       refine wpAnyE_take (i := 5) (v := ?_) [] rfl (by kernel_rfl) (fun _ _ _ h => h) (Or.inl ⟨by rfl, ?_⟩) hS ?_
       rotate_left
       · intro wx hx
         clear hx
         go_simp
         with_reducible rfl
       try simp only [tl]
       refine wpAnyE_take (i := 6) (v := ?_) [] rfl (by kernel_rfl) (fun _ _ _ h => h) (Or.inl ⟨by rfl, ?_⟩) hS ?_
       rotate_left
       · intro wx hx
         clear hx
         go_simp
         with_reducible rfl
       try simp only [tl]
       refine wpAnyE_take (i := 7) (v := ?_) [] rfl (by kernel_rfl) (fun _ _ _ h => h) (Or.inl ⟨by rfl, ?_⟩) hS ?_
       rotate_left
       · intro wx hx
         clear hx
         go_simp
         with_reducible rfl
       try simp only [tl]
       refine wpAnyE_take (i := 8) (v := ?_) [] rfl (by kernel_rfl) (fun _ _ _ h => h) (Or.inl ⟨by rfl, ?_⟩) hS ?_
       rotate_left
       · intro wx hx
         clear hx
         go_simp
         with_reducible rfl
       try simp only [tl]
       refine wpAnyE_one (i := 9) (by kernel_rfl) (by kernel_rfl) rfl (by rfl) fun K hK => ?_
       go_simp
       have huwa : Upd nob w8 (w8.alloc (.cells #[.int .i64 0, .int .i64 0, .string ByteArray.empty, .int .i64 0, .int .i64 0, .slice none 0 0, .slice none 0 0, .slice none 0 0] 27)) := (Upd.refl nob w8).alloc _
       obtain ⟨wa, hwwa⟩ : ∃ wa, w8.alloc (.cells #[.int .i64 0, .int .i64 0, .string ByteArray.empty, .int .i64 0, .int .i64 0, .slice none 0 0, .slice none 0 0, .slice none 0 0] 27) = wa := ⟨_, rfl⟩
       have hAwa : Blk wa w8.heap.size 27 #[.int .i64 0, .int .i64 0, .string ByteArray.empty, .int .i64 0, .int .i64 0, .slice none 0 0, .slice none 0 0, .slice none 0 0] := by rw [← hwwa]; exact Blk.new w8 _ _
       rw [hwwa] at huwa ⊢
       clear hwwa
       have hUwa : Upd nob w2 wa := (hUw8).trans huwa
       have hswa : w8.heap.size + 1 ≤ wa.heap.size := hAwa.lt
       have hgwa : w2.heap.size ≤ w8.heap.size := (hUw8).size
       refine hK _ _ (cells_of_upd hUwa) ?_
       clear hK K
       try simp only [tl]
       have hS : ∀ p : Addr, p.block < w2.heap.size → wa.cell? p = w2.cell? p := cells_of_upd hUwa
       have HTa := Lib.hid (HT.out.old (D' := NB (w8.heap.size) wa) (Old.of_upd huwa (fun q hq => ⟨fun f => f, hq⟩)) (fun q hq => by have h : q < w8.heap.size := hq; exact ⟨by omega, by omega⟩))
       refine wpAnyE_one (i := 10) (by kernel_rfl) (by kernel_rfl) rfl (by rfl) fun K hK => ?_
       refine owp_store_blk 27 (.tmp 11) (.tmp 31) rfl rfl (w8.heap.size) _ rfl rfl 27 _ hAwa tm_size rfl HO8.out ?_
       obtain ⟨gb, hgb⟩ : ∃ gb, w8.heap.size = gb := ⟨_, rfl⟩
       have hgW : w2.heap.size ≤ gb := by rw [← hgb]; exact (by omega)
       have hB := (hAwa).row #[.int .i64 u.k, .int .i64 u.n, .string u.nm, .int .i64 p, .int .i64 q, .slice B m d, .slice E u.ls.length x, .slice E' u.ks.length x']
       obtain ⟨wS, hwwS⟩ : ∃ WF, wa.setRow (w8.heap.size) #[.int .i64 u.k, .int .i64 u.n, .string u.nm, .int .i64 p, .int .i64 q, .slice B m d, .slice E u.ls.length x, .slice E' u.ks.length x'] = WF := ⟨_, rfl⟩
       have huwS : Upd (fun q => q = gb) wa wS := by rw [← hwwS, ← hgb]; exact (Upd.refl (fun q => q = w8.heap.size) wa).setRow (.inl rfl) _
       rw [hwwS] at hB ⊢
       clear hwwS
       have hUwS : Upd nob w2 wS := (hUwa).trans' huwS (fun q hq h => by have h : q = gb := h; omega)
       refine hK _ _ (cells_of_upd hUwS) ?_
       clear hK K
       try simp only [tl]
       have hS : ∀ p : Addr, p.block < w2.heap.size → wS.cell? p = w2.cell? p := cells_of_upd hUwS
       refine wpAnyE_one (i := 11) (by kernel_rfl) (by kernel_rfl) rfl (by rfl) fun K hK => ?_
       go_simp
       refine hK _ _ hS ?_
       clear hK K
       try simp only [tl]
       refine wpAnyE_z (by kernel_rfl) rfl (by rfl) fun K hK => ?_
       go_simp
       refine hK _ _ ?_
       clear hK K
       try simp only [tl]
       refine wpAny_done (by kernel_rfl) ?_ _
       refine NoPanic.normal ?_
       have hfin : TmIs (NB gb wS) wS u #[.int .i64 u.k, .int .i64 u.n, .string u.nm, .int .i64 p, .int .i64 q, .slice B m d, .slice E u.ls.length x, .slice E' u.ks.length x'] := TmIs.nb (by rw [← hgb]; exact HTa.out) huwS (fun q h => .inl h)
       exact ⟨rfl, eb, gb, u, err, left, n8, p, q, B, m, d, E, x, E', x', by rw [← hgb]; simp only [puts]; try simp only [tl], by rw [← hgb]; exact hB, hfin, HWH.out, hgW, hUwS⟩
     · go_simp
       have huwa : Upd nob w7 (w7.alloc (.cells #[.int .i64 0, .int .i64 0, .string ByteArray.empty, .int .i64 0, .int .i64 0, .slice none 0 0, .slice none 0 0, .slice none 0 0] 27)) := (Upd.refl nob w7).alloc _
       obtain ⟨wa, hwwa⟩ : ∃ wa, w7.alloc (.cells #[.int .i64 0, .int .i64 0, .string ByteArray.empty, .int .i64 0, .int .i64 0, .slice none 0 0, .slice none 0 0, .slice none 0 0] 27) = wa := ⟨_, rfl⟩
       have hAwa : Blk wa w7.heap.size 27 #[.int .i64 0, .int .i64 0, .string ByteArray.empty, .int .i64 0, .int .i64 0, .slice none 0 0, .slice none 0 0, .slice none 0 0] := by rw [← hwwa]; exact Blk.new w7 _ _
       rw [hwwa] at huwa ⊢
       clear hwwa
       have hUwa : Upd nob w2 wa := (hUw7).trans huwa
       have hswa : w7.heap.size + 1 ≤ wa.heap.size := hAwa.lt
       have hgwa : w2.heap.size ≤ w7.heap.size := (hUw7).size
       refine hK _ _ (cells_of_upd hUwa) ?_
       clear hK K
       try simp only [tl]
       have hS : ∀ p : Addr, p.block < w2.heap.size → wa.cell? p = w2.cell? p := cells_of_upd hUwa
       refine wpAnyE_one (i := 4) (by kernel_rfl) (by kernel_rfl) rfl (by rfl) fun K hK => ?_
       go_simp
       refine (whnf_top [] _ (min fuel 3000) t (NB (w7.heap.size) wa) wa _ (fun _ h => h.1) (.inr ⟨eb, rfl, HE0.out.old (Old.of_upd (huwa) (fun q hq => ⟨fun f => f, hq.2⟩)) (fun q hq => by have h1 : w2.heap.size ≤ q := hq.1; have h2 := hq.2; exact ⟨by omega, by omega⟩)⟩) (H2.out.old ((hD1.up hu2).old hUwa) (fun q hq => by have h1 := hd2 q hq; exact ⟨by omega, by omega⟩))).mono ?_
       rintro e w8 ⟨n8, u, err, left, ucs, hwh, rfl, ht8, hn8, hle8⟩
       have huw8 : Upd nob wa w8 := hn8
       have hUw8 : Upd nob w2 w8 := (hUwa).trans huw8
       have hsw8 : wa.heap.size ≤ w8.heap.size := huw8.size
       have hAw8 := (hAwa).upd huw8 (fun f => f)
       refine hK _ _ (cells_of_upd hUw8) ?_
       clear hK K
       try simp only [tl]
       have hS : ∀ p : Addr, p.block < w2.heap.size → w8.cell? p = w2.cell? p := cells_of_upd hUw8
       obtain ⟨p, q, B, m, d, E, x, E', x', rfl⟩ := ht8.lit8
       have HO8 := Lib.hid ht8.oneCell.2
       have HWH := Lib.hid hwh
       have ht : TmIs (NB (w7.heap.size) w8) w8 u #[.int .i64 u.k, .int .i64 u.n, .string u.nm, .int .i64 p, .int .i64 q, .slice B m d, .slice E u.ls.length x, .slice E' u.ks.length x'] := ht8.old (Old.refl _ _) (fun q hq => by
        rcases hq with h | h
        · have := h.1; have := h.2; exact ⟨by omega, by omega⟩
        · have := h.1; have := h.2; exact ⟨by omega, by omega⟩)
       have HT := Lib.hid ht
       clear ht8 hwh hle8 ht
       refine wpAnyE_take (i := 5) (v := ?_) [] rfl (by kernel_rfl) (fun _ _ _ h => h) (Or.inl ⟨by rfl, ?_⟩) hS ?_
       rotate_left
       · intro wx hx
         clear hx
         go_simp
         with_reducible rfl
       try simp only [tl]
       refine wpAnyE_take (i := 6) (v := ?_) [] rfl (by kernel_rfl) (fun _ _ _ h => h) (Or.inl ⟨by rfl, ?_⟩) hS ?_
       rotate_left
       · intro wx hx
         clear hx
         go_simp
         with_reducible rfl
       try simp only [tl]
       refine wpAnyE_take (i := 7) (v := ?_) [] rfl (by kernel_rfl) (fun _ _ _ h => h) (Or.inl ⟨by rfl, ?_⟩) hS ?_
       rotate_left
       · intro wx hx
         clear hx
         go_simp
         with_reducible rfl
       try simp only [tl]
       refine wpAnyE_take (i := 8) (v := ?_) [] rfl (by kernel_rfl) (fun _ _ _ h => h) (Or.inl ⟨by rfl, ?_⟩) hS ?_
       rotate_left
       · intro wx hx
         clear hx
         go_simp
         with_reducible rfl
       try simp only [tl]
       refine wpAnyE_one (i := 10) (by kernel_rfl) (by kernel_rfl) rfl (by rfl) fun K hK => ?_
       refine owp_store_blk 27 (.tmp 11) (.tmp 31) rfl rfl (w7.heap.size) _ rfl rfl 27 _ hAw8 tm_size rfl HO8.out ?_
       obtain ⟨gb, hgb⟩ : ∃ gb, w7.heap.size = gb := ⟨_, rfl⟩
       have hgW : w2.heap.size ≤ gb := by rw [← hgb]; exact (by omega)
       have hB := (hAw8).row #[.int .i64 u.k, .int .i64 u.n, .string u.nm, .int .i64 p, .int .i64 q, .slice B m d, .slice E u.ls.length x, .slice E' u.ks.length x']
       obtain ⟨wS, hwwS⟩ : ∃ WF, w8.setRow (w7.heap.size) #[.int .i64 u.k, .int .i64 u.n, .string u.nm, .int .i64 p, .int .i64 q, .slice B m d, .slice E u.ls.length x, .slice E' u.ks.length x'] = WF := ⟨_, rfl⟩
       have huwS : Upd (fun q => q = gb) w8 wS := by rw [← hwwS, ← hgb]; exact (Upd.refl (fun q => q = w7.heap.size) w8).setRow (.inl rfl) _
       rw [hwwS] at hB ⊢
       clear hwwS
       have hUwS : Upd nob w2 wS := (hUw8).trans' huwS (fun q hq h => by have h : q = gb := h; omega)
       refine hK _ _ (cells_of_upd hUwS) ?_
       clear hK K
       try simp only [tl]
       have hS : ∀ p : Addr, p.block < w2.heap.size → wS.cell? p = w2.cell? p := cells_of_upd hUwS
       refine wpAnyE_one (i := 11) (by kernel_rfl) (by kernel_rfl) rfl (by rfl) fun K hK => ?_
       go_simp
       refine hK _ _ hS ?_
       clear hK K
       try simp only [tl]
       refine wpAnyE_z (by kernel_rfl) rfl (by rfl) fun K hK => ?_
       go_simp
       refine hK _ _ ?_
       clear hK K
       try simp only [tl]
       refine wpAny_done (by kernel_rfl) ?_ _
       refine NoPanic.normal ?_
       have hfin : TmIs (NB gb wS) wS u #[.int .i64 u.k, .int .i64 u.n, .string u.nm, .int .i64 p, .int .i64 q, .slice B m d, .slice E u.ls.length x, .slice E' u.ks.length x'] := TmIs.nb (by rw [← hgb]; exact HT.out) huwS (fun q h => .inl h)
       exact ⟨rfl, eb, gb, u, err, left, n8, p, q, B, m, d, E, x, E', x', by rw [← hgb]; simp only [puts]; try simp only [tl], by rw [← hgb]; exact hB, hfin, HWH.out, hgW, hUwS⟩
   · go_simp
     have huwa : Upd nob w7 (w7.alloc (.cells #[.int .i64 0, .int .i64 0, .string ByteArray.empty, .int .i64 0, .int .i64 0, .slice none 0 0, .slice none 0 0, .slice none 0 0] 27)) := (Upd.refl nob w7).alloc _
     obtain ⟨wa, hwwa⟩ : ∃ wa, w7.alloc (.cells #[.int .i64 0, .int .i64 0, .string ByteArray.empty, .int .i64 0, .int .i64 0, .slice none 0 0, .slice none 0 0, .slice none 0 0] 27) = wa := ⟨_, rfl⟩
     have hAwa : Blk wa w7.heap.size 27 #[.int .i64 0, .int .i64 0, .string ByteArray.empty, .int .i64 0, .int .i64 0, .slice none 0 0, .slice none 0 0, .slice none 0 0] := by rw [← hwwa]; exact Blk.new w7 _ _
     rw [hwwa] at huwa ⊢
     clear hwwa
     have hUwa : Upd nob w2 wa := (hUw7).trans huwa
     have hswa : w7.heap.size + 1 ≤ wa.heap.size := hAwa.lt
     have hgwa : w2.heap.size ≤ w7.heap.size := (hUw7).size
     refine hK _ _ (cells_of_upd hUwa) ?_
     clear hK K
     try simp only [tl]
     have hS : ∀ p : Addr, p.block < w2.heap.size → wa.cell? p = w2.cell? p := cells_of_upd hUwa
     refine wpAnyE_one (i := 3) (by kernel_rfl) (by kernel_rfl) rfl (by rfl) fun K hK => ?_
     go_simp
     refine (little_any fuel wa).mono ?_
     rintro e w0' ⟨rfl, rfl⟩
     refine hK _ _ hS ?_
     clear hK K
     try simp only [tl]
     refine wpAnyE_one (i := 4) (by kernel_rfl) (by kernel_rfl) rfl (by rfl) fun K hK => ?_
     go_simp
     refine (whnf_top [] _ (min fuel 3000) t (NB (w7.heap.size) wa) wa _ (fun _ h => h.1) (.inr ⟨eb, rfl, HE0.out.old (Old.of_upd (huwa) (fun q hq => ⟨fun f => f, hq.2⟩)) (fun q hq => by have h1 : w2.heap.size ≤ q := hq.1; have h2 := hq.2; exact ⟨by omega, by omega⟩)⟩) (H2.out.old ((hD1.up hu2).old hUwa) (fun q hq => by have h1 := hd2 q hq; exact ⟨by omega, by omega⟩))).mono ?_
     rintro e w8 ⟨n8, u, err, left, ucs, hwh, rfl, ht8, hn8, hle8⟩
     have huw8 : Upd nob wa w8 := hn8
     have hUw8 : Upd nob w2 w8 := (hUwa).trans huw8
     have hsw8 : wa.heap.size ≤ w8.heap.size := huw8.size
     have hAw8 := (hAwa).upd huw8 (fun f => f)
     refine hK _ _ (cells_of_upd hUw8) ?_
     clear hK K
     try simp only [tl]
     have hS : ∀ p : Addr, p.block < w2.heap.size → w8.cell? p = w2.cell? p := cells_of_upd hUw8
     obtain ⟨p, q, B, m, d, E, x, E', x', rfl⟩ := ht8.lit8
     have HO8 := Lib.hid ht8.oneCell.2
     have HWH := Lib.hid hwh
     have ht : TmIs (NB (w7.heap.size) w8) w8 u #[.int .i64 u.k, .int .i64 u.n, .string u.nm, .int .i64 p, .int .i64 q, .slice B m d, .slice E u.ls.length x, .slice E' u.ks.length x'] := ht8.old (Old.refl _ _) (fun q hq => by
      rcases hq with h | h
      · have := h.1; have := h.2; exact ⟨by omega, by omega⟩
      · have := h.1; have := h.2; exact ⟨by omega, by omega⟩)
     have HT := Lib.hid ht
     clear ht8 hwh hle8 ht
     refine wpAnyE_take (i := 5) (v := ?_) [] rfl (by kernel_rfl) (fun _ _ _ h => h) (Or.inl ⟨by rfl, ?_⟩) hS ?_
     rotate_left
     · intro wx hx
       clear hx
       go_simp
       with_reducible rfl
     try simp only [tl]
     refine wpAnyE_take (i := 6) (v := ?_) [] rfl (by kernel_rfl) (fun _ _ _ h => h) (Or.inl ⟨by rfl, ?_⟩) hS ?_
     rotate_left
     · intro wx hx
       clear hx
       go_simp
       with_reducible rfl
     try simp only [tl]
     refine wpAnyE_take (i := 7) (v := ?_) [] rfl (by kernel_rfl) (fun _ _ _ h => h) (Or.inl ⟨by rfl, ?_⟩) hS ?_
     rotate_left
     · intro wx hx
       clear hx
       go_simp
       with_reducible rfl
     try simp only [tl]
     refine wpAnyE_take (i := 8) (v := ?_) [] rfl (by kernel_rfl) (fun _ _ _ h => h) (Or.inl ⟨by rfl, ?_⟩) hS ?_
     rotate_left
     · intro wx hx
       clear hx
       go_simp
       with_reducible rfl
     try simp only [tl]
     refine wpAnyE_one (i := 10) (by kernel_rfl) (by kernel_rfl) rfl (by rfl) fun K hK => ?_
     refine owp_store_blk 27 (.tmp 11) (.tmp 31) rfl rfl (w7.heap.size) _ rfl rfl 27 _ hAw8 tm_size rfl HO8.out ?_
     obtain ⟨gb, hgb⟩ : ∃ gb, w7.heap.size = gb := ⟨_, rfl⟩
     have hgW : w2.heap.size ≤ gb := by rw [← hgb]; exact (by omega)
     have hB := (hAw8).row #[.int .i64 u.k, .int .i64 u.n, .string u.nm, .int .i64 p, .int .i64 q, .slice B m d, .slice E u.ls.length x, .slice E' u.ks.length x']
     obtain ⟨wS, hwwS⟩ : ∃ WF, w8.setRow (w7.heap.size) #[.int .i64 u.k, .int .i64 u.n, .string u.nm, .int .i64 p, .int .i64 q, .slice B m d, .slice E u.ls.length x, .slice E' u.ks.length x'] = WF := ⟨_, rfl⟩
     have huwS : Upd (fun q => q = gb) w8 wS := by rw [← hwwS, ← hgb]; exact (Upd.refl (fun q => q = w7.heap.size) w8).setRow (.inl rfl) _
     rw [hwwS] at hB ⊢
     clear hwwS
     have hUwS : Upd nob w2 wS := (hUw8).trans' huwS (fun q hq h => by have h : q = gb := h; omega)
     refine hK _ _ (cells_of_upd hUwS) ?_
     clear hK K
     try simp only [tl]
     have hS : ∀ p : Addr, p.block < w2.heap.size → wS.cell? p = w2.cell? p := cells_of_upd hUwS
     refine wpAnyE_one (i := 11) (by kernel_rfl) (by kernel_rfl) rfl (by rfl) fun K hK => ?_
     go_simp
     refine hK _ _ hS ?_
     clear hK K
     try simp only [tl]
     refine wpAnyE_z (by kernel_rfl) rfl (by rfl) fun K hK => ?_
     go_simp
     refine hK _ _ ?_
     clear hK K
     try simp only [tl]
     refine wpAny_done (by kernel_rfl) ?_ _
     refine NoPanic.normal ?_
     have hfin : TmIs (NB gb wS) wS u #[.int .i64 u.k, .int .i64 u.n, .string u.nm, .int .i64 p, .int .i64 q, .slice B m d, .slice E u.ls.length x, .slice E' u.ks.length x'] := TmIs.nb (by rw [← hgb]; exact HT.out) huwS (fun q h => .inl h)
     exact ⟨rfl, eb, gb, u, err, left, n8, p, q, B, m, d, E, x, E', x', by rw [← hgb]; simp only [puts]; try simp only [tl], by rw [← hgb]; exact hB, hfin, HWH.out, hgW, hUwS⟩
 · go_simp
   have huwa : Upd nob w2.drew ((w2.alloc (.cells #[.int .i64 0, .int .i64 0, .string ByteArray.empty, .int .i64 0, .int .i64 0, .slice none 0 0, .slice none 0 0, .slice none 0 0] 27)).drew) := (Upd.refl nob w2.drew).alloc _
   obtain ⟨wa, hwwa⟩ : ∃ wa, (w2.alloc (.cells #[.int .i64 0, .int .i64 0, .string ByteArray.empty, .int .i64 0, .int .i64 0, .slice none 0 0, .slice none 0 0, .slice none 0 0] 27)).drew = wa := ⟨_, rfl⟩
   have hAwa : Blk wa w2.heap.size 27 #[.int .i64 0, .int .i64 0, .string ByteArray.empty, .int .i64 0, .int .i64 0, .slice none 0 0, .slice none 0 0, .slice none 0 0] := by rw [← hwwa]; exact Blk.new w2.drew _ _
   rw [hwwa] at huwa ⊢
   clear hwwa
   have hUwa : Upd nob w2 wa := ((Upd.refl nob w2).drew).trans huwa
   have hswa : w2.heap.size + 1 ≤ wa.heap.size := hAwa.lt
   have hgwa : w2.heap.size ≤ w2.heap.size := ((Upd.refl nob w2).drew).size
   refine hK _ _ (cells_of_upd hUwa) ?_
   clear hK K
   try simp only [tl]
   have hS : ∀ p : Addr, p.block < w2.heap.size → wa.cell? p = w2.cell? p := cells_of_upd hUwa
   refine wpAnyE_one (i := 0) (by kernel_rfl) (by kernel_rfl) rfl (by rfl) fun K hK => ?_
   go_simp
   refine (new_nil wa).mono ?_
   rintro e w7 ⟨eb, rfl, hE0, hn7⟩
   have huw7 : Upd nob wa w7 := hn7
   have hUw7 : Upd nob w2 w7 := (hUwa).trans huw7
   have hsw7 : wa.heap.size ≤ w7.heap.size := huw7.size
   have hAw7 := (hAwa).upd huw7 (fun f => f)
   refine hK _ _ (cells_of_upd hUw7) ?_
   clear hK K
   try simp only [tl]
   have hS : ∀ p : Addr, p.block < w2.heap.size → w7.cell? p = w2.cell? p := cells_of_upd hUw7
   have HE0 := Lib.hid hE0
   clear hE0
   refine wpAnyE_one (i := 3) (by kernel_rfl) (by kernel_rfl) rfl (by rfl) fun K hK => ?_
   go_simp
   refine (little_any fuel w7).mono ?_
   rintro e w0' ⟨rfl, rfl⟩
   refine hK _ _ hS ?_
   clear hK K
   try simp only [tl]
   refine wpAnyE_one (i := 4) (by kernel_rfl) (by kernel_rfl) rfl (by rfl) fun K hK => ?_
   go_simp
   refine (whnf_top [] _ (min fuel 3000) t (NB (w2.heap.size) w7) w7 _ (fun _ h => h.1) (.inr ⟨eb, rfl, HE0.out.old (Old.refl _ _) (fun q hq => by have h1 : wa.heap.size ≤ q := hq.1; have h2 := hq.2; exact ⟨by omega, by omega⟩)⟩) (H2.out.old ((hD1.up hu2).old hUw7) (fun q hq => by have h1 := hd2 q hq; exact ⟨by omega, by omega⟩))).mono ?_
   rintro e w8 ⟨n8, u, err, left, ucs, hwh, rfl, ht8, hn8, hle8⟩
   have huw8 : Upd nob w7 w8 := hn8
   have hUw8 : Upd nob w2 w8 := (hUw7).trans huw8
   have hsw8 : w7.heap.size ≤ w8.heap.size := huw8.size
   have hAw8 := (hAw7).upd huw8 (fun f => f)
   refine hK _ _ (cells_of_upd hUw8) ?_
   clear hK K
   try simp only [tl]
   have hS : ∀ p : Addr, p.block < w2.heap.size → w8.cell? p = w2.cell? p := cells_of_upd hUw8
   obtain ⟨p, q, B, m, d, E, x, E', x', rfl⟩ := ht8.lit8
   have HO8 := Lib.hid ht8.oneCell.2
   have HWH := Lib.hid hwh
   have ht : TmIs (NB (w2.heap.size) w8) w8 u #[.int .i64 u.k, .int .i64 u.n, .string u.nm, .int .i64 p, .int .i64 q, .slice B m d, .slice E u.ls.length x, .slice E' u.ks.length x'] := ht8.old (Old.refl _ _) (fun q hq => by
    rcases hq with h | h
    · have := h.1; have := h.2; exact ⟨by omega, by omega⟩
    · have := h.1; have := h.2; exact ⟨by omega, by omega⟩)
   have HT := Lib.hid ht
   clear ht8 hwh hle8 ht
   refine wpAnyE_take (i := 5) (v := ?_) [] rfl (by kernel_rfl) (fun _ _ _ h => h) (Or.inl ⟨by rfl, ?_⟩) hS ?_
   rotate_left
   · intro wx hx
     clear hx
     go_simp
     with_reducible rfl
   try simp only [tl]
   refine wpAnyE_take (i := 6) (v := ?_) [] rfl (by kernel_rfl) (fun _ _ _ h => h) (Or.inl ⟨by rfl, ?_⟩) hS ?_
   rotate_left
   · intro wx hx
     clear hx
     go_simp
     with_reducible rfl
   try simp only [tl]
   refine wpAnyE_take (i := 7) (v := ?_) [] rfl (by kernel_rfl) (fun _ _ _ h => h) (Or.inl ⟨by rfl, ?_⟩) hS ?_
   rotate_left
   · intro wx hx
     clear hx
     go_simp
     with_reducible rfl
   try simp only [tl]
   refine wpAnyE_take (i := 8) (v := ?_) [] rfl (by kernel_rfl) (fun _ _ _ h => h) (Or.inl ⟨by rfl, ?_⟩) hS ?_
   rotate_left
   · intro wx hx
     clear hx
     go_simp
     with_reducible rfl
   try simp only [tl]
   refine wpAnyE_one (i := 10) (by kernel_rfl) (by kernel_rfl) rfl (by rfl) fun K hK => ?_
   refine owp_store_blk 27 (.tmp 11) (.tmp 31) rfl rfl (w2.heap.size) _ rfl rfl 27 _ hAw8 tm_size rfl HO8.out ?_
   obtain ⟨gb, hgb⟩ : ∃ gb, w2.heap.size = gb := ⟨_, rfl⟩
   have hgW : w2.heap.size ≤ gb := by rw [← hgb]; exact (by omega)
   have hB := (hAw8).row #[.int .i64 u.k, .int .i64 u.n, .string u.nm, .int .i64 p, .int .i64 q, .slice B m d, .slice E u.ls.length x, .slice E' u.ks.length x']
   obtain ⟨wS, hwwS⟩ : ∃ WF, w8.setRow (w2.heap.size) #[.int .i64 u.k, .int .i64 u.n, .string u.nm, .int .i64 p, .int .i64 q, .slice B m d, .slice E u.ls.length x, .slice E' u.ks.length x'] = WF := ⟨_, rfl⟩
   have huwS : Upd (fun q => q = gb) w8 wS := by rw [← hwwS, ← hgb]; exact (Upd.refl (fun q => q = w2.heap.size) w8).setRow (.inl rfl) _
   rw [hwwS] at hB ⊢
   clear hwwS
   have hUwS : Upd nob w2 wS := (hUw8).trans' huwS (fun q hq h => by have h : q = gb := h; omega)
   refine hK _ _ (cells_of_upd hUwS) ?_
   clear hK K
   try simp only [tl]
   have hS : ∀ p : Addr, p.block < w2.heap.size → wS.cell? p = w2.cell? p := cells_of_upd hUwS
   refine wpAnyE_one (i := 11) (by kernel_rfl) (by kernel_rfl) rfl (by rfl) fun K hK => ?_
   go_simp
   refine hK _ _ hS ?_
   clear hK K
   try simp only [tl]
   refine wpAnyE_z (by kernel_rfl) rfl (by rfl) fun K hK => ?_
   go_simp
   refine hK _ _ ?_
   clear hK K
   try simp only [tl]
   refine wpAny_done (by kernel_rfl) ?_ _
   refine NoPanic.normal ?_
   have hfin : TmIs (NB gb wS) wS u #[.int .i64 u.k, .int .i64 u.n, .string u.nm, .int .i64 p, .int .i64 q, .slice B m d, .slice E u.ls.length x, .slice E' u.ks.length x'] := TmIs.nb (by rw [← hgb]; exact HT.out) huwS (fun q h => .inl h)
   exact ⟨rfl, eb, gb, u, err, left, n8, p, q, B, m, d, E, x, E', x', by rw [← hgb]; simp only [puts]; try simp only [tl], by rw [← hgb]; exact hB, hfin, HWH.out, hgW, hUwS⟩
 rintro a' w3 ⟨eb, b2, u', err', left', n', p', q', B', m', d', E2, x2, E2', x2', rfl, hb, hu, hwu, hb2, hu3⟩
 have he := wwhnf_one hwu HWU.out
 simp only [Prod.mk.injEq] at he
 obtain ⟨rfl, rfl, he3⟩ := he
 obtain rfl : left' = left := by exact he3
 have HB3 := Lib.hid (HB2.out.upd hu3 (fun f => f))
 have HC3 := Lib.hid hb
 have HU3 := Lib.hid (HU2.out.nb hu3 (fun _ f => f.elim))
 have HV3 := Lib.hid hu
 clear hb hu hwu r1 hlt1
 simp only [puts]
 try simp only [tl]
 go_wp2_with fail
 have HU03 : Upd nob w w3 := (huW1.trans hu2).trans hu3
 refine (find_nil nm w3).mono ?_
 rintro e w4 ⟨gc, hg1, hg2, rfl, hb4⟩
 have hu4 : Upd nob w3 w4 := Upd.of_below hb4
 have HG2 := Lib.hid hg2
 go_wp2_with (first
     | ((with_reducible refine this_op (.store 74 (.tmp 14) (.tmp 38)) ?_); refine wpList_store_row rfl 74 (.tmp 14) (.tmp 38) rfl w4.heap.size _ rfl rfl 74 _ (Blk.new w4 _ _) (by rw [hg1]; exact gl_size) hg1.symm HG2.out ?_
        obtain ⟨W5, hW5⟩ : ∃ W5, (w4.alloc (.cells #[.int .i64 0, .string ByteArray.empty, .int .i64 0, .int .i64 0, .int .i64 0, .string ByteArray.empty, .int .i64 0, .int .i64 0, .slice none 0 0, .slice none 0 0, .slice none 0 0, .int .i64 0, .int .i64 0, .string ByteArray.empty, .int .i64 0, .int .i64 0, .slice none 0 0, .slice none 0 0, .slice none 0 0, .string ByteArray.empty, .int .i64 0, .int .i64 0, .int .i64 0, .slice none 0 0, .int .i64 0, .slice none 0 0] 74)).setRow w4.heap.size gc = W5 := ⟨_, rfl⟩
        have hu5 : Upd nob w4 W5 := by rw [← hW5]; exact ((Upd.refl nob w4).alloc _).setRow (.inr (Nat.le_refl _)) _
        have HB5 := Lib.hid ((HB3.out.upd hu4 (fun f => f)).upd hu5 (fun f => f))
        have HC5 := Lib.hid ((HC3.out.upd hu4 (fun f => f)).upd hu5 (fun f => f))
        have HU5 := Lib.hid ((HU3.out.nb hu4 (fun _ f => f.elim)).nb hu5 (fun _ f => f.elim))
        have HV5 := Lib.hid ((HV3.out.nb hu4 (fun _ f => f.elim)).nb hu5 (fun _ f => f.elim))
        have HU05 := Lib.hid ((HU03.trans hu4).trans hu5)
        have r0 : W5.cell? ⟨b, 0, none⟩ = some (.int .i64 u'.k) := HB5.out.cell 0
        have r1 : W5.cell? ⟨b, 1, none⟩ = some (.int .i64 u'.n) := HB5.out.cell 1
        have r2 : W5.cell? ⟨b, 2, none⟩ = some (.string u'.nm) := HB5.out.cell 2
        have r3 : W5.cell? ⟨b, 3, none⟩ = some (.int .i64 p) := HB5.out.cell 3
        have r4 : W5.cell? ⟨b, 4, none⟩ = some (.int .i64 q) := HB5.out.cell 4
        have r5 : W5.cell? ⟨b, 5, none⟩ = some (.slice B m d) := HB5.out.cell 5
        have r6 : W5.cell? ⟨b, 6, none⟩ = some (.slice E u'.ls.length x) := HB5.out.cell 6
        have r7 : W5.cell? ⟨b, 7, none⟩ = some (.slice E' u'.ks.length x') := HB5.out.cell 7
        have rlt := HB5.out.lt
        have q0 : W5.cell? ⟨b2, 0, none⟩ = some (.int .i64 u'.k) := HC5.out.cell 0
        have q1 : W5.cell? ⟨b2, 1, none⟩ = some (.int .i64 u'.n) := HC5.out.cell 1
        have q2 : W5.cell? ⟨b2, 2, none⟩ = some (.string u'.nm) := HC5.out.cell 2
        have q3 : W5.cell? ⟨b2, 3, none⟩ = some (.int .i64 p') := HC5.out.cell 3
        have q4 : W5.cell? ⟨b2, 4, none⟩ = some (.int .i64 q') := HC5.out.cell 4
        have q5 : W5.cell? ⟨b2, 5, none⟩ = some (.slice B' m' d') := HC5.out.cell 5
        have q6 : W5.cell? ⟨b2, 6, none⟩ = some (.slice E2 u'.ls.length x2) := HC5.out.cell 6
        have q7 : W5.cell? ⟨b2, 7, none⟩ = some (.slice E2' u'.ks.length x2') := HC5.out.cell 7
        have qlt := HC5.out.lt
        rw [hW5]
        clear hW5))
 · refine (rSame_any u' u' _ _ (There W5) W5 (There_in W5) (HU5.out.old (Old.refl _ _) (fun _ h => h.1)) (HV5.out.old (Old.refl _ _) (fun _ h => h.1))).mono ?_
   rintro e w6 ⟨rfl, hb6⟩
   have hu6 : Upd nob W5 w6 := Upd.of_below hb6
   have hu06 : Upd nob w w6 := HU05.out.trans hu6
   cases hS : rSame u' u' with
   | true =>
    have HL := Lib.hid hu06
    clear hu06
    go_wp2_with fail
    refine (wlen_any (.pointer none) [] nob w6 (.inl ⟨rfl, rfl⟩)).mono ?_
    rintro e w7 ⟨rfl, rfl⟩
    go_wp2_with fail
    refine (awake10_any w7).mono ?_
    rintro e w8 ⟨rfl, hb8⟩
    go_wp2_with fail
    go_ret
    exact ⟨rfl, (HL.out.trans (Upd.of_below hb8)).below⟩
   | false =>
    have HC6 := Lib.hid (HC5.out.upd hu6 (fun f => f))
    have s0 : w6.cell? ⟨b2, 0, none⟩ = some (.int .i64 u'.k) := HC6.out.cell 0
    have s1 : w6.cell? ⟨b2, 1, none⟩ = some (.int .i64 u'.n) := HC6.out.cell 1
    have s2 : w6.cell? ⟨b2, 2, none⟩ = some (.string u'.nm) := HC6.out.cell 2
    have s3 : w6.cell? ⟨b2, 3, none⟩ = some (.int .i64 p') := HC6.out.cell 3
    have s4 : w6.cell? ⟨b2, 4, none⟩ = some (.int .i64 q') := HC6.out.cell 4
    have s5 : w6.cell? ⟨b2, 5, none⟩ = some (.slice B' m' d') := HC6.out.cell 5
    have s6 : w6.cell? ⟨b2, 6, none⟩ = some (.slice E2 u'.ls.length x2) := HC6.out.cell 6
    have s7 : w6.cell? ⟨b2, 7, none⟩ = some (.slice E2' u'.ks.length x2') := HC6.out.cell 7
    have slt := HC6.out.lt
    have HV6 := Lib.hid (HV5.out.nb hu6 (fun _ f => f.elim))
    clear r0 r1 r2 r3 r4 r5 r6 r7 rlt q0 q1 q2 q3 q4 q5 q6 q7 qlt
    go_wp2_with fail
    refine (rSame_any u' u' _ _ (There w6) w6 (There_in w6) (HV6.out.old (Old.refl _ _) (fun _ h => h.1)) (HV6.out.old (Old.refl _ _) (fun _ h => h.1))).mono ?_
    rintro e w62 ⟨rfl, hb62⟩
    have hu062 : Upd nob w w62 := hu06.trans (Upd.of_below hb62)
    rw [hS]
    have HL := Lib.hid hu062
    clear hu062
    go_wp2_with fail
    refine (wlen_any (.pointer none) [] nob w62 (.inl ⟨rfl, rfl⟩)).mono ?_
    rintro e w7 ⟨rfl, rfl⟩
    go_wp2_with fail
    refine (awake10_any w7).mono ?_
    rintro e w8 ⟨rfl, hb8⟩
    go_wp2_with fail
    go_ret
    exact ⟨rfl, (HL.out.trans (Upd.of_below hb8)).below⟩
 · have hu05 := HU05.out
   have HL := Lib.hid hu05
   clear hu05
   go_wp2_with fail
   refine (wlen_any (.pointer none) [] nob W5 (.inl ⟨rfl, rfl⟩)).mono ?_
   rintro e w7 ⟨rfl, rfl⟩
   go_wp2_with fail
   refine (awake10_any w7).mono ?_
   rintro e w8 ⟨rfl, hb8⟩
   go_wp2_with fail
   go_ret
   exact ⟨rfl, (HL.out.trans (Upd.of_below hb8)).below⟩
end Go.Proofs.Ytiampoebdmflgaa

/- The row's last step from 'Below', whatever the arguments read. -/
namespace Go.Proofs.Ytiampoebdmflgaa
open Go.ChangeShapes Go.WideShapes Go.ChangeAt Go.RowKit
set_option linter.unusedVariables false
variable {H : Type} {enc : TypeId × Value → H} {P : Program}
theorem all_stay (hl : laidOutB P = true) {W W' : World} {sp : Nat → Bool} : ∀ {ts : List TypeId} {vs : List Value} {ds : List (DataW H)} {ps : List MemPlace}, DataW.TrodAll enc P W 0 (fun _ => true) true ts vs ds ps →
    (∀ t ∈ ts, P.readableRec t = true ∧ t < P.types.size) → (∀ p ∈ ps, W.sameAt W' p) → (∀ p ∈ ps, sp p.block = true) → DataW.TrodAll enc P W' 0 sp true ts vs ds ps
 | [], _, _, _, h, _, _, _ => by
  obtain ⟨rfl, rfl, rfl⟩ := trodAll_nil h
  exact trodAll_mk0
 | t :: ts, _, _, _, h, hr, hs, hp => by
  obtain ⟨v, vs, d, ds, p, q, rfl, rfl, rfl, h1, h2⟩ := trodAll_cons h
  exact trodAll_cons_mk (WideElems.Trod_stays hl (hr t (by simp)).1 (hr t (by simp)).2 h1 (fun x hx => hs x (by simp [hx])) (fun x hx => hp x (by simp [hx])))
   (all_stay hl h2 (fun u hu => hr u (by simp [hu])) (fun x hx => hs x (by simp [hx])) (fun x hx => hp x (by simp [hx])))
/-- The row's last step: nothing that was there is touched, one bool comes out, the arguments read as they did. -/
theorem post_keep {f : Func} {s : ChangeSpec} {apart fresh handsOn again : Bool} {W W' : World} {args : Array Value} {v : Value} {ds : List (DataW H)} {before : List MemPlace}
    (hl : laidOutB P = true) (hW : DataW.Whole enc P f.params.toList s.vars apart W args.toList ds [] before)
    (hA : DataW.TrodAll enc P W 0 (fun _ => true) true f.params.toList args.toList ds before)
    (hr : ∀ t ∈ f.params.toList, P.readableRec t = true ∧ t < P.types.size)
    (hres : ∀ (b : Nat) (sp : Nat → Bool) (hd : Bool), DataW.TrodAll enc P W' b sp hd f.resultTypes.toList (v.resultList f.resultTypes.size) (s.fn H (ds ++ [])).results [])
    (hargs : (s.fn H (ds ++ [])).args = ds) (hvars : s.vars = []) (hvars2 : (s.fn H (ds ++ [])).vars = [])
    (hb : Below W.heap.size W W')
    (hok : ∀ (j : Nat) (t : TypeId) (r : Value), f.resultTypes[j]? = some t → (v.resultList f.resultTypes.size)[j]? = some r → Value.okWide P W' .any 0 t r) :
    s.post enc P f apart fresh handsOn again W args v W' := by
 have hold : ∀ p ∈ before, (fun b => decide (b < W.heap.size)) p.block = true := fun p hp => by simpa using hW.lt p hp
 have hsame : ∀ p ∈ before, W.sameAt W' p := fun p hp => hb.same (hW.lt p hp)
 have hargs' : ∀ sp : Nat → Bool, (∀ p ∈ before, sp p.block = true) → DataW.TrodAll enc P W' 0 sp true f.params.toList args.toList (s.fn H (ds ++ [])).args before := fun sp hsp => by
  rw [hargs]; exact all_stay hl hA hr hsame hsp
 have hv : ∀ sp : Nat → Bool, DataW.TrodVars enc P W' sp s.vars (s.fn H (ds ++ [])).vars [] := fun sp => by rw [hvars, hvars2]; rfl
 refine ⟨ds, [], before, [], before, [], hW, hres _ _ _, hargs' _ hold, hv _, hb.frame _, fun _ => ?_⟩
 have hlt : ∀ p ∈ before, p.block < W.heap.size := fun p hp => hW.lt p hp
 obtain ⟨p, q, hA1, hV1, hpq, hz, hn⟩ := hW
 refine ⟨hok, _, _, ([] ++ before) ++ [], ⟨[] ++ before, [], trodAll_append (hargs' _ (fun _ _ => rfl)) (hres _ _ _), hv _, rfl, ?_, ?_⟩, ?_⟩
 · intro b off hp
   have hm := hp
   simp only [List.nil_append, List.append_nil] at hm
   rw [World.frozen?_of_block (w := W) (hb.block b (hlt _ hm))]
   exact hz b off hm
 · intro ha
   simpa using hn ha
 · intro p hp _
   simpa using hp
end Go.Proofs.Ytiampoebdmflgaa

/- What an argument reads as: levels, terms, constructors, and how great they are where the bulk is bounded. -/
namespace Go.Proofs.Ytiampoebdmflgaa
open Go.ChangeShapes Go.WideShapes Go.ChangeAt Go.RowKit Go.Joins Go.Deep
set_option linter.unusedVariables false
set_option linter.unusedVariables false
set_option maxRecDepth 100000
mutual
/-- How many nodes a level has. -/
def Lv.wt : Lv → Nat
 | .mk _ _ ks => Lv.wts ks + 1
def Lv.wts : List Lv → Nat
 | [] => 0
 | l :: ls => l.wt + Lv.wts ls
end
mutual
/-- How many nodes and letters a term has. -/
def Tm.wt : Tm → Nat
 | .mk _ _ nm lv ls ks => nm.size + lv.wt + Lv.wts ls + Tm.wts ks + 1
def Tm.wts : List Tm → Nat
 | [] => 0
 | l :: ls => l.wt + Tm.wts ls
end
theorem Lv.wts_sum : ∀ l : List Lv, Lv.wts l = (l.map Lv.wt).sum
 | [] => rfl
 | x :: l => by simp only [Lv.wts, List.map_cons, List.sum_cons, Lv.wts_sum l]
theorem Tm.wts_sum : ∀ l : List Tm, Tm.wts l = (l.map Tm.wt).sum
 | [] => rfl
 | x :: l => by simp only [Tm.wts, List.map_cons, List.sum_cons, Tm.wts_sum l]
mutual
theorem Tm.height_wt : ∀ t : Tm, t.height ≤ t.wt
 | .mk k n nm lv ls ks => by
  have := Tm.heights_wt ks
  simp only [Tm.height, Tm.wt]; omega
theorem Tm.heights_wt : ∀ l : List Tm, Tm.heights l ≤ Tm.wts l
 | [] => by simp [Tm.heights, Tm.wts]
 | x :: l => by
  have h1 := Tm.height_wt x
  have h2 := Tm.heights_wt l
  simp only [Tm.heights, Tm.wts]; omega
end
namespace bulks
theorem one_le {H : Type} (d : DataW H) : 1 ≤ Rows.uptoBulk d := by
 cases d with
 | lit l => cases l <;> simp [Rows.uptoBulk]
 | nil => simp [Rows.uptoBulk]
 | ptr d => simp [Rows.uptoBulk]
 | slice elems spare => simp [Rows.uptoBulk]
 | agg parts => simp [Rows.uptoBulk]
 | iface t d => simp [Rows.uptoBulk]
 | map entries => simp [Rows.uptoBulk]
 | held h => simp [Rows.uptoBulk]
end bulks
theorem list_of {α : Type} {P : Nat → α → Prop} : ∀ n : Nat, (∀ i, i < n → ∃ x, P i x) → ∃ l : List α, l.length = n ∧ ∀ i (h : i < l.length), P i l[i]
 | 0, _ => ⟨[], rfl, fun i h => absurd h (by simp)⟩
 | n + 1, h => by
  obtain ⟨l, hl, hp⟩ := list_of n (fun i hi => h i (by omega))
  obtain ⟨x, hx⟩ := h n (by omega)
  refine ⟨l ++ [x], by simp [hl], fun i hi => ?_⟩
  by_cases hin : i < l.length
  · rw [List.getElem_append_left hin]; exact hp i hin
  · have : i = n := by simp at hi; omega
    subst this
    rw [List.getElem_append_right (by omega)]
    simp [hl]; exact hx
theorem bulk_sum {α H : Type} (f : α → Nat) : ∀ (l : List α) (ds : List (DataW H)), l.length = ds.length → (∀ i (h : i < l.length) (k : i < ds.length), f l[i] ≤ Rows.uptoBulk ds[i]) → (l.map f).sum ≤ Rows.uptoBulkAll ds
 | [], [], _, _ => by simp
 | [], _ :: _, h, _ => by cases h
 | _ :: _, [], h, _ => by cases h
 | x :: l, d :: ds, h, k => by
  have h1 := k 0 (by simp) (by simp)
  have h2 := bulk_sum f l ds (by simpa using h) (fun i h k' => by have := k (i + 1) (by simpa using h) (by simpa using k'); simpa using this)
  simp only [List.map_cons, List.sum_cons, Rows.uptoBulkAll]
  simp only [List.getElem_cons_zero] at h1
  omega
theorem bulk_mem {H : Type} : ∀ {ds : List (DataW H)} {i : Nat} {d : DataW H}, ds[i]? = some d → Rows.uptoBulk d ≤ Rows.uptoBulkAll ds
 | [], i, d, h => by simp at h
 | x :: ds, 0, d, h => by
  simp only [List.getElem?_cons_zero, Option.some.injEq] at h
  subst h; simp only [Rows.uptoBulkAll]; omega
 | x :: ds, i + 1, d, h => by
  have := bulk_mem (ds := ds) (i := i) (d := d) (by simpa using h)
  simp only [Rows.uptoBulkAll]; omega
section
variable {H : Type} {enc : TypeId × Value → H} {w : World} {sp : Nat → Bool} {held : Bool}
/-- A slice of what reads. -/
theorem open_row {α : Type} {R : α → Array Value → Prop} {f : α → Nat} {t e : TypeId} {k fuel : Nat} {c : Value} {d : DataW H} {ps : List MemPlace} (ht : Try.prog.underlying t = some (.slice e)) (hc : Try.prog.cellsOf e = k) (hk : 0 < k)
    (hel : ∀ n cs d ps, n < fuel → DataW.trod enc Try.prog w 0 sp held n e cs = some (d, ps) → Rows.uptoBulk d ≤ 1048576 → ∃ x, R x cs.toArray ∧ f x ≤ Rows.uptoBulk d)
    (h : DataW.trod enc Try.prog w 0 sp held fuel t [c] = some (d, ps)) (hb : Rows.uptoBulk d ≤ 1048576) :
    ∃ A cap, ∃ l : List α, c = .slice A l.length cap ∧ l.length ≤ cap ∧ l.length ≤ 1048576 ∧ (∀ j x, l[j]? = some x → ∃ a cs, A = some a ∧ There w a.block ∧ rowAt w (a.add (j * k)) cs ∧ R x cs) ∧ (l.map f).sum + 1 ≤ Rows.uptoBulk d ∧ (∀ x, x ∈ l → f x ≤ Rows.uptoBulk d) := by
 rcases DataW.trod_slice ht h with ⟨h1, h2⟩ | ⟨a, len, cap, elems, rest, n, hn, hcs, hx, _, hl, hm, hlen, hall, _⟩
 · simp only [List.cons.injEq, and_true] at h1
   simp only [Prod.mk.injEq] at h2
   obtain ⟨rfl, rfl⟩ := h2
   exact ⟨none, 0, [], h1, by simp, by simp, fun j x hj => by simp at hj, by simp [Rows.uptoBulk], fun x hx => by cases hx⟩
 · simp only [List.cons.injEq, and_true] at hcs
   simp only [Prod.mk.injEq] at hx
   obtain ⟨rfl, _⟩ := hx
   subst hlen
   simp only [Rows.uptoBulk] at hb ⊢
   obtain ⟨l, hll, hlp⟩ := list_of (P := fun i (x : α) => (∃ cs, There w a.block ∧ rowAt w (a.add (i * k)) cs ∧ R x cs) ∧ ∀ (h : i < (elems.map (·.1)).length), f x ≤ Rows.uptoBulk (elems.map (·.1))[i]) elems.length (fun i hi => by
    have h1 := hall i hi
    rw [List.getElem?_eq_getElem hi] at h1
    obtain ⟨cs, h2, h3⟩ := Option.bind_eq_some_iff.1 h1
    rw [hc] at h2
    obtain ⟨_, h4, h5⟩ := World.cells?_some h2
    have h6 : (elems.map (·.1))[i]? = some elems[i].1 := by rw [List.getElem?_map, List.getElem?_eq_getElem hi]; rfl
    obtain ⟨x, h7, h8⟩ := hel n cs elems[i].1 elems[i].2 (by omega) h3 (by have := bulk_mem h6; omega)
    refine ⟨x, ⟨cs.toArray, ?_, fun j v hv => ?_, h7⟩, fun hh => ?_⟩
    · have h9 := h5 0 hk
      rw [List.getElem?_eq_getElem (by omega)] at h9
      have := cell_there h9
      rwa [Addr_add_block, Addr_add_block] at this
    · have hj : j < cs.length := by have := (Array.getElem?_eq_some_iff.1 hv).1; simpa using this
      rw [h5 j (by omega), ← hv]; simp
    · simpa using h8)
   have hs := bulk_sum f l (elems.map (·.1)) (by simp [hll]) (fun i h k => (hlp i h).2 k)
   refine ⟨some a, cap, l, by rw [hll]; exact hcs, by rw [hll]; exact hl, ?_, fun j x hj => ?_, by omega, fun x hx => ?_⟩
   · have : elems.length ≤ Rows.uptoBulkAll (elems.map (·.1)) := by
       have := bulk_sum (fun _ : DataW H × List MemPlace => 1) elems (elems.map (·.1)) (by simp) (fun i h k => bulks.one_le _)
       have e : ∀ l : List (DataW H × List MemPlace), (l.map fun _ => 1).sum = l.length := by intro l; induction l with | nil => rfl | cons x l ih => simp only [List.map_cons, List.sum_cons, ih, List.length_cons]; omega
       rwa [e] at this
     omega
   · obtain ⟨hj1, rfl⟩ := List.getElem?_eq_some_iff.1 hj
     obtain ⟨cs, h1, h2, h3⟩ := (hlp j hj1).1
     exact ⟨a, cs, rfl, h1, h2, h3⟩
   · obtain ⟨i, hi, rfl⟩ := List.getElem_of_mem hx
     have h1 := (hlp i hi).2 (by simp; omega)
     have h2 := List.getElem?_eq_getElem (l := elems.map (·.1)) (i := i) (by simp; omega)
     have := bulk_mem h2
     omega
theorem trods2 {P : Program} {t : TypeId} {f0 f1 : Field} {fuel : Nat} {cs : List Value} {x : DataW H × List MemPlace} (ht : P.underlying t = some (.struct #[f0, f1])) (h : DataW.trod enc P w 0 sp held fuel t cs = some x) :
    ∃ y0 y1 n, fuel = n + 1 ∧ x.1 = .agg [y0.1, y1.1] ∧ cs.length = P.cellsOf t ∧ DataW.trod enc P w 0 sp held n f0.type ((cs.drop f0.offset).take (P.cellsOf f0.type)) = some y0 ∧ DataW.trod enc P w 0 sp held n f1.type ((cs.drop f1.offset).take (P.cellsOf f1.type)) = some y1 := by
 obtain ⟨xs, n, hn, rfl, hl, hlen, hf⟩ := DataW.trod_struct ht h
 match xs, hlen with
 | [y0, y1], _ => exact ⟨y0, y1, n, hn, by simp, hl, by simpa using hf 0 f0 rfl, by simpa using hf 1 f1 rfl⟩
theorem trods3 {P : Program} {t : TypeId} {f0 f1 f2 : Field} {fuel : Nat} {cs : List Value} {x : DataW H × List MemPlace} (ht : P.underlying t = some (.struct #[f0, f1, f2])) (h : DataW.trod enc P w 0 sp held fuel t cs = some x) :
    ∃ y0 y1 y2 n, fuel = n + 1 ∧ x.1 = .agg [y0.1, y1.1, y2.1] ∧ cs.length = P.cellsOf t ∧ DataW.trod enc P w 0 sp held n f0.type ((cs.drop f0.offset).take (P.cellsOf f0.type)) = some y0 ∧ DataW.trod enc P w 0 sp held n f1.type ((cs.drop f1.offset).take (P.cellsOf f1.type)) = some y1 ∧ DataW.trod enc P w 0 sp held n f2.type ((cs.drop f2.offset).take (P.cellsOf f2.type)) = some y2 := by
 obtain ⟨xs, n, hn, rfl, hl, hlen, hf⟩ := DataW.trod_struct ht h
 match xs, hlen with
 | [y0, y1, y2], _ => exact ⟨y0, y1, y2, n, hn, by simp, hl, by simpa using hf 0 f0 rfl, by simpa using hf 1 f1 rfl, by simpa using hf 2 f2 rfl⟩
theorem trods6 {P : Program} {t : TypeId} {f0 f1 f2 f3 f4 f5 : Field} {fuel : Nat} {cs : List Value} {x : DataW H × List MemPlace} (ht : P.underlying t = some (.struct #[f0, f1, f2, f3, f4, f5])) (h : DataW.trod enc P w 0 sp held fuel t cs = some x) :
    ∃ y0 y1 y2 y3 y4 y5 n, fuel = n + 1 ∧ x.1 = .agg [y0.1, y1.1, y2.1, y3.1, y4.1, y5.1] ∧ cs.length = P.cellsOf t ∧ DataW.trod enc P w 0 sp held n f0.type ((cs.drop f0.offset).take (P.cellsOf f0.type)) = some y0 ∧ DataW.trod enc P w 0 sp held n f1.type ((cs.drop f1.offset).take (P.cellsOf f1.type)) = some y1 ∧ DataW.trod enc P w 0 sp held n f2.type ((cs.drop f2.offset).take (P.cellsOf f2.type)) = some y2 ∧ DataW.trod enc P w 0 sp held n f3.type ((cs.drop f3.offset).take (P.cellsOf f3.type)) = some y3 ∧ DataW.trod enc P w 0 sp held n f4.type ((cs.drop f4.offset).take (P.cellsOf f4.type)) = some y4 ∧ DataW.trod enc P w 0 sp held n f5.type ((cs.drop f5.offset).take (P.cellsOf f5.type)) = some y5 := by
 obtain ⟨xs, n, hn, rfl, hl, hlen, hf⟩ := DataW.trod_struct ht h
 match xs, hlen with
 | [y0, y1, y2, y3, y4, y5], _ => exact ⟨y0, y1, y2, y3, y4, y5, n, hn, by simp, hl, by simpa using hf 0 f0 rfl, by simpa using hf 1 f1 rfl, by simpa using hf 2 f2 rfl, by simpa using hf 3 f3 rfl, by simpa using hf 4 f4 rfl, by simpa using hf 5 f5 rfl⟩
theorem trods7 {P : Program} {t : TypeId} {f0 f1 f2 f3 f4 f5 f6 : Field} {fuel : Nat} {cs : List Value} {x : DataW H × List MemPlace} (ht : P.underlying t = some (.struct #[f0, f1, f2, f3, f4, f5, f6])) (h : DataW.trod enc P w 0 sp held fuel t cs = some x) :
    ∃ y0 y1 y2 y3 y4 y5 y6 n, fuel = n + 1 ∧ x.1 = .agg [y0.1, y1.1, y2.1, y3.1, y4.1, y5.1, y6.1] ∧ cs.length = P.cellsOf t ∧ DataW.trod enc P w 0 sp held n f0.type ((cs.drop f0.offset).take (P.cellsOf f0.type)) = some y0 ∧ DataW.trod enc P w 0 sp held n f1.type ((cs.drop f1.offset).take (P.cellsOf f1.type)) = some y1 ∧ DataW.trod enc P w 0 sp held n f2.type ((cs.drop f2.offset).take (P.cellsOf f2.type)) = some y2 ∧ DataW.trod enc P w 0 sp held n f3.type ((cs.drop f3.offset).take (P.cellsOf f3.type)) = some y3 ∧ DataW.trod enc P w 0 sp held n f4.type ((cs.drop f4.offset).take (P.cellsOf f4.type)) = some y4 ∧ DataW.trod enc P w 0 sp held n f5.type ((cs.drop f5.offset).take (P.cellsOf f5.type)) = some y5 ∧ DataW.trod enc P w 0 sp held n f6.type ((cs.drop f6.offset).take (P.cellsOf f6.type)) = some y6 := by
 obtain ⟨xs, n, hn, rfl, hl, hlen, hf⟩ := DataW.trod_struct ht h
 match xs, hlen with
 | [y0, y1, y2, y3, y4, y5, y6], _ => exact ⟨y0, y1, y2, y3, y4, y5, y6, n, hn, by simp, hl, by simpa using hf 0 f0 rfl, by simpa using hf 1 f1 rfl, by simpa using hf 2 f2 rfl, by simpa using hf 3 f3 rfl, by simpa using hf 4 f4 rfl, by simpa using hf 5 f5 rfl, by simpa using hf 6 f6 rfl⟩
theorem trods12 {P : Program} {t : TypeId} {f0 f1 f2 f3 f4 f5 f6 f7 f8 f9 f10 f11 : Field} {fuel : Nat} {cs : List Value} {x : DataW H × List MemPlace} (ht : P.underlying t = some (.struct #[f0, f1, f2, f3, f4, f5, f6, f7, f8, f9, f10, f11])) (h : DataW.trod enc P w 0 sp held fuel t cs = some x) :
    ∃ y0 y1 y2 y3 y4 y5 y6 y7 y8 y9 y10 y11 n, fuel = n + 1 ∧ x.1 = .agg [y0.1, y1.1, y2.1, y3.1, y4.1, y5.1, y6.1, y7.1, y8.1, y9.1, y10.1, y11.1] ∧ cs.length = P.cellsOf t ∧ DataW.trod enc P w 0 sp held n f0.type ((cs.drop f0.offset).take (P.cellsOf f0.type)) = some y0 ∧ DataW.trod enc P w 0 sp held n f1.type ((cs.drop f1.offset).take (P.cellsOf f1.type)) = some y1 ∧ DataW.trod enc P w 0 sp held n f2.type ((cs.drop f2.offset).take (P.cellsOf f2.type)) = some y2 ∧ DataW.trod enc P w 0 sp held n f3.type ((cs.drop f3.offset).take (P.cellsOf f3.type)) = some y3 ∧ DataW.trod enc P w 0 sp held n f4.type ((cs.drop f4.offset).take (P.cellsOf f4.type)) = some y4 ∧ DataW.trod enc P w 0 sp held n f5.type ((cs.drop f5.offset).take (P.cellsOf f5.type)) = some y5 ∧ DataW.trod enc P w 0 sp held n f6.type ((cs.drop f6.offset).take (P.cellsOf f6.type)) = some y6 ∧ DataW.trod enc P w 0 sp held n f7.type ((cs.drop f7.offset).take (P.cellsOf f7.type)) = some y7 ∧ DataW.trod enc P w 0 sp held n f8.type ((cs.drop f8.offset).take (P.cellsOf f8.type)) = some y8 ∧ DataW.trod enc P w 0 sp held n f9.type ((cs.drop f9.offset).take (P.cellsOf f9.type)) = some y9 ∧ DataW.trod enc P w 0 sp held n f10.type ((cs.drop f10.offset).take (P.cellsOf f10.type)) = some y10 ∧ DataW.trod enc P w 0 sp held n f11.type ((cs.drop f11.offset).take (P.cellsOf f11.type)) = some y11 := by
 obtain ⟨xs, n, hn, rfl, hl, hlen, hf⟩ := DataW.trod_struct ht h
 match xs, hlen with
 | [y0, y1, y2, y3, y4, y5, y6, y7, y8, y9, y10, y11], _ => exact ⟨y0, y1, y2, y3, y4, y5, y6, y7, y8, y9, y10, y11, n, hn, by simp, hl, by simpa using hf 0 f0 rfl, by simpa using hf 1 f1 rfl, by simpa using hf 2 f2 rfl, by simpa using hf 3 f3 rfl, by simpa using hf 4 f4 rfl, by simpa using hf 5 f5 rfl, by simpa using hf 6 f6 rfl, by simpa using hf 7 f7 rfl, by simpa using hf 8 f8 rfl, by simpa using hf 9 f9 rfl, by simpa using hf 10 f10 rfl, by simpa using hf 11 f11 rfl⟩
theorem cells_lv : Try.prog.cellsOf 24 = 3 := by kernel_rfl
theorem cells_tm : Try.prog.cellsOf 27 = 8 := by kernel_rfl
theorem cells_int : Try.prog.cellsOf 3 = 1 := by kernel_rfl
theorem cells_str : Try.prog.cellsOf 9 = 1 := by kernel_rfl
theorem cells_lvs : Try.prog.cellsOf 22 = 1 := by kernel_rfl
theorem cells_tms : Try.prog.cellsOf 25 = 1 := by kernel_rfl
theorem list3 {α : Type} {l : List α} (h : l.length = 3) : ∃ a b c, l = [a, b, c] := by
 match l, h with
 | [a, b, c], _ => exact ⟨a, b, c, rfl⟩
theorem list6 {α : Type} {l : List α} (h : l.length = 6) : ∃ a b c d e f, l = [a, b, c, d, e, f] := by
 match l, h with
 | [a, b, c, d, e, f], _ => exact ⟨a, b, c, d, e, f, rfl⟩
theorem list8 {α : Type} {l : List α} (h : l.length = 8) : ∃ a b c d e f g i, l = [a, b, c, d, e, f, g, i] := by
 match l, h with
 | [a, b, c, d, e, f, g, i], _ => exact ⟨a, b, c, d, e, f, g, i, rfl⟩
theorem int_in {z : Int} (h : (Lit.int .i64 z).wf = true) : InI z := by
 simp [Lit.wf, IntKind.min, IntKind.max, IntKind.signed, IntKind.bits] at h
 exact h
theorem open_lv : ∀ (fuel : Nat) (cs : List Value) (d : DataW H) (ps : List MemPlace), DataW.trod enc Try.prog w 0 sp held fuel 24 cs = some (d, ps) → Rows.uptoBulk d ≤ 1048576 →
    ∃ l, LvIs (There w) w l cs.toArray ∧ l.wt ≤ Rows.uptoBulk d := by
 intro fuel
 induction fuel using Nat.strongRecOn with
 | ind fuel ih =>
  intro cs d ps h hb
  obtain ⟨y0, y1, y2, n, rfl, hx, hl, g0, g1, g2⟩ := trods3 Try.underlying24 h
  rw [cells_lv] at hl
  obtain ⟨c0, c1, c2, rfl⟩ := list3 hl
  subst hx
  simp only [cells_int, cells_lvs, List.drop_zero, List.drop_succ_cons, List.take_succ_cons, List.take_zero] at g0 g1 g2
  obtain ⟨z0, q0, _, v0⟩ := DataW.trod_int Try.underlying3 g0
  obtain ⟨z1, q1, _, v1⟩ := DataW.trod_int Try.underlying3 g1
  simp only [List.cons.injEq, and_true] at q0 q1
  subst q0 q1
  simp only [Rows.uptoBulk, Rows.uptoBulkAll] at hb ⊢
  obtain ⟨A, cap, l, rfl, e1, e2, e3, e4, _⟩ := open_row (R := fun l cs => LvIs (There w) w l cs) (f := Lv.wt) Try.underlying22 cells_lv (by decide) (fun m cs d ps hm h hb => ih m (by omega) cs d ps h hb) g2 (by omega)
  refine ⟨.mk z0 z1 l, ?_, ?_⟩
  · simp only [LvIs]
    refine ⟨A, cap, rfl, int_in v0, int_in v1, ⟨by omega, e1⟩, LvsAt.mk fun j x hj => ?_⟩
    obtain ⟨a, cs, h1, h2, h3, h4⟩ := e3 j x hj
    exact ⟨a, cs, h1, h2, by rw [Nat.zero_add]; exact h3, h4⟩
  · simp only [Lv.wt, Lv.wts_sum]; omega
theorem open_tm : ∀ (fuel : Nat) (cs : List Value) (d : DataW H) (ps : List MemPlace), DataW.trod enc Try.prog w 0 sp held fuel 27 cs = some (d, ps) → Rows.uptoBulk d ≤ 1048576 →
    ∃ t, TmIs (There w) w t cs.toArray ∧ t.wt ≤ Rows.uptoBulk d := by
 intro fuel
 induction fuel using Nat.strongRecOn with
 | ind fuel ih =>
  intro cs d ps h hb
  obtain ⟨y0, y1, y2, y3, y4, y5, n, rfl, hx, hl, g0, g1, g2, g3, g4, g5⟩ := trods6 Try.underlying27 h
  rw [cells_tm] at hl
  obtain ⟨c0, c1, c2, c3, c4, c5, c6, c7, rfl⟩ := list8 hl
  subst hx
  simp only [cells_int, cells_str, cells_lv, cells_lvs, cells_tms, List.drop_zero, List.drop_succ_cons, List.take_succ_cons, List.take_zero] at g0 g1 g2 g3 g4 g5
  obtain ⟨z0, q0, _, v0⟩ := DataW.trod_int Try.underlying3 g0
  obtain ⟨z1, q1, _, v1⟩ := DataW.trod_int Try.underlying3 g1
  obtain ⟨s, q2, x2, v2⟩ := DataW.trod_string Try.underlying9 g2
  simp only [List.cons.injEq, and_true] at q0 q1 q2
  subst q0 q1 q2
  subst x2
  simp only [Rows.uptoBulk, Rows.uptoBulkAll] at hb ⊢
  have es : s.data.toList.length = s.size := by rw [Array.length_toList]; rfl
  rw [es] at hb ⊢
  obtain ⟨lv, hlv, wlv⟩ := open_lv n _ _ _ g3 (by omega)
  obtain ⟨A, cap, l, rfl, e1, e2, e3, e4, _⟩ := open_row (R := fun l cs => LvIs (There w) w l cs) (f := Lv.wt) Try.underlying22 cells_lv (by decide) (fun m cs d ps hm h hb => open_lv m cs d ps h hb) g4 (by omega)
  obtain ⟨A', cap', l', rfl, e1', e2', e3', e4', _⟩ := open_row (R := fun l cs => TmIs (There w) w l cs) (f := Tm.wt) Try.underlying25 cells_tm (by decide) (fun m cs d ps hm h hb => ih m (by omega) cs d ps h hb) g5 (by omega)
  refine ⟨.mk z0 z1 s lv l l', ?_, ?_⟩
  · simp only [TmIs]
    refine ⟨c3, c4, c5, A, cap, A', cap', rfl, int_in v0, int_in v1, by simp only [maxLen] at v2; omega, hlv, ⟨by omega, e1⟩, LvsAt.mk fun j x hj => ?_, ⟨by omega, e1'⟩, TmsAt.mk fun j x hj => ?_⟩
    · obtain ⟨a, cs, h1, h2, h3, h4⟩ := e3 j x hj
      exact ⟨a, cs, h1, h2, by rw [Nat.zero_add]; exact h3, h4⟩
    · obtain ⟨a, cs, h1, h2, h3, h4⟩ := e3' j x hj
      exact ⟨a, cs, h1, h2, by rw [Nat.zero_add]; exact h3, h4⟩
  · simp only [Tm.wt, Lv.wts_sum, Tm.wts_sum]; omega
end
end Go.Proofs.Ytiampoebdmflgaa

/- Arguments opened: a term. -/
namespace Go.Proofs.Ytiampoebdmflgaa
open Go.ChangeShapes Go.WideShapes Go.ChangeAt Go.RowKit
set_option linter.unusedVariables false
set_option maxRecDepth 100000
set_option linter.unusedSimpArgs false
section
variable {H : Type} {enc : TypeId × Value → H} {w : World} {sp : Nat → Bool} {held : Bool}
theorem open_tmV {r : Reach} {b0 : Nat} {v : Value} {d : DataW H} {ps : List MemPlace} (hval : Value.okWide Try.prog w r b0 27 v) (hd : DataW.Trod enc Try.prog w 0 sp held 27 v d ps) (hb : Rows.uptoBulk d ≤ 1048576) :
    ∃ (t : Tm) (cs : Array Value), v = .agg cs ∧ TmIs (There w) w t cs ∧ t.wt ≤ Rows.uptoBulk d := by
 obtain ⟨cs, rfl, hsz⟩ := okWide_struct Try.underlying27 hval
 obtain ⟨fuel, hf⟩ := hd
 obtain ⟨t, h1, h2⟩ := open_tm fuel _ _ _ hf hb
 exact ⟨t, cs, rfl, by simpa [Value.cells] using h1, h2⟩
end
end Go.Proofs.Ytiampoebdmflgaa
