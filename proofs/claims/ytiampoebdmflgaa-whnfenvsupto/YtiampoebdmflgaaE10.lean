/- Texts put one behind the other: Zbind, Zapp, Wawk0, Wawk, Wlen, Wenvs, Post, Open, Openw, Openg. -/
import Derived.Test.YtiampoebdmflgaaE9
import Derived.Test.YtiampoebdmflgaaE8
import Derived.Test.YtiampoebdmflgaaRows
import Derived.Test.YtiampoebdmflgaaProg
import Derived.WalkKit
import Derived.ProofKit
import Derived.OpenShut
import Derived.Carry
import Derived.Test.YtiampoebdmflgaaE2
import Derived.Test.YtiampoebdmflgaaE3
import Derived.JoinedCond
import Derived.Lib.SmallJoins
import Derived.Deep.Slices
import Derived.Test.YtiampoebdmflgaaE6

/- The reference's Bind. -/
namespace Go.Proofs.Ytiampoebdmflgaa
open Go.RowKit
set_option linter.unusedVariables false
set_option maxRecDepth 100000
set_option maxHeartbeats 4000000
set_option linter.unusedSimpArgs false
/-- Two rows one behind the other. -/
theorem two_rows (c1 c2 : Array Value) (w : World) (g : Nat) (t : TypeId) (h : Blk w g t (c1 ++ c2)) (h1 : c1.size = 8) : rowAt w ((⟨g, 0, none⟩ : Addr).add (0 * 8)) c1 ∧ rowAt w ((⟨g, 0, none⟩ : Addr).add (1 * 8)) c2 := by
 refine ⟨sub_row h.rowAt _ _ fun j v hv => ?_, sub_row h.rowAt _ _ fun j v hv => ?_⟩
 · have hj : j < c1.size := (Array.getElem?_eq_some_iff.1 hv).1
   rw [Nat.zero_mul, Nat.zero_add, Array.getElem?_append_left hj]; exact hv
 · rw [Array.getElem?_append_right (by omega), h1, Nat.one_mul, Nat.add_sub_cancel_left]; exact hv
theorem rbind_any (k : Int) (hk : InI k) (x y : Tm) (ca cb : Array Value) (D : Nat → Prop) (w : World) (hD : Within D w) (ha : TmIs D w x ca) (hb : TmIs D w y cb) :
    Calls Try.prog 18 #[.int .i64 k, .agg ca, .agg cb] w fun e w' => ∃ cs', e = .returned (.agg cs') ∧ TmIs (grow D w w') w' (.mk k 0 ByteArray.empty lzero' [] [x, y]) cs' ∧ Below w.heap.size w w' := by
 have hz := tm_zero
 have HA := Lib.hid ha
 have HB := Lib.hid hb
 obtain ⟨x1, y1, z1, A1, c1, A2, c2, hca, _, _, _, _, _, _, _, _⟩ := ha.lit
 obtain ⟨x2, y2, z2, B1, d1, B2, d2, hcb, _, _, _, _, _, _, _, _⟩ := hb.lit
 clear ha hb
 subst hca; subst hcb
 have hb1 := Blk.new (w.alloc (.cells #[.int .i64 x.k, .int .i64 x.n, .string x.nm, x1, y1, z1, .slice A1 x.ls.length c1, .slice A2 x.ks.length c2] 27) |>.alloc (.cells #[.int .i64 y.k, .int .i64 y.n, .string y.nm, x2, y2, z2, .slice B1 y.ls.length d1, .slice B2 y.ks.length d2] 27))
  27 #[.int .i64 k, .int .i64 0, .string ByteArray.empty, .int .i64 0, .int .i64 0, .slice none 0 0, .slice none 0 0, .slice (some ⟨w.heap.size + 1 + 1 + 1, 0, none⟩) 2 2]
 have hb2 := hb1.alloc (.cells #[.int .i64 x.k, .int .i64 x.n, .string x.nm, x1, y1, z1, .slice A1 x.ls.length c1, .slice A2 x.ks.length c2, .int .i64 y.k, .int .i64 y.n, .string y.nm, x2, y2, z2, .slice B1 y.ls.length d1, .slice B2 y.ks.length d2] 27)
 have hb3 := Blk.new (((w.alloc (.cells #[.int .i64 x.k, .int .i64 x.n, .string x.nm, x1, y1, z1, .slice A1 x.ls.length c1, .slice A2 x.ks.length c2] 27)).alloc (.cells #[.int .i64 y.k, .int .i64 y.n, .string y.nm, x2, y2, z2, .slice B1 y.ls.length d1, .slice B2 y.ks.length d2] 27)).alloc
  (.cells #[.int .i64 k, .int .i64 0, .string ByteArray.empty, .int .i64 0, .int .i64 0, .slice none 0 0, .slice none 0 0, .slice (some ⟨w.heap.size + 1 + 1 + 1, 0, none⟩) 2 2] 27)) 27
  (#[.int .i64 x.k, .int .i64 x.n, .string x.nm, x1, y1, z1, .slice A1 x.ls.length c1, .slice A2 x.ks.length c2] ++ #[.int .i64 y.k, .int .i64 y.n, .string y.nm, x2, y2, z2, .slice B1 y.ls.length d1, .slice B2 y.ks.length d2])
 simp only [World.size_alloc] at hb1 hb2 hb3
 obtain ⟨r1, r2⟩ := two_rows _ _ _ _ _ hb3 rfl
 have HR1 := Lib.hid r1
 have HR2 := Lib.hid r2
 have HB2 := Lib.hid hb2
 clear hb1 hb2 hb3 r1 r2
 go_enter Try.func18, Try.ntmps18
 go_wp2_with fail
 have hu : Upd nob w ((((w.alloc (.cells #[.int .i64 x.k, .int .i64 x.n, .string x.nm, x1, y1, z1, .slice A1 x.ls.length c1, .slice A2 x.ks.length c2] 27)).alloc (.cells #[.int .i64 y.k, .int .i64 y.n, .string y.nm, x2, y2, z2, .slice B1 y.ls.length d1, .slice B2 y.ks.length d2] 27)).alloc
  (.cells #[.int .i64 k, .int .i64 0, .string ByteArray.empty, .int .i64 0, .int .i64 0, .slice none 0 0, .slice none 0 0, .slice (some ⟨w.heap.size + 1 + 1 + 1, 0, none⟩) 2 2] 27)).alloc
  (.cells #[.int .i64 x.k, .int .i64 x.n, .string x.nm, x1, y1, z1, .slice A1 x.ls.length c1, .slice A2 x.ks.length c2, .int .i64 y.k, .int .i64 y.n, .string y.nm, x2, y2, z2, .slice B1 y.ls.length d1, .slice B2 y.ks.length d2] 27)) :=
  ((((Upd.refl nob w).alloc _).alloc _).alloc _).alloc _
 refine bodyPost_ret (results_cell_row rfl _ _ (w.heap.size + 1 + 1) 27 _ (0, 0) _ rfl HB2.out Try.underlying27 rfl tm_size) rfl ?_
 have hg : grow D w ((((w.alloc (.cells #[.int .i64 x.k, .int .i64 x.n, .string x.nm, x1, y1, z1, .slice A1 x.ls.length c1, .slice A2 x.ks.length c2] 27)).alloc (.cells #[.int .i64 y.k, .int .i64 y.n, .string y.nm, x2, y2, z2, .slice B1 y.ls.length d1, .slice B2 y.ks.length d2] 27)).alloc
  (.cells #[.int .i64 k, .int .i64 0, .string ByteArray.empty, .int .i64 0, .int .i64 0, .slice none 0 0, .slice none 0 0, .slice (some ⟨w.heap.size + 1 + 1 + 1, 0, none⟩) 2 2] 27)).alloc
  (.cells #[.int .i64 x.k, .int .i64 x.n, .string x.nm, x1, y1, z1, .slice A1 x.ls.length c1, .slice A2 x.ks.length c2, .int .i64 y.k, .int .i64 y.n, .string y.nm, x2, y2, z2, .slice B1 y.ls.length d1, .slice B2 y.ks.length d2] 27)) (w.heap.size + 1 + 1 + 1) :=
  .inr ⟨by omega, by simp only [World.size_alloc]; omega⟩
 refine ⟨_, rfl, ?_, hu.below⟩
 simp only [TmIs]
 refine ⟨_, _, _, none, 0, some ⟨w.heap.size + 1 + 1 + 1, 0, none⟩, 2, rfl, hk, by unfold InI; omega, by simp, lzero_is _ _, ⟨by simp, Nat.zero_le _⟩, by simp only [LvsAt], ⟨by simp, by simp⟩, ?_⟩
 simp only [TmsAt]
 exact ⟨⟨_, _, rfl, hg, HR1.out, HA.out.old (hD.old hu) (fun _ h => .inl h)⟩, ⟨_, _, rfl, hg, HR2.out, HB.out.old (hD.old hu) (fun _ h => .inl h)⟩, trivial⟩
end Go.Proofs.Ytiampoebdmflgaa

/- The reference's App. -/
namespace Go.Proofs.Ytiampoebdmflgaa
open Go.RowKit
set_option linter.unusedVariables false
set_option maxRecDepth 100000
set_option maxHeartbeats 4000000
set_option linter.unusedSimpArgs false
theorem rapp_any (x y : Tm) (ca cb : Array Value) (D : Nat → Prop) (w : World) (hD : Within D w) (ha : TmIs D w x ca) (hb : TmIs D w y cb) :
    Calls Try.prog 48 #[.agg ca, .agg cb] w fun e w' => ∃ cs', e = .returned (.agg cs') ∧ TmIs (grow D w w') w' (.mk 6 0 ByteArray.empty lzero' [] [x, y]) cs' ∧ Below w.heap.size w w' := by
 have hz := tm_zero
 have HA := Lib.hid ha
 have HB := Lib.hid hb
 obtain ⟨x1, y1, z1, A1, c1, A2, c2, hca, _, _, _, _, _, _, _, _⟩ := ha.lit
 obtain ⟨x2, y2, z2, B1, d1, B2, d2, hcb, _, _, _, _, _, _, _, _⟩ := hb.lit
 clear ha hb
 subst hca; subst hcb
 have hb1 := Blk.new (w.alloc (.cells #[.int .i64 x.k, .int .i64 x.n, .string x.nm, x1, y1, z1, .slice A1 x.ls.length c1, .slice A2 x.ks.length c2] 27) |>.alloc (.cells #[.int .i64 y.k, .int .i64 y.n, .string y.nm, x2, y2, z2, .slice B1 y.ls.length d1, .slice B2 y.ks.length d2] 27))
  27 #[.int .i64 6, .int .i64 0, .string ByteArray.empty, .int .i64 0, .int .i64 0, .slice none 0 0, .slice none 0 0, .slice (some ⟨w.heap.size + 1 + 1 + 1, 0, none⟩) 2 2]
 have hb2 := hb1.alloc (.cells #[.int .i64 x.k, .int .i64 x.n, .string x.nm, x1, y1, z1, .slice A1 x.ls.length c1, .slice A2 x.ks.length c2, .int .i64 y.k, .int .i64 y.n, .string y.nm, x2, y2, z2, .slice B1 y.ls.length d1, .slice B2 y.ks.length d2] 27)
 have hb3 := Blk.new (((w.alloc (.cells #[.int .i64 x.k, .int .i64 x.n, .string x.nm, x1, y1, z1, .slice A1 x.ls.length c1, .slice A2 x.ks.length c2] 27)).alloc (.cells #[.int .i64 y.k, .int .i64 y.n, .string y.nm, x2, y2, z2, .slice B1 y.ls.length d1, .slice B2 y.ks.length d2] 27)).alloc
  (.cells #[.int .i64 6, .int .i64 0, .string ByteArray.empty, .int .i64 0, .int .i64 0, .slice none 0 0, .slice none 0 0, .slice (some ⟨w.heap.size + 1 + 1 + 1, 0, none⟩) 2 2] 27)) 27
  (#[.int .i64 x.k, .int .i64 x.n, .string x.nm, x1, y1, z1, .slice A1 x.ls.length c1, .slice A2 x.ks.length c2] ++ #[.int .i64 y.k, .int .i64 y.n, .string y.nm, x2, y2, z2, .slice B1 y.ls.length d1, .slice B2 y.ks.length d2])
 simp only [World.size_alloc] at hb1 hb2 hb3
 obtain ⟨r1, r2⟩ := two_rows _ _ _ _ _ hb3 rfl
 have HR1 := Lib.hid r1
 have HR2 := Lib.hid r2
 have HB2 := Lib.hid hb2
 clear hb1 hb2 hb3 r1 r2
 go_enter Try.func48, Try.ntmps48
 go_wp2_with fail
 have hu : Upd nob w ((((w.alloc (.cells #[.int .i64 x.k, .int .i64 x.n, .string x.nm, x1, y1, z1, .slice A1 x.ls.length c1, .slice A2 x.ks.length c2] 27)).alloc (.cells #[.int .i64 y.k, .int .i64 y.n, .string y.nm, x2, y2, z2, .slice B1 y.ls.length d1, .slice B2 y.ks.length d2] 27)).alloc
  (.cells #[.int .i64 6, .int .i64 0, .string ByteArray.empty, .int .i64 0, .int .i64 0, .slice none 0 0, .slice none 0 0, .slice (some ⟨w.heap.size + 1 + 1 + 1, 0, none⟩) 2 2] 27)).alloc
  (.cells #[.int .i64 x.k, .int .i64 x.n, .string x.nm, x1, y1, z1, .slice A1 x.ls.length c1, .slice A2 x.ks.length c2, .int .i64 y.k, .int .i64 y.n, .string y.nm, x2, y2, z2, .slice B1 y.ls.length d1, .slice B2 y.ks.length d2] 27)) :=
  ((((Upd.refl nob w).alloc _).alloc _).alloc _).alloc _
 refine bodyPost_ret (results_cell_row rfl _ _ (w.heap.size + 1 + 1) 27 _ (0, 0) _ rfl HB2.out Try.underlying27 rfl tm_size) rfl ?_
 have hg : grow D w ((((w.alloc (.cells #[.int .i64 x.k, .int .i64 x.n, .string x.nm, x1, y1, z1, .slice A1 x.ls.length c1, .slice A2 x.ks.length c2] 27)).alloc (.cells #[.int .i64 y.k, .int .i64 y.n, .string y.nm, x2, y2, z2, .slice B1 y.ls.length d1, .slice B2 y.ks.length d2] 27)).alloc
  (.cells #[.int .i64 6, .int .i64 0, .string ByteArray.empty, .int .i64 0, .int .i64 0, .slice none 0 0, .slice none 0 0, .slice (some ⟨w.heap.size + 1 + 1 + 1, 0, none⟩) 2 2] 27)).alloc
  (.cells #[.int .i64 x.k, .int .i64 x.n, .string x.nm, x1, y1, z1, .slice A1 x.ls.length c1, .slice A2 x.ks.length c2, .int .i64 y.k, .int .i64 y.n, .string y.nm, x2, y2, z2, .slice B1 y.ls.length d1, .slice B2 y.ks.length d2] 27)) (w.heap.size + 1 + 1 + 1) :=
  .inr ⟨by omega, by simp only [World.size_alloc]; omega⟩
 refine ⟨_, rfl, ?_, hu.below⟩
 simp only [TmIs]
 refine ⟨_, _, _, none, 0, some ⟨w.heap.size + 1 + 1 + 1, 0, none⟩, 2, rfl, by unfold InI; omega, by unfold InI; omega, by simp, lzero_is _ _, ⟨by simp, Nat.zero_le _⟩, by simp only [LvsAt], ⟨by simp, by simp⟩, ?_⟩
 simp only [TmsAt]
 exact ⟨⟨_, _, rfl, hg, HR1.out, HA.out.old (hD.old hu) (fun _ h => .inl h)⟩, ⟨_, _, rfl, hg, HR2.out, HB.out.old (hD.old hu) (fun _ h => .inl h)⟩, trivial⟩
end Go.Proofs.Ytiampoebdmflgaa

/- What whnf makes of the law's small term; whnf's model answers once. -/
namespace Go.Proofs.Ytiampoebdmflgaa
open Go.RowKit
set_option linter.unusedVariables false
set_option maxRecDepth 100000
set_option maxHeartbeats 4000000
theorem wwhnf_one {G : List Glb} {n m fuel : Nat} {t : Tm} {r s : WRes} (h1 : wwhnf G n fuel t = some r) (h2 : wwhnf G m fuel t = some s) : r = s := by
 have a := wwhnf_mono (Nat.le_max_left n m) h1
 have b := wwhnf_mono (Nat.le_max_right n m) h2
 rw [a] at b
 exact Option.some.inj b
def cN : ByteArray := { data := #[99] }
def natN3 : ByteArray := { data := #[110, 97, 116] }
def awkN : Tm := .mk 7 0 natN3 lzero' [] []
def awkC : Tm := .mk 7 0 cN lzero' [] []
def awkV : Tm := .mk 1 0 ByteArray.empty lzero' [] []
def awkL : Tm := .mk 4 0 ByteArray.empty lzero' [] [awkN, awkV]
def awkT : Tm := .mk 6 0 ByteArray.empty lzero' [] [awkL, awkC]
theorem awk10 : wwhnf [] 5 1 awkT = some (awkC, 0, 0) := by kernel_rfl
theorem awk10_one {n : Nat} {u : Tm} {err : Int} {left : Nat} (h : wwhnf [] n (wfuel 1).toNat awkT = some (u, err, left)) : u = awkC ∧ err = 0 ∧ left = 0 := by
 have := wwhnf_one h awk10
 simp only [Prod.mk.injEq] at this
 exact this
end Go.Proofs.Ytiampoebdmflgaa

/- The law's awake of chapter 10. -/
namespace Go.Proofs.Ytiampoebdmflgaa
open Go.RowKit
set_option linter.unusedVariables false
set_option maxRecDepth 100000
set_option maxHeartbeats 2000000
set_option linter.unusedSimpArgs false
/-- Slots are filled. -/
def puts (a : Act) : List (Tmp × Value) → Act
 | [] => a
 | (d, v) :: l => puts (a.put (some d) v) l
theorem wp_region_post {P : Program} {c : Code} {Q : Exit → Act → World → Prop} {a : Act} {w : World} (R : Act → Act → World → Prop) (h : c.wp P (fun e a' w' => e = .normal ∧ R a a' w') a w) (k : ∀ a' w', R a a' w' → Q .normal a' w') : c.wp P Q a w :=
 Code.wp_mono (fun e a' w' h => by obtain ⟨rfl, h⟩ := h; exact k a' w' h) h
/-- Blocks that are there, but one. -/
def NB (b : Nat) (w : World) : Nat → Prop := fun q => q < w.heap.size ∧ q ≠ b
theorem awake10_any (w : World) : Calls Try.prog 25 #[] w fun e w' => e = .returned (.bool true) ∧ Below w.heap.size w w' := by
 have hz := tm_zero
 go_enter Try.func25, Try.ntmps25
 go_wp2_with fail
 refine (rconst_any natN3 (by decide) [] none 0 nob _ (fun _ f => f.elim) (by simp) (by simp only [LvsAt])).mono ?_
 rintro e w1 ⟨c1, rfl, h1, hb1⟩
 have hu1 : Upd nob _ w1 := Upd.of_below hb1
 have H1 := Lib.hid h1
 clear h1 hb1
 go_wp2_with fail
 refine (rvar_any 0 (by unfold InI; omega) w1).mono ?_
 rintro e w2 ⟨c2, rfl, h2, hb2⟩
 have hu2 : Upd nob w1 w2 := Upd.of_below hb2
 have h12 : TmIs nob w2 awkN c1 := H1.out.old (Old.of_upd hu2 fun _ f => f.elim) (fun _ f => f.elim)
 have H12 := Lib.hid h12
 have H2 := Lib.hid h2
 clear h2 hb2 h12 H1
 go_wp2_with fail
 refine (rbind_any 4 (by unfold InI; omega) awkN awkV c1 c2 nob w2 (fun _ f => f.elim) H12.out H2.out).mono ?_
 rintro e w3 ⟨c3, rfl, h3, hb3⟩
 have hu3 : Upd nob w2 w3 := Upd.of_below hb3
 have H3 := Lib.hid h3
 clear h3 hb3 H12 H2
 go_wp2_with fail
 refine (rconst_any cN (by decide) [] none 0 nob _ (fun _ f => f.elim) (by simp) (by simp only [LvsAt])).mono ?_
 rintro e w4 ⟨c4, rfl, h4, hb4⟩
 have hu4 : Upd nob w3 w4 := Upd.of_below hb4
 have hin3 : Within (grow nob w2 w3) w3 := fun q hq => hq.elim (fun f => f.elim) fun h => h.2
 have h34 : TmIs (grow nob w2 w3) w4 awkL c3 := H3.out.old (hin3.old hu4) (fun _ h => h)
 have h44 : TmIs (grow nob w2 w3) w4 awkC c4 := h4.old (Old.refl _ _) (fun _ f => f.elim)
 have H34 := Lib.hid h34
 have H44 := Lib.hid h44
 have hin4 : Within (grow nob w2 w3) w4 := hin3.up hu4
 clear h34 h44 h4 hb4 H3
 go_wp2_with fail
 refine (rapp_any awkL awkC c3 c4 (grow nob w2 w3) w4 hin4 H34.out H44.out).mono ?_
 rintro e w5 ⟨c5, rfl, h5, hb5⟩
 have hu5 : Upd nob w4 w5 := Upd.of_below hb5
 have hu05 : Upd nob w w5 := ((((hu1).trans hu2).trans hu3).trans hu4).trans hu5
 obtain ⟨D, hD5, h5⟩ : ∃ D, Within D w5 ∧ TmIs D w5 awkT c5 := ⟨_, fun q hq => hq.elim (fun h => Nat.lt_of_lt_of_le (hin4 _ h) hu5.size) fun h => h.2, h5⟩
 obtain ⟨yp, yq, yB, ym, yd, yE, yx, yE', yx', rfl⟩ := h5.lit8
 have hz1 := h5.oneCell
 have HO := Lib.hid hz1.2
 have H5 := Lib.hid h5
 clear h5 hb5 H34 H44 hz1 hin3 hin4
 go_wp2_with (first
  | ((with_reducible refine this_op (.store 27 (.tmp 1) (.tmp 9)) ?_); refine wpList_store_row rfl 27 (.tmp 1) (.tmp 9) rfl w5.heap.size _ rfl rfl 27 _ (Blk.new w5 _ _) tm_size rfl HO.out ?_))
 obtain ⟨W6, hW6⟩ : ∃ W6, (w5.alloc (.cells #[.int .i64 0, .int .i64 0, .string ByteArray.empty, .int .i64 0, .int .i64 0, .slice none 0 0, .slice none 0 0, .slice none 0 0] 27)).setRow w5.heap.size #[.int .i64 awkT.k, .int .i64 awkT.n, .string awkT.nm, .int .i64 yp, .int .i64 yq, .slice yB ym yd, .slice yE awkT.ls.length yx, .slice yE' awkT.ks.length yx'] = W6 := ⟨_, rfl⟩
 have hu6 : Upd nob w5 W6 := by rw [← hW6]; exact ((Upd.refl nob w5).alloc _).setRow (.inr (Nat.le_refl _)) _
 have hb6 : Blk W6 w5.heap.size 27 #[.int .i64 awkT.k, .int .i64 awkT.n, .string awkT.nm, .int .i64 yp, .int .i64 yq, .slice yB ym yd, .slice yE awkT.ls.length yx, .slice yE' awkT.ks.length yx'] := by rw [← hW6]; exact (Blk.new w5 _ _).row _
 rw [hW6]
 clear hW6
 have hu06 : Upd nob w W6 := hu05.trans hu6
 have r6 := hb6.rowAt
 have hlt6 := hb6.lt
 have H6 := Lib.hid (H5.out.old (hD5.old hu6) (fun _ h => h))
 have hD6 : Within D W6 := hD5.up hu6
 clear H5 HO hD5
 refine wp_region_post (R := fun a0 a' w' => ∃ (eb b : Nat) (p q : Int) (B : Option Addr) (m d : Nat) (E : Option Addr) (x : Nat) (E' : Option Addr) (x' : Nat), a' = puts a0 [(11, .pointer (some ⟨eb, 0, none⟩)), (12, .agg #[.int .i64 awkT.k, .int .i64 awkT.n, .string awkT.nm, .int .i64 yp, .int .i64 yq, .slice yB ym yd, .slice yE awkT.ls.length yx, .slice yE' awkT.ks.length yx']), (13, .tuple #[.agg #[.int .i64 awkC.k, .int .i64 awkC.n, .string awkC.nm, .int .i64 p, .int .i64 q, .slice B m d, .slice E awkC.ls.length x, .slice E' awkC.ks.length x'], .int .i64 0, .int .i64 0]), (10, .tuple #[.agg #[.int .i64 awkC.k, .int .i64 awkC.n, .string awkC.nm, .int .i64 p, .int .i64 q, .slice B m d, .slice E awkC.ls.length x, .slice E' awkC.ks.length x'], .int .i64 0, .int .i64 0]), (14, .agg #[.int .i64 awkC.k, .int .i64 awkC.n, .string awkC.nm, .int .i64 p, .int .i64 q, .slice B m d, .slice E awkC.ls.length x, .slice E' awkC.ks.length x']), (15, .int .i64 0), (16, .int .i64 0), (2, .pointer (some ⟨b, 0, none⟩)), (3, .int .i64 0), (4, .int .i64 0)] ∧ Blk w' b 27 #[.int .i64 awkC.k, .int .i64 awkC.n, .string awkC.nm, .int .i64 p, .int .i64 q, .slice B m d, .slice E awkC.ls.length x, .slice E' awkC.ks.length x'] ∧ Upd nob W6 w') ?_ ?_
 rotate_left
 rotate_left
 refine wp_region_P (by kernel_rfl) ?_
 refine wpAny_of_E (fun X : World => ∀ p : Addr, p.block < W6.heap.size → X.cell? p = W6.cell? p) 10 _ _ _ _ ?_
 have hS : ∀ p : Addr, p.block < W6.heap.size → W6.drew.cell? p = W6.cell? p := fun _ _ => rfl
 refine wpAnyE_take (i := 1) (v := (.agg #[.int .i64 awkT.k, .int .i64 awkT.n, .string awkT.nm, .int .i64 yp, .int .i64 yq, .slice yB ym yd, .slice yE awkT.ls.length yx, .slice yE' awkT.ks.length yx'])) [] rfl (by kernel_rfl) (fun _ _ _ h => h) (Or.inl ⟨by rfl, ?_⟩) hS ?_
 · intro wx hx
   exact run_load_at 27 (.tmp 1) rfl ⟨w5.heap.size, 0, none⟩ rfl #[.int .i64 awkT.k, .int .i64 awkT.n, .string awkT.nm, .int .i64 yp, .int .i64 yq, .slice yB ym yd, .slice yE awkT.ls.length yx, .slice yE' awkT.ks.length yx'] _ (row_on r6 hlt6 hx) Try.underlying27 rfl tm_size
 try simp only [tl]
 refine wpAnyE_br (i := 0) (j := 7) (by kernel_rfl) (by kernel_rfl) (by kernel_rfl) rfl rfl (by rfl) (by rfl) (fun K hK => ?_) (fun K hK => ?_)
 · go_simp
   refine (new_nil W6.drew).mono ?_
   rintro e w7 ⟨eb, rfl, hE0, hn7⟩
   have huw7 : Upd nob W6.drew w7 := hn7
   have hUw7 : Upd nob W6 w7 := ((Upd.refl nob W6).drew).trans huw7
   have hsw7 : W6.heap.size ≤ w7.heap.size := huw7.size
   refine hK _ _ (cells_of_upd hUw7) ?_
   clear hK K
   try simp only [tl]
   have hS : ∀ p : Addr, p.block < W6.heap.size → w7.cell? p = W6.cell? p := cells_of_upd hUw7
   have HE0 := Lib.hid hE0
   clear hE0
   refine wpAnyE_br (i := 2) (j := 7) (by kernel_rfl) (by kernel_rfl) (by kernel_rfl) rfl rfl (by rfl) (by rfl) (fun K hK => ?_) (fun K hK => ?_)
   · go_simp
     refine (whnf_top [] _ 1 awkT (There w7) w7 _ (fun _ h => h) (.inr ⟨eb, rfl, HE0.out.old (Old.refl _ _) (fun q hq => by have h1 : W6.heap.size ≤ q := hq.1; have h2 := hq.2; exact h2)⟩) (H6.out.old (hD6.old hUw7) (fun q hq => by have h1 := hD6 q hq; exact (by omega : q < w7.heap.size)))).mono ?_
     rintro e w8 ⟨n8, u, err, left, ucs, hwh, rfl, ht8, hn8, hle8⟩
     have huw8 : Upd nob w7 w8 := hn8
     have hUw8 : Upd nob W6 w8 := (hUw7).trans huw8
     have hsw8 : w7.heap.size ≤ w8.heap.size := huw8.size
     refine hK _ _ (cells_of_upd hUw8) ?_
     clear hK K
     try simp only [tl]
     have hS : ∀ p : Addr, p.block < W6.heap.size → w8.cell? p = W6.cell? p := cells_of_upd hUw8
     obtain ⟨rfl, rfl, rfl⟩ := awk10_one hwh
     obtain ⟨p, q, B, m, d, E, x, E', x', rfl⟩ := ht8.lit8
     have HO8 := Lib.hid ht8.oneCell.2
     clear ht8 hwh hle8
     refine wpAnyE_take (i := 3) (v := ?_) [] rfl (by kernel_rfl) (fun _ _ _ h => h) (Or.inl ⟨by rfl, ?_⟩) hS ?_
     rotate_left
     · intro wx hx
       clear hx
       go_simp
       with_reducible rfl
     try simp only [tl]
     refine wpAnyE_take (i := 4) (v := ?_) [] rfl (by kernel_rfl) (fun _ _ _ h => h) (Or.inl ⟨by rfl, ?_⟩) hS ?_
     rotate_left
     · intro wx hx
       clear hx
       go_simp
       with_reducible rfl
     try simp only [tl]
     refine wpAnyE_take (i := 5) (v := ?_) [] rfl (by kernel_rfl) (fun _ _ _ h => h) (Or.inl ⟨by rfl, ?_⟩) hS ?_
     rotate_left
     · intro wx hx
       clear hx
       go_simp
       with_reducible rfl
     try simp only [tl]
     refine wpAnyE_take (i := 6) (v := ?_) [] rfl (by kernel_rfl) (fun _ _ _ h => h) (Or.inl ⟨by rfl, ?_⟩) hS ?_
     rotate_left
     · intro wx hx
       clear hx
       go_simp
       with_reducible rfl
     try simp only [tl]
     refine wpAnyE_one (i := 7) (by kernel_rfl) (by kernel_rfl) rfl (by rfl) fun K hK => ?_
     go_simp
     have huwa : Upd nob w8 (w8.alloc (.cells #[.int .i64 0, .int .i64 0, .string ByteArray.empty, .int .i64 0, .int .i64 0, .slice none 0 0, .slice none 0 0, .slice none 0 0] 27)) := (Upd.refl nob w8).alloc _
     obtain ⟨wa, hwwa⟩ : ∃ wa, w8.alloc (.cells #[.int .i64 0, .int .i64 0, .string ByteArray.empty, .int .i64 0, .int .i64 0, .slice none 0 0, .slice none 0 0, .slice none 0 0] 27) = wa := ⟨_, rfl⟩
     have hAwa : Blk wa w8.heap.size 27 #[.int .i64 0, .int .i64 0, .string ByteArray.empty, .int .i64 0, .int .i64 0, .slice none 0 0, .slice none 0 0, .slice none 0 0] := by rw [← hwwa]; exact Blk.new w8 _ _
     rw [hwwa] at huwa ⊢
     clear hwwa
     have hUwa : Upd nob W6 wa := (hUw8).trans huwa
     have hswa : w8.heap.size + 1 ≤ wa.heap.size := hAwa.lt
     have hgwa : W6.heap.size ≤ w8.heap.size := (hUw8).size
     refine hK _ _ (cells_of_upd hUwa) ?_
     clear hK K
     try simp only [tl]
     have hS : ∀ p : Addr, p.block < W6.heap.size → wa.cell? p = W6.cell? p := cells_of_upd hUwa
     refine wpAnyE_one (i := 8) (by kernel_rfl) (by kernel_rfl) rfl (by rfl) fun K hK => ?_
     refine owp_store_blk 27 (.tmp 2) (.tmp 14) rfl rfl (w8.heap.size) _ rfl rfl 27 _ hAwa tm_size rfl HO8.out ?_
     obtain ⟨gb, hgb⟩ : ∃ gb, w8.heap.size = gb := ⟨_, rfl⟩
     have hgW : W6.heap.size ≤ gb := by rw [← hgb]; exact (by omega)
     have hB := (hAwa).row #[.int .i64 awkC.k, .int .i64 awkC.n, .string awkC.nm, .int .i64 p, .int .i64 q, .slice B m d, .slice E awkC.ls.length x, .slice E' awkC.ks.length x']
     obtain ⟨wS, hwwS⟩ : ∃ WF, wa.setRow (w8.heap.size) #[.int .i64 awkC.k, .int .i64 awkC.n, .string awkC.nm, .int .i64 p, .int .i64 q, .slice B m d, .slice E awkC.ls.length x, .slice E' awkC.ks.length x'] = WF := ⟨_, rfl⟩
     have huwS : Upd (fun q => q = gb) wa wS := by rw [← hwwS, ← hgb]; exact (Upd.refl (fun q => q = w8.heap.size) wa).setRow (.inl rfl) _
     rw [hwwS] at hB ⊢
     clear hwwS
     have hUwS : Upd nob W6 wS := (hUwa).trans' huwS (fun q hq h => by have h : q = gb := h; omega)
     refine hK _ _ (cells_of_upd hUwS) ?_
     clear hK K
     try simp only [tl]
     have hS : ∀ p : Addr, p.block < W6.heap.size → wS.cell? p = W6.cell? p := cells_of_upd hUwS
     refine wpAnyE_one (i := 9) (by kernel_rfl) (by kernel_rfl) rfl (by rfl) fun K hK => ?_
     go_simp
     refine hK _ _ hS ?_
     clear hK K
     try simp only [tl]
     refine wpAnyE_z (by kernel_rfl) rfl (by rfl) fun K hK => ?_
     go_simp
     refine hK _ _ ?_
     clear hK K
     try simp only [tl]
     refine wpAny_done (by kernel_rfl) ?_ _
     refine NoPanic.normal ?_
     exact ⟨rfl, eb, gb, p, q, B, m, d, E, x, E', x', by rw [← hgb]; simp only [puts]; try simp only [tl], by rw [← hgb]; exact hB, hUwS⟩
   · go_simp
     have huwa : Upd nob w7 (w7.alloc (.cells #[.int .i64 0, .int .i64 0, .string ByteArray.empty, .int .i64 0, .int .i64 0, .slice none 0 0, .slice none 0 0, .slice none 0 0] 27)) := (Upd.refl nob w7).alloc _
     obtain ⟨wa, hwwa⟩ : ∃ wa, w7.alloc (.cells #[.int .i64 0, .int .i64 0, .string ByteArray.empty, .int .i64 0, .int .i64 0, .slice none 0 0, .slice none 0 0, .slice none 0 0] 27) = wa := ⟨_, rfl⟩
     have hAwa : Blk wa w7.heap.size 27 #[.int .i64 0, .int .i64 0, .string ByteArray.empty, .int .i64 0, .int .i64 0, .slice none 0 0, .slice none 0 0, .slice none 0 0] := by rw [← hwwa]; exact Blk.new w7 _ _
     rw [hwwa] at huwa ⊢
     clear hwwa
     have hUwa : Upd nob W6 wa := (hUw7).trans huwa
     have hswa : w7.heap.size + 1 ≤ wa.heap.size := hAwa.lt
     have hgwa : W6.heap.size ≤ w7.heap.size := (hUw7).size
     refine hK _ _ (cells_of_upd hUwa) ?_
     clear hK K
     try simp only [tl]
     have hS : ∀ p : Addr, p.block < W6.heap.size → wa.cell? p = W6.cell? p := cells_of_upd hUwa
     refine wpAnyE_one (i := 2) (by kernel_rfl) (by kernel_rfl) rfl (by rfl) fun K hK => ?_
     go_simp
     refine (whnf_top [] _ 1 awkT (NB (w7.heap.size) wa) wa _ (fun _ h => h.1) (.inr ⟨eb, rfl, HE0.out.old (Old.of_upd (huwa) (fun q hq => ⟨fun f => f, hq.2⟩)) (fun q hq => by have h1 : W6.heap.size ≤ q := hq.1; have h2 := hq.2; exact ⟨by omega, by omega⟩)⟩) (H6.out.old (hD6.old hUwa) (fun q hq => by have h1 := hD6 q hq; exact ⟨by omega, by omega⟩))).mono ?_
     rintro e w8 ⟨n8, u, err, left, ucs, hwh, rfl, ht8, hn8, hle8⟩
     have huw8 : Upd nob wa w8 := hn8
     have hUw8 : Upd nob W6 w8 := (hUwa).trans huw8
     have hsw8 : wa.heap.size ≤ w8.heap.size := huw8.size
     have hAw8 := (hAwa).upd huw8 (fun f => f)
     refine hK _ _ (cells_of_upd hUw8) ?_
     clear hK K
     try simp only [tl]
     have hS : ∀ p : Addr, p.block < W6.heap.size → w8.cell? p = W6.cell? p := cells_of_upd hUw8
     obtain ⟨rfl, rfl, rfl⟩ := awk10_one hwh
     obtain ⟨p, q, B, m, d, E, x, E', x', rfl⟩ := ht8.lit8
     have HO8 := Lib.hid ht8.oneCell.2
     clear ht8 hwh hle8
     refine wpAnyE_take (i := 3) (v := ?_) [] rfl (by kernel_rfl) (fun _ _ _ h => h) (Or.inl ⟨by rfl, ?_⟩) hS ?_
     rotate_left
     · intro wx hx
       clear hx
       go_simp
       with_reducible rfl
     try simp only [tl]
     refine wpAnyE_take (i := 4) (v := ?_) [] rfl (by kernel_rfl) (fun _ _ _ h => h) (Or.inl ⟨by rfl, ?_⟩) hS ?_
     rotate_left
     · intro wx hx
       clear hx
       go_simp
       with_reducible rfl
     try simp only [tl]
     refine wpAnyE_take (i := 5) (v := ?_) [] rfl (by kernel_rfl) (fun _ _ _ h => h) (Or.inl ⟨by rfl, ?_⟩) hS ?_
     rotate_left
     · intro wx hx
       clear hx
       go_simp
       with_reducible rfl
     try simp only [tl]
     refine wpAnyE_take (i := 6) (v := ?_) [] rfl (by kernel_rfl) (fun _ _ _ h => h) (Or.inl ⟨by rfl, ?_⟩) hS ?_
     rotate_left
     · intro wx hx
       clear hx
       go_simp
       with_reducible rfl
     try simp only [tl]
     refine wpAnyE_one (i := 8) (by kernel_rfl) (by kernel_rfl) rfl (by rfl) fun K hK => ?_
     refine owp_store_blk 27 (.tmp 2) (.tmp 14) rfl rfl (w7.heap.size) _ rfl rfl 27 _ hAw8 tm_size rfl HO8.out ?_
     obtain ⟨gb, hgb⟩ : ∃ gb, w7.heap.size = gb := ⟨_, rfl⟩
     have hgW : W6.heap.size ≤ gb := by rw [← hgb]; exact (by omega)
     have hB := (hAw8).row #[.int .i64 awkC.k, .int .i64 awkC.n, .string awkC.nm, .int .i64 p, .int .i64 q, .slice B m d, .slice E awkC.ls.length x, .slice E' awkC.ks.length x']
     obtain ⟨wS, hwwS⟩ : ∃ WF, w8.setRow (w7.heap.size) #[.int .i64 awkC.k, .int .i64 awkC.n, .string awkC.nm, .int .i64 p, .int .i64 q, .slice B m d, .slice E awkC.ls.length x, .slice E' awkC.ks.length x'] = WF := ⟨_, rfl⟩
     have huwS : Upd (fun q => q = gb) w8 wS := by rw [← hwwS, ← hgb]; exact (Upd.refl (fun q => q = w7.heap.size) w8).setRow (.inl rfl) _
     rw [hwwS] at hB ⊢
     clear hwwS
     have hUwS : Upd nob W6 wS := (hUw8).trans' huwS (fun q hq h => by have h : q = gb := h; omega)
     refine hK _ _ (cells_of_upd hUwS) ?_
     clear hK K
     try simp only [tl]
     have hS : ∀ p : Addr, p.block < W6.heap.size → wS.cell? p = W6.cell? p := cells_of_upd hUwS
     refine wpAnyE_one (i := 9) (by kernel_rfl) (by kernel_rfl) rfl (by rfl) fun K hK => ?_
     go_simp
     refine hK _ _ hS ?_
     clear hK K
     try simp only [tl]
     refine wpAnyE_z (by kernel_rfl) rfl (by rfl) fun K hK => ?_
     go_simp
     refine hK _ _ ?_
     clear hK K
     try simp only [tl]
     refine wpAny_done (by kernel_rfl) ?_ _
     refine NoPanic.normal ?_
     exact ⟨rfl, eb, gb, p, q, B, m, d, E, x, E', x', by rw [← hgb]; simp only [puts]; try simp only [tl], by rw [← hgb]; exact hB, hUwS⟩
 · go_simp
   have huwa : Upd nob W6.drew ((W6.alloc (.cells #[.int .i64 0, .int .i64 0, .string ByteArray.empty, .int .i64 0, .int .i64 0, .slice none 0 0, .slice none 0 0, .slice none 0 0] 27)).drew) := (Upd.refl nob W6.drew).alloc _
   obtain ⟨wa, hwwa⟩ : ∃ wa, (W6.alloc (.cells #[.int .i64 0, .int .i64 0, .string ByteArray.empty, .int .i64 0, .int .i64 0, .slice none 0 0, .slice none 0 0, .slice none 0 0] 27)).drew = wa := ⟨_, rfl⟩
   have hAwa : Blk wa W6.heap.size 27 #[.int .i64 0, .int .i64 0, .string ByteArray.empty, .int .i64 0, .int .i64 0, .slice none 0 0, .slice none 0 0, .slice none 0 0] := by rw [← hwwa]; exact Blk.new W6.drew _ _
   rw [hwwa] at huwa ⊢
   clear hwwa
   have hUwa : Upd nob W6 wa := ((Upd.refl nob W6).drew).trans huwa
   have hswa : W6.heap.size + 1 ≤ wa.heap.size := hAwa.lt
   have hgwa : W6.heap.size ≤ W6.heap.size := ((Upd.refl nob W6).drew).size
   refine hK _ _ (cells_of_upd hUwa) ?_
   clear hK K
   try simp only [tl]
   have hS : ∀ p : Addr, p.block < W6.heap.size → wa.cell? p = W6.cell? p := cells_of_upd hUwa
   refine wpAnyE_one (i := 0) (by kernel_rfl) (by kernel_rfl) rfl (by rfl) fun K hK => ?_
   go_simp
   refine (new_nil wa).mono ?_
   rintro e w7 ⟨eb, rfl, hE0, hn7⟩
   have huw7 : Upd nob wa w7 := hn7
   have hUw7 : Upd nob W6 w7 := (hUwa).trans huw7
   have hsw7 : wa.heap.size ≤ w7.heap.size := huw7.size
   have hAw7 := (hAwa).upd huw7 (fun f => f)
   refine hK _ _ (cells_of_upd hUw7) ?_
   clear hK K
   try simp only [tl]
   have hS : ∀ p : Addr, p.block < W6.heap.size → w7.cell? p = W6.cell? p := cells_of_upd hUw7
   have HE0 := Lib.hid hE0
   clear hE0
   refine wpAnyE_one (i := 2) (by kernel_rfl) (by kernel_rfl) rfl (by rfl) fun K hK => ?_
   go_simp
   refine (whnf_top [] _ 1 awkT (NB (W6.heap.size) w7) w7 _ (fun _ h => h.1) (.inr ⟨eb, rfl, HE0.out.old (Old.refl _ _) (fun q hq => by have h1 : wa.heap.size ≤ q := hq.1; have h2 := hq.2; exact ⟨by omega, by omega⟩)⟩) (H6.out.old (hD6.old hUw7) (fun q hq => by have h1 := hD6 q hq; exact ⟨by omega, by omega⟩))).mono ?_
   rintro e w8 ⟨n8, u, err, left, ucs, hwh, rfl, ht8, hn8, hle8⟩
   have huw8 : Upd nob w7 w8 := hn8
   have hUw8 : Upd nob W6 w8 := (hUw7).trans huw8
   have hsw8 : w7.heap.size ≤ w8.heap.size := huw8.size
   have hAw8 := (hAw7).upd huw8 (fun f => f)
   refine hK _ _ (cells_of_upd hUw8) ?_
   clear hK K
   try simp only [tl]
   have hS : ∀ p : Addr, p.block < W6.heap.size → w8.cell? p = W6.cell? p := cells_of_upd hUw8
   obtain ⟨rfl, rfl, rfl⟩ := awk10_one hwh
   obtain ⟨p, q, B, m, d, E, x, E', x', rfl⟩ := ht8.lit8
   have HO8 := Lib.hid ht8.oneCell.2
   clear ht8 hwh hle8
   refine wpAnyE_take (i := 3) (v := ?_) [] rfl (by kernel_rfl) (fun _ _ _ h => h) (Or.inl ⟨by rfl, ?_⟩) hS ?_
   rotate_left
   · intro wx hx
     clear hx
     go_simp
     with_reducible rfl
   try simp only [tl]
   refine wpAnyE_take (i := 4) (v := ?_) [] rfl (by kernel_rfl) (fun _ _ _ h => h) (Or.inl ⟨by rfl, ?_⟩) hS ?_
   rotate_left
   · intro wx hx
     clear hx
     go_simp
     with_reducible rfl
   try simp only [tl]
   refine wpAnyE_take (i := 5) (v := ?_) [] rfl (by kernel_rfl) (fun _ _ _ h => h) (Or.inl ⟨by rfl, ?_⟩) hS ?_
   rotate_left
   · intro wx hx
     clear hx
     go_simp
     with_reducible rfl
   try simp only [tl]
   refine wpAnyE_take (i := 6) (v := ?_) [] rfl (by kernel_rfl) (fun _ _ _ h => h) (Or.inl ⟨by rfl, ?_⟩) hS ?_
   rotate_left
   · intro wx hx
     clear hx
     go_simp
     with_reducible rfl
   try simp only [tl]
   refine wpAnyE_one (i := 8) (by kernel_rfl) (by kernel_rfl) rfl (by rfl) fun K hK => ?_
   refine owp_store_blk 27 (.tmp 2) (.tmp 14) rfl rfl (W6.heap.size) _ rfl rfl 27 _ hAw8 tm_size rfl HO8.out ?_
   obtain ⟨gb, hgb⟩ : ∃ gb, W6.heap.size = gb := ⟨_, rfl⟩
   have hgW : W6.heap.size ≤ gb := by rw [← hgb]; exact (by omega)
   have hB := (hAw8).row #[.int .i64 awkC.k, .int .i64 awkC.n, .string awkC.nm, .int .i64 p, .int .i64 q, .slice B m d, .slice E awkC.ls.length x, .slice E' awkC.ks.length x']
   obtain ⟨wS, hwwS⟩ : ∃ WF, w8.setRow (W6.heap.size) #[.int .i64 awkC.k, .int .i64 awkC.n, .string awkC.nm, .int .i64 p, .int .i64 q, .slice B m d, .slice E awkC.ls.length x, .slice E' awkC.ks.length x'] = WF := ⟨_, rfl⟩
   have huwS : Upd (fun q => q = gb) w8 wS := by rw [← hwwS, ← hgb]; exact (Upd.refl (fun q => q = W6.heap.size) w8).setRow (.inl rfl) _
   rw [hwwS] at hB ⊢
   clear hwwS
   have hUwS : Upd nob W6 wS := (hUw8).trans' huwS (fun q hq h => by have h : q = gb := h; omega)
   refine hK _ _ (cells_of_upd hUwS) ?_
   clear hK K
   try simp only [tl]
   have hS : ∀ p : Addr, p.block < W6.heap.size → wS.cell? p = W6.cell? p := cells_of_upd hUwS
   refine wpAnyE_one (i := 9) (by kernel_rfl) (by kernel_rfl) rfl (by rfl) fun K hK => ?_
   go_simp
   refine hK _ _ hS ?_
   clear hK K
   try simp only [tl]
   refine wpAnyE_z (by kernel_rfl) rfl (by rfl) fun K hK => ?_
   go_simp
   refine hK _ _ ?_
   clear hK K
   try simp only [tl]
   refine wpAny_done (by kernel_rfl) ?_ _
   refine NoPanic.normal ?_
   exact ⟨rfl, eb, gb, p, q, B, m, d, E, x, E', x', by rw [← hgb]; simp only [puts]; try simp only [tl], by rw [← hgb]; exact hB, hUwS⟩
 rintro a' w' ⟨eb, b, p, q, B, m, d, E, x, E', x', rfl, hb, hu⟩
 have k0 : w'.cell? ⟨b, 0, none⟩ = some (.int .i64 7) := hb.cell 0
 have k2 : w'.cell? ⟨b, 2, none⟩ = some (.string cN) := hb.cell 2
 have hlt := hb.lt
 have hbel : Below w.heap.size w w' := (hu06.trans hu).below
 have hc : cN = { data := #[99] } := rfl
 rw [hc] at k2
 clear hb hu
 simp only [puts]
 try simp only [tl]
 go_wp2_with fail
 go_ret
 exact ⟨rfl, hbel⟩
end Go.Proofs.Ytiampoebdmflgaa

/- (Env).Len. -/
namespace Go.Proofs.Ytiampoebdmflgaa
open Go.RowKit
set_option linter.unusedVariables false
set_option maxRecDepth 100000
set_option maxHeartbeats 1000000
set_option linter.unusedSimpArgs false
theorem wlen_any (v : Value) (G : List Glb) (D : Nat → Prop) (w : World) (hv : EnvV D w v G) :
    Calls Try.prog 32 #[v] w fun e w' => e = .returned (.int .i64 G.length) ∧ w' = w := by
 rcases hv with ⟨rfl, rfl⟩ | ⟨eb, rfl, L, c, mb, ps, h1, h2, h3, h4, h5, h6, h7, h8, h9⟩
 · go_enter Try.func32, Try.ntmps32
   go_wp2_with fail
   go_ret
   exact ⟨rfl, rfl⟩
 · have c0 := h3.cell 0
   have l0 := h3.lt
   go_enter Try.func32, Try.ntmps32
   go_wp2_with fail
   go_ret
   exact ⟨by first | rfl | (simp; omega), rfl⟩
end Go.Proofs.Ytiampoebdmflgaa

/- WhnfEnvs walked. -/
namespace Go.Proofs.Ytiampoebdmflgaa
open Go.RowKit
set_option linter.unusedVariables false
set_option maxRecDepth 100000
set_option maxHeartbeats 32000000
set_option linter.unusedSimpArgs false
/-! ### The plain law -/
theorem gfind_own (G : List Glb) (nm : ByteArray) : gfind (G.map gown) nm = (gfind G nm).map gown := by
 induction G with
 | nil => rfl
 | cons g G ih =>
  unfold gfind at ih ⊢
  rw [List.map_cons, List.find?_cons, List.find?_cons]
  have e : (gown g).nm = g.nm := rfl
  rw [e]
  cases g.nm == nm
  · exact ih
  · rfl
theorem gwith_rnew : ∀ (l G : List Glb), gwith (G.map gown) l = (rnew G l).map gown
 | [], G => rfl
 | g :: l, G => by
  rw [gwith, rnew, ← gwith_rnew l, gfind_own]
  cases gfind G g.nm with
  | none => simp
  | some x => simp
theorem rnew_app : ∀ (a b G : List Glb), rnew G (a ++ b) = rnew (rnew G a) b
 | [], b, G => rfl
 | g :: a, b, G => by rw [List.cons_append, rnew, rnew, rnew_app a b]
theorem rnew_nodup : ∀ (l G : List Glb), (G.map (·.nm)).Nodup → ((rnew G l).map (·.nm)).Nodup
 | [], G, h => h
 | g :: l, G, h => by
  rw [rnew]
  refine rnew_nodup l _ ?_
  cases hf : gfind G g.nm with
  | some x => simpa using h
  | none => simp only [Option.isSome_none, Bool.false_eq_true, if_false]; exact nodup_push h hf
theorem rnew_same : ∀ (l G : List Glb), ((G ++ l).map (·.nm)).Nodup → rnew G l = G ++ l
 | [], G, _ => by rw [rnew, List.append_nil]
 | g :: l, G, h => by
  rw [rnew]
  have hf : gfind G g.nm = none := by
   rw [gfind_none]
   rw [List.map_append, List.nodup_append] at h
   exact fun hin => h.2.2 _ hin _ (by simp) rfl
  rw [hf]
  simp only [Option.isSome_none, Bool.false_eq_true, if_false]
  have e : G ++ g :: l = (G ++ [g]) ++ l := by simp
  rw [rnew_same l (G ++ [g]) (by rw [← e]; exact h), ← e]
theorem rnew_len : ∀ (l G : List Glb), (rnew G l).length ≤ G.length + l.length
 | [], G => Nat.le_refl _
 | g :: l, G => by
  rw [rnew]
  have := rnew_len l (if (gfind G g.nm).isSome = true then G else G ++ [g])
  cases hf : gfind G g.nm with
  | some x => rw [hf] at this; simp at this ⊢; omega
  | none => rw [hf] at this; simp at this ⊢; omega
/-- The same is read of what the two environments find. -/
theorem finds_same (F : List Glb) (nm : ByteArray) : ((gfind (F.map gown) nm).map gown).isSome = (gfind F nm).isSome ∧ (((gfind (F.map gown) nm).map gown).map (·.kind)).getD 0 = ((gfind F nm).map (·.kind)).getD 0 ∧
    (((gfind (F.map gown) nm).map gown).map (·.nm)).getD ByteArray.empty = ((gfind F nm).map (·.nm)).getD ByteArray.empty ∧ (((gfind (F.map gown) nm).map gown).map (·.vars)).getD 0 = ((gfind F nm).map (·.vars)).getD 0 := by
 rw [gfind_own]
 cases gfind F nm with
 | none => exact ⟨rfl, rfl, rfl, rfl⟩
 | some g => exact ⟨rfl, rfl, rfl, rfl⟩
theorem up_there {w w' : World} {S : Nat → Prop} (hu : Upd S w w') : ∀ q, There w q → There w' q := fun _ h => Nat.lt_of_lt_of_le h hu.size
theorem grow_there {w w' : World} {S : Nat → Prop} (hu : Upd S w w') : ∀ q, grow (There w) w w' q → There w' q := fun q h => h.elim (fun h => Nat.lt_of_lt_of_le h hu.size) (fun h => h.2)
theorem whnfenvs_any (l more : List Glb) (nm : ByteArray) (A A' : Option Addr) (c c' : Nat) (w : World) (hl : RAt glR (There w) w l A) (hm : RAt glR (There w) w more A') (hlc : l.length ≤ c) (hmc : more.length ≤ c') :
    Calls Try.prog 6 #[.slice A l.length c, .slice A' more.length c', .string nm] w fun e w' => e = .returned (.bool true) ∧ Below w.heap.size w w' := by
 have hz := gl_zero
 obtain ⟨n, hn⟩ : ∃ n, l.length = n := ⟨_, rfl⟩
 obtain ⟨m, hmn⟩ : ∃ m, more.length = m := ⟨_, rfl⟩
 have HN := Lib.hid hn
 have HM := Lib.hid hmn
 have HL := Lib.hid hl
 have HMO := Lib.hid hm
 rw [hn] at hlc ⊢
 rw [hmn] at hmc ⊢
 clear hl hm hn hmn
 go_enter Try.func6, Try.ntmps6
 go_wp2_with fail
 have hcall := light10_any l A c (There w) w (There_in w) HL.out
 rw [HN.out] at hcall
 refine hcall.mono ?_
 clear hcall
 rintro e w1 ⟨rfl, hu1⟩
 cases hw1 : wlight 0 l with
 | false =>
  go_wp2_with fail
  refine (awake10_any w1).mono ?_
  rintro e w2 ⟨rfl, hb2⟩
  go_wp2_with fail
  go_ret
  exact ⟨rfl, (hu1.trans (Upd.of_below hb2)).below⟩
 | true =>
  have hn30 : n ≤ 30 := by
   have := HN.out
   rcases wlight_len 0 l hw1 with h | h
   · omega
   · rw [h] at this; simp at this; omega
  clear hw1
  go_wp2_with fail
  have hcall := light10_any more A' c' (There w1) w1 (There_in w1) (HMO.out.old ((There_in w).old hu1) (up_there hu1))
  rw [HM.out] at hcall
  refine hcall.mono ?_
  clear hcall
  rintro e w2 ⟨rfl, hu2⟩
  have hu02 := hu1.trans hu2
  cases hw2 : wlight 0 more with
  | false =>
   go_wp2_with fail
   refine (awake10_any w2).mono ?_
   rintro e w3 ⟨rfl, hb3⟩
   go_wp2_with fail
   go_ret
   exact ⟨rfl, (hu02.trans (Upd.of_below hb3)).below⟩
  | true =>
   have hm30 : m ≤ 30 := by
    have := HM.out
    rcases wlight_len 0 more hw2 with h | h
    · omega
    · rw [h] at this; simp at this; omega
   clear hw2
   go_wp2_with fail
   have hcall := new_any l A c (There w2) w2 (There_in w2) (HL.out.old ((There_in w).old hu02) (up_there hu02)) (by have := HN.out; omega) (by have := HN.out; omega)
   rw [HN.out] at hcall
   refine hcall.mono ?_
   clear hcall
   rintro e w3 ⟨eb, rfl, he3, hu3⟩
   have hu03 := hu02.trans hu3
   have HE3 := Lib.hid (he3.old (Old.refl _ _) (grow_there hu3))
   clear he3
   go_wp2_with fail
   have hcall := rnew_any l A c (There w3) w3 (There_in w3) (HL.out.old ((There_in w).old hu03) (up_there hu03)) (by have := HN.out; omega) (by have := HN.out; omega)
   rw [HN.out] at hcall
   refine hcall.mono ?_
   clear hcall
   rintro e w4 ⟨rb, rfl, hr4, hu4⟩
   have hu04 := hu03.trans hu4
   obtain ⟨F, hF⟩ : ∃ F, rnew [] l = F := ⟨_, rfl⟩
   have hg1 : gwith [] l = F.map gown := by rw [← hF]; exact gwith_rnew l []
   have hFl : F.length ≤ 30 := by have := rnew_len l []; rw [hF] at this; simp only [List.length_nil] at this; have := HN.out; omega
   have hFn : (F.map (·.nm)).Nodup := by rw [← hF]; exact rnew_nodup l [] (by simp)
   rw [hF] at hr4
   have HR4 := Lib.hid (hr4.old (Old.refl _ _) (grow_there hu4))
   have he4 : EnvIs (There w4) w4 eb (F.map gown) := by rw [← hg1]; exact HE3.out.old ((There_in w3).old hu4) (up_there hu4)
   have HE4 := Lib.hid he4
   clear hr4 hg1 hF he4 HE3
   go_wp2_with fail
   have hcall := with_any (.pointer (some ⟨eb, 0, none⟩)) (F.map gown) more A' c' (There w4) w4 (There_in w4) (.inr ⟨eb, rfl, HE4.out⟩) (HMO.out.old ((There_in w).old hu04) (up_there hu04)) (by rw [List.length_map]; have := HM.out; omega) (by have := HM.out; omega)
   rw [HM.out] at hcall
   refine hcall.mono ?_
   clear hcall
   rintro e w5 ⟨eb2, rfl, he5, hu5⟩
   have hu05 := hu04.trans hu5
   rw [gwith_rnew] at he5
   have HW5 := Lib.hid (he5.old (Old.refl _ _) (grow_there hu5))
   have HR5 := Lib.hid (HR4.out.old ((There_in w4).old hu5) (up_there hu5))
   have HE5 := Lib.hid (HE4.out.old ((There_in w4).old hu5) (up_there hu5))
   clear he5 HR4 HE4
   go_wp2_with fail
   have hcall := rwith_any rb F more A' c' (There w5) w5 (There_in w5) HR5.out (HMO.out.old ((There_in w).old hu05) (up_there hu05)) (by have := HM.out; omega) (by have := HM.out; omega)
   rw [HM.out] at hcall
   refine hcall.mono ?_
   clear hcall
   rintro e w6 ⟨rb2, rfl, hr6, hu6⟩
   have hu06 := hu05.trans hu6
   rw [rnew_app, rnew_same F [] (by simpa using hFn), List.nil_append] at hr6
   obtain ⟨V, hV⟩ : ∃ V, rnew F more = V := ⟨_, rfl⟩
   have hVl : V.length ≤ 60 := by have := rnew_len more F; rw [hV] at this; have := HM.out; omega
   have HV6 := Lib.hid (show REnvIs (There w6) w6 rb2 V by rw [← hV]; exact hr6.old (Old.refl _ _) (grow_there hu6))
   have HW6 := Lib.hid (show EnvIs (There w6) w6 eb2 (V.map gown) by rw [← hV]; exact HW5.out.old ((There_in w5).old hu6) (up_there hu6))
   have HR6 := Lib.hid (HR5.out.old ((There_in w5).old hu6) (up_there hu6))
   have HE6 := Lib.hid (HE5.out.old ((There_in w5).old hu6) (up_there hu6))
   clear hr6 HW5 HR5 HE5 hV hFn
   go_wp2_with fail
   refine (find_top (.pointer (some ⟨eb, 0, none⟩)) (F.map gown) nm (There w6) w6 (There_in w6) (.inr ⟨eb, rfl, HE6.out⟩)).mono ?_
   rintro e w7 ⟨cs1, ok1, rfl, hf1, hun1⟩
   obtain ⟨o1, p10, p11, p12⟩ := hf1.lit
   have hcs1 := hf1.cells
   have HOC1 := Lib.hid hcs1.2
   have HSC1 := Lib.hid hcs1.1
   have P10 := Lib.hid p10
   have P11 := Lib.hid p11
   have P12 := Lib.hid p12
   have O1 := Lib.hid o1
   clear hf1 hcs1 p10 p11 p12 o1
   go_wp2_with (first
    | ((with_reducible refine this_op (.store 74 (.tmp 11) (.tmp 42)) ?_); refine wpList_store_row rfl 74 (.tmp 11) (.tmp 42) rfl w7.heap.size _ rfl rfl 74 _ (Blk.new w7 _ _) (by rw [HSC1.out]; exact gl_size) (by rw [HSC1.out]; rfl) HOC1.out ?_
       obtain ⟨w8, hW1⟩ : ∃ W, (w7.alloc (.cells #[.int .i64 0, .string ByteArray.empty, .int .i64 0, .int .i64 0, .int .i64 0, .string ByteArray.empty, .int .i64 0, .int .i64 0, .slice none 0 0, .slice none 0 0, .slice none 0 0, .int .i64 0, .int .i64 0, .string ByteArray.empty, .int .i64 0, .int .i64 0, .slice none 0 0, .slice none 0 0, .slice none 0 0, .string ByteArray.empty, .int .i64 0, .int .i64 0, .int .i64 0, .slice none 0 0, .int .i64 0, .slice none 0 0] 74)).setRow w7.heap.size cs1 = W := ⟨_, rfl⟩
       have hv1 : Upd nob w7 w8 := by rw [← hW1]; exact ((Upd.refl nob w7).alloc _).setRow (.inr (Nat.le_refl _)) _
       have hbx1 : Blk w8 w7.heap.size 74 cs1 := by rw [← hW1]; exact (Blk.new w7 _ _).row _
       rw [hW1]
       clear hW1
       have HBX1 := Lib.hid hbx1
       clear hbx1
       have hun1' : Upd nob w6 w8 := hun1.trans hv1
       have hu08 : Upd nob w w8 := hu06.trans hun1'
       have HE8 := Lib.hid (HE6.out.old ((There_in w6).old hun1') (up_there hun1'))
       have HR8 := Lib.hid (HR6.out.old ((There_in w6).old hun1') (up_there hun1'))
       have HW8 := Lib.hid (HW6.out.old ((There_in w6).old hun1') (up_there hun1'))
       have HV8 := Lib.hid (HV6.out.old ((There_in w6).old hun1') (up_there hun1'))
       clear HE6 HR6 HW6 HV6))
   refine (rfind_top rb F nm (There w8) w8 (There_in w8) HR8.out (by omega)).mono ?_
   rintro e w9 ⟨cs2, ok2, rfl, hf2, hun2⟩
   obtain ⟨o2, p20, p21, p22⟩ := hf2.lit
   have hcs2 := hf2.cells
   have HOC2 := Lib.hid hcs2.2
   have HSC2 := Lib.hid hcs2.1
   have P20 := Lib.hid p20
   have P21 := Lib.hid p21
   have P22 := Lib.hid p22
   have O2 := Lib.hid o2
   clear hf2 hcs2 p20 p21 p22 o2
   go_wp2_with (first
    | ((with_reducible refine this_op (.store 74 (.tmp 13) (.tmp 48)) ?_); refine wpList_store_row rfl 74 (.tmp 13) (.tmp 48) rfl w9.heap.size _ rfl rfl 74 _ (Blk.new w9 _ _) (by rw [HSC2.out]; exact gl_size) (by rw [HSC2.out]; rfl) HOC2.out ?_
       obtain ⟨w10, hW2⟩ : ∃ W, (w9.alloc (.cells #[.int .i64 0, .string ByteArray.empty, .int .i64 0, .int .i64 0, .int .i64 0, .string ByteArray.empty, .int .i64 0, .int .i64 0, .slice none 0 0, .slice none 0 0, .slice none 0 0, .int .i64 0, .int .i64 0, .string ByteArray.empty, .int .i64 0, .int .i64 0, .slice none 0 0, .slice none 0 0, .slice none 0 0, .string ByteArray.empty, .int .i64 0, .int .i64 0, .int .i64 0, .slice none 0 0, .int .i64 0, .slice none 0 0] 74)).setRow w9.heap.size cs2 = W := ⟨_, rfl⟩
       have hv2 : Upd nob w9 w10 := by rw [← hW2]; exact ((Upd.refl nob w9).alloc _).setRow (.inr (Nat.le_refl _)) _
       have hbx2 : Blk w10 w9.heap.size 74 cs2 := by rw [← hW2]; exact (Blk.new w9 _ _).row _
       rw [hW2]
       clear hW2
       have HBX2 := Lib.hid hbx2
       clear hbx2
       have hun2' : Upd nob w8 w10 := hun2.trans hv2
       have hu010 : Upd nob w w10 := hu08.trans hun2'
       have HE10 := Lib.hid (HE8.out.old ((There_in w8).old hun2') (up_there hun2'))
       have HR10 := Lib.hid (HR8.out.old ((There_in w8).old hun2') (up_there hun2'))
       have HW10 := Lib.hid (HW8.out.old ((There_in w8).old hun2') (up_there hun2'))
       have HV10 := Lib.hid (HV8.out.old ((There_in w8).old hun2') (up_there hun2'))
       clear HE8 HR8 HW8 HV8))
   refine (find_top (.pointer (some ⟨eb2, 0, none⟩)) (V.map gown) nm (There w10) w10 (There_in w10) (.inr ⟨eb2, rfl, HW10.out⟩)).mono ?_
   rintro e w11 ⟨cs3, ok3, rfl, hf3, hun3⟩
   obtain ⟨o3, p30, p31, p32⟩ := hf3.lit
   have hcs3 := hf3.cells
   have HOC3 := Lib.hid hcs3.2
   have HSC3 := Lib.hid hcs3.1
   have P30 := Lib.hid p30
   have P31 := Lib.hid p31
   have P32 := Lib.hid p32
   have O3 := Lib.hid o3
   clear hf3 hcs3 p30 p31 p32 o3
   go_wp2_with (first
    | ((with_reducible refine this_op (.store 74 (.tmp 15) (.tmp 54)) ?_); refine wpList_store_row rfl 74 (.tmp 15) (.tmp 54) rfl w11.heap.size _ rfl rfl 74 _ (Blk.new w11 _ _) (by rw [HSC3.out]; exact gl_size) (by rw [HSC3.out]; rfl) HOC3.out ?_
       obtain ⟨w12, hW3⟩ : ∃ W, (w11.alloc (.cells #[.int .i64 0, .string ByteArray.empty, .int .i64 0, .int .i64 0, .int .i64 0, .string ByteArray.empty, .int .i64 0, .int .i64 0, .slice none 0 0, .slice none 0 0, .slice none 0 0, .int .i64 0, .int .i64 0, .string ByteArray.empty, .int .i64 0, .int .i64 0, .slice none 0 0, .slice none 0 0, .slice none 0 0, .string ByteArray.empty, .int .i64 0, .int .i64 0, .int .i64 0, .slice none 0 0, .int .i64 0, .slice none 0 0] 74)).setRow w11.heap.size cs3 = W := ⟨_, rfl⟩
       have hv3 : Upd nob w11 w12 := by rw [← hW3]; exact ((Upd.refl nob w11).alloc _).setRow (.inr (Nat.le_refl _)) _
       have hbx3 : Blk w12 w11.heap.size 74 cs3 := by rw [← hW3]; exact (Blk.new w11 _ _).row _
       rw [hW3]
       clear hW3
       have HBX3 := Lib.hid hbx3
       clear hbx3
       have hun3' : Upd nob w10 w12 := hun3.trans hv3
       have hu012 : Upd nob w w12 := hu010.trans hun3'
       have HE12 := Lib.hid (HE10.out.old ((There_in w10).old hun3') (up_there hun3'))
       have HR12 := Lib.hid (HR10.out.old ((There_in w10).old hun3') (up_there hun3'))
       have HW12 := Lib.hid (HW10.out.old ((There_in w10).old hun3') (up_there hun3'))
       have HV12 := Lib.hid (HV10.out.old ((There_in w10).old hun3') (up_there hun3'))
       clear HE10 HR10 HW10 HV10))
   refine (rfind_top rb2 V nm (There w12) w12 (There_in w12) HV12.out (by omega)).mono ?_
   rintro e w13 ⟨cs4, ok4, rfl, hf4, hun4⟩
   obtain ⟨o4, p40, p41, p42⟩ := hf4.lit
   have hcs4 := hf4.cells
   have HOC4 := Lib.hid hcs4.2
   have HSC4 := Lib.hid hcs4.1
   have P40 := Lib.hid p40
   have P41 := Lib.hid p41
   have P42 := Lib.hid p42
   have O4 := Lib.hid o4
   clear hf4 hcs4 p40 p41 p42 o4
   go_wp2_with (first
    | ((with_reducible refine this_op (.store 74 (.tmp 17) (.tmp 60)) ?_); refine wpList_store_row rfl 74 (.tmp 17) (.tmp 60) rfl w13.heap.size _ rfl rfl 74 _ (Blk.new w13 _ _) (by rw [HSC4.out]; exact gl_size) (by rw [HSC4.out]; rfl) HOC4.out ?_
       obtain ⟨w14, hW4⟩ : ∃ W, (w13.alloc (.cells #[.int .i64 0, .string ByteArray.empty, .int .i64 0, .int .i64 0, .int .i64 0, .string ByteArray.empty, .int .i64 0, .int .i64 0, .slice none 0 0, .slice none 0 0, .slice none 0 0, .int .i64 0, .int .i64 0, .string ByteArray.empty, .int .i64 0, .int .i64 0, .slice none 0 0, .slice none 0 0, .slice none 0 0, .string ByteArray.empty, .int .i64 0, .int .i64 0, .int .i64 0, .slice none 0 0, .int .i64 0, .slice none 0 0] 74)).setRow w13.heap.size cs4 = W := ⟨_, rfl⟩
       have hv4 : Upd nob w13 w14 := by rw [← hW4]; exact ((Upd.refl nob w13).alloc _).setRow (.inr (Nat.le_refl _)) _
       have hbx4 : Blk w14 w13.heap.size 74 cs4 := by rw [← hW4]; exact (Blk.new w13 _ _).row _
       rw [hW4]
       clear hW4
       have HBX4 := Lib.hid hbx4
       clear hbx4
       have hun4' : Upd nob w12 w14 := hun4.trans hv4
       have hu014 : Upd nob w w14 := hu012.trans hun4'
       have HE14 := Lib.hid (HE12.out.old ((There_in w12).old hun4') (up_there hun4'))
       have HR14 := Lib.hid (HR12.out.old ((There_in w12).old hun4') (up_there hun4'))
       have HW14 := Lib.hid (HW12.out.old ((There_in w12).old hun4') (up_there hun4'))
       have HV14 := Lib.hid (HV12.out.old ((There_in w12).old hun4') (up_there hun4'))
       clear HE12 HR12 HW12 HV12))
   have hb1 := ((HBX1.out.upd hun2' (fun f => f)).upd hun3' (fun f => f)).upd hun4' (fun f => f)
   have hb2 := (HBX2.out.upd hun3' (fun f => f)).upd hun4' (fun f => f)
   have hb3 := HBX3.out.upd hun4' (fun f => f)
   have hb4 := HBX4.out
   have fs := finds_same F nm
   have fv := finds_same V nm
   have ho1 : ok1 = ok2 := by rw [O1.out, O2.out]; exact fs.1
   have ho2 : ok3 = ok4 := by rw [O3.out, O4.out]; exact fv.1
   subst ho1 ho2
   obtain ⟨K1, hK1⟩ : ∃ K, ((gfind F nm).map (·.kind)).getD 0 = K := ⟨_, rfl⟩
   obtain ⟨N1, hN1⟩ : ∃ K, ((gfind F nm).map (·.nm)).getD ByteArray.empty = K := ⟨_, rfl⟩
   obtain ⟨V1, hV1⟩ : ∃ K, ((gfind F nm).map (·.vars)).getD 0 = K := ⟨_, rfl⟩
   obtain ⟨K2, hK2⟩ : ∃ K, ((gfind V nm).map (·.kind)).getD 0 = K := ⟨_, rfl⟩
   obtain ⟨V2, hV2⟩ : ∃ K, ((gfind V nm).map (·.vars)).getD 0 = K := ⟨_, rfl⟩
   have c10 : w14.cell? ⟨w7.heap.size, 0, none⟩ = some (.int .i64 K1) := by rw [hb1.cell 0, P10.out, fs.2.1, hK1]
   have c11 : w14.cell? ⟨w7.heap.size, 1, none⟩ = some (.string N1) := by rw [hb1.cell 1, P11.out, fs.2.2.1, hN1]
   have c12 : w14.cell? ⟨w7.heap.size, 2, none⟩ = some (.int .i64 V1) := by rw [hb1.cell 2, P12.out, fs.2.2.2, hV1]
   have c20 : w14.cell? ⟨w9.heap.size, 0, none⟩ = some (.int .i64 K1) := by rw [hb2.cell 0, P20.out, hK1]
   have c21 : w14.cell? ⟨w9.heap.size, 1, none⟩ = some (.string N1) := by rw [hb2.cell 1, P21.out, hN1]
   have c22 : w14.cell? ⟨w9.heap.size, 2, none⟩ = some (.int .i64 V1) := by rw [hb2.cell 2, P22.out, hV1]
   have c30 : w14.cell? ⟨w11.heap.size, 0, none⟩ = some (.int .i64 K2) := by rw [hb3.cell 0, P30.out, fv.2.1, hK2]
   have c32 : w14.cell? ⟨w11.heap.size, 2, none⟩ = some (.int .i64 V2) := by rw [hb3.cell 2, P32.out, fv.2.2.2, hV2]
   have c40 : w14.cell? ⟨w13.heap.size, 0, none⟩ = some (.int .i64 K2) := by rw [hb4.cell 0, P40.out, hK2]
   have c42 : w14.cell? ⟨w13.heap.size, 2, none⟩ = some (.int .i64 V2) := by rw [hb4.cell 2, P42.out, hV2]
   have l1 : w7.heap.size < w14.heap.size := hb1.lt
   have l2 : w9.heap.size < w14.heap.size := hb2.lt
   have l3 : w11.heap.size < w14.heap.size := hb3.lt
   have l4 : w13.heap.size < w14.heap.size := hb4.lt
   obtain ⟨LF, cF, _, hbF, _, _⟩ := HR14.out
   obtain ⟨LV, cV, _, hbV, _, _⟩ := HV14.out
   have cF0 : w14.cell? ⟨rb, 0, none⟩ = some (.slice LF F.length cF) := hbF.cell 0
   have cV0 : w14.cell? ⟨rb2, 0, none⟩ = some (.slice LV V.length cV) := hbV.cell 0
   have lF : rb < w14.heap.size := hbF.lt
   have lV : rb2 < w14.heap.size := hbV.lt
   have HUF := Lib.hid hu014
   clear hb1 hb2 hb3 hb4 fs fv hK1 hN1 hV1 hK2 hV2 hbF hbV
   try dsimp only [List.append]
   refine wp_region_P (by kernel_rfl) ?_
   refine wpAny_of_S [] (fun _ X => Upd nob w14 X) _ _ _ _ ?_
   have hS : Upd nob w14 w14.drew := (Upd.refl nob w14).drew
   refine wpAnyS_take (i := 0) (v := ?_) [] rfl (by kernel_rfl) (fun _ _ _ h => h) (Or.inl ⟨by rfl, ?_⟩) hS ?_
   rotate_left
   · rintro wx ⟨L, hL, hun, hx⟩
     clear hx hL hun
     go_simp
     with_reducible rfl
   try simp only [tl]
   refine wpAnyS_take (i := 1) (v := ?_) [] rfl (by kernel_rfl) (fun _ _ _ h => h) (Or.inl ⟨by rfl, ?_⟩) hS ?_
   rotate_left
   · rintro wx ⟨L, hL, hun, hx⟩
     clear hx hL hun
     go_simp
     with_reducible rfl
   try simp only [tl]
   refine wpAnyS_take (i := 2) (v := ?_) [] rfl (by kernel_rfl) (fun _ _ _ h => h) (Or.inl ⟨by rfl, ?_⟩) hS ?_
   rotate_left
   · rintro wx ⟨L, hL, hun, hx⟩
     clear hx hL hun
     go_simp
     with_reducible rfl
   try simp only [tl]
   refine wpAnyS_take (i := 3) (v := ?_) [] rfl (by kernel_rfl) (fun _ _ _ h => h) (Or.inl ⟨by rfl, ?_⟩) hS ?_
   rotate_left
   · rintro wx ⟨L, hL, hun, hx⟩
     clear hx hL hun
     go_simp
     with_reducible rfl
   try simp only [tl]
   refine wpAnyS_take (i := 4) (v := ?_) [] rfl (by kernel_rfl) (fun _ _ _ h => h) (Or.inl ⟨by rfl, ?_⟩) hS ?_
   rotate_left
   · rintro wx ⟨L, hL, hun, hx⟩
     clear hx hL hun
     go_simp
     with_reducible rfl
   try simp only [tl]
   refine wpAnyS_take (i := 5) (v := ?_) [] rfl (by kernel_rfl) (fun _ _ _ h => h) (Or.inl ⟨by rfl, ?_⟩) hS ?_
   rotate_left
   · rintro wx ⟨L, hL, hun, hx⟩
     clear hx hL hun
     go_simp
     with_reducible rfl
   try simp only [tl]
   refine wpAnyS_take (i := 6) (v := ?_) [] rfl (by kernel_rfl) (fun _ _ _ h => h) (Or.inl ⟨by rfl, ?_⟩) hS ?_
   rotate_left
   · rintro wx ⟨L, hL, hun, hx⟩
     clear hx hL hun
     go_simp
     with_reducible rfl
   try simp only [tl]
   refine wpAnyS_take (i := 7) (v := ?_) [] rfl (by kernel_rfl) (fun _ _ _ h => h) (Or.inl ⟨by rfl, ?_⟩) hS ?_
   rotate_left
   · rintro wx ⟨L, hL, hun, hx⟩
     clear hx hL hun
     go_simp
     with_reducible rfl
   try simp only [tl]
   refine wpAnyS_take (i := 8) (v := ?_) [] rfl (by kernel_rfl) (fun _ _ _ h => h) (Or.inl ⟨by rfl, ?_⟩) hS ?_
   rotate_left
   · rintro wx ⟨L, hL, hun, hx⟩
     clear hx hL hun
     go_simp
     with_reducible rfl
   try simp only [tl]
   refine wpAnyS_take (i := 9) (v := ?_) [] rfl (by kernel_rfl) (fun _ _ _ h => h) (Or.inl ⟨by rfl, ?_⟩) hS ?_
   rotate_left
   · rintro wx ⟨L, hL, hun, hx⟩
     clear hx hL hun
     go_simp
     with_reducible rfl
   try simp only [tl]
   refine wpAnyS_take (i := 10) (v := ?_) [] rfl (by kernel_rfl) (fun _ _ _ h => h) (Or.inl ⟨by rfl, ?_⟩) hS ?_
   rotate_left
   · rintro wx ⟨L, hL, hun, hx⟩
     have q := (hx.cell (p := ⟨w7.heap.size, 1, none⟩) l1 (fun f => f)).trans c11
     clear hx hL hun
     go_simp
     with_reducible rfl
   try simp only [tl]
   refine wpAnyS_take (i := 11) (v := ?_) [] rfl (by kernel_rfl) (fun _ _ _ h => h) (Or.inl ⟨by rfl, ?_⟩) hS ?_
   rotate_left
   · rintro wx ⟨L, hL, hun, hx⟩
     clear hx hL hun
     go_simp
     with_reducible rfl
   try simp only [tl]
   refine wpAnyS_take (i := 12) (v := ?_) [] rfl (by kernel_rfl) (fun _ _ _ h => h) (Or.inl ⟨by rfl, ?_⟩) hS ?_
   rotate_left
   · rintro wx ⟨L, hL, hun, hx⟩
     have q := (hx.cell (p := ⟨w9.heap.size, 1, none⟩) l2 (fun f => f)).trans c21
     clear hx hL hun
     go_simp
     with_reducible rfl
   try simp only [tl]
   refine wpAnyS_take (i := 13) (v := ?_) [] rfl (by kernel_rfl) (fun _ _ _ h => h) (Or.inl ⟨by rfl, ?_⟩) hS ?_
   rotate_left
   · rintro wx ⟨L, hL, hun, hx⟩
     clear hx hL hun
     go_simp
     with_reducible rfl
   try simp only [tl]
   refine wpAnyS_take (i := 14) (v := ?_) [] rfl (by kernel_rfl) (fun _ _ _ h => h) (Or.inl ⟨by rfl, ?_⟩) hS ?_
   rotate_left
   · rintro wx ⟨L, hL, hun, hx⟩
     clear hx hL hun
     go_simp
     with_reducible rfl
   try simp only [tl]
   refine wpAnyS_take (i := 15) (v := ?_) [] rfl (by kernel_rfl) (fun _ _ _ h => h) (Or.inl ⟨by rfl, ?_⟩) hS ?_
   rotate_left
   · rintro wx ⟨L, hL, hun, hx⟩
     clear hx hL hun
     go_simp
     with_reducible rfl
   try simp only [tl]
   refine wpAnyS_take (i := 16) (v := ?_) [] rfl (by kernel_rfl) (fun _ _ _ h => h) (Or.inl ⟨by rfl, ?_⟩) hS ?_
   rotate_left
   · rintro wx ⟨L, hL, hun, hx⟩
     clear hx hL hun
     go_simp
     with_reducible rfl
   try simp only [tl]
   refine wpAnyS_take (i := 17) (v := ?_) [] rfl (by kernel_rfl) (fun _ _ _ h => h) (Or.inl ⟨by rfl, ?_⟩) hS ?_
   rotate_left
   · rintro wx ⟨L, hL, hun, hx⟩
     have q := (hx.cell (p := ⟨w7.heap.size, 0, none⟩) l1 (fun f => f)).trans c10
     clear hx hL hun
     go_simp
     with_reducible rfl
   try simp only [tl]
   refine wpAnyS_take (i := 18) (v := ?_) [] rfl (by kernel_rfl) (fun _ _ _ h => h) (Or.inl ⟨by rfl, ?_⟩) hS ?_
   rotate_left
   · rintro wx ⟨L, hL, hun, hx⟩
     clear hx hL hun
     go_simp
     with_reducible rfl
   try simp only [tl]
   refine wpAnyS_take (i := 19) (v := ?_) [] rfl (by kernel_rfl) (fun _ _ _ h => h) (Or.inl ⟨by rfl, ?_⟩) hS ?_
   rotate_left
   · rintro wx ⟨L, hL, hun, hx⟩
     have q := (hx.cell (p := ⟨w9.heap.size, 0, none⟩) l2 (fun f => f)).trans c20
     clear hx hL hun
     go_simp
     with_reducible rfl
   try simp only [tl]
   refine wpAnyS_take (i := 20) (v := ?_) [] rfl (by kernel_rfl) (fun _ _ _ h => h) (Or.inl ⟨by rfl, ?_⟩) hS ?_
   rotate_left
   · rintro wx ⟨L, hL, hun, hx⟩
     clear hx hL hun
     go_simp
     with_reducible rfl
   try simp only [tl]
   refine wpAnyS_take (i := 21) (v := ?_) [] rfl (by kernel_rfl) (fun _ _ _ h => h) (Or.inl ⟨by rfl, ?_⟩) hS ?_
   rotate_left
   · rintro wx ⟨L, hL, hun, hx⟩
     clear hx hL hun
     go_simp
     with_reducible rfl
   try simp only [tl]
   refine wpAnyS_take (i := 22) (v := ?_) [] rfl (by kernel_rfl) (fun _ _ _ h => h) (Or.inl ⟨by rfl, ?_⟩) hS ?_
   rotate_left
   · rintro wx ⟨L, hL, hun, hx⟩
     clear hx hL hun
     go_simp
     with_reducible rfl
   try simp only [tl]
   refine wpAnyS_take (i := 23) (v := ?_) [] rfl (by kernel_rfl) (fun _ _ _ h => h) (Or.inl ⟨by rfl, ?_⟩) hS ?_
   rotate_left
   · rintro wx ⟨L, hL, hun, hx⟩
     clear hx hL hun
     go_simp
     with_reducible rfl
   try simp only [tl]
   refine wpAnyS_take (i := 24) (v := ?_) [] rfl (by kernel_rfl) (fun _ _ _ h => h) (Or.inl ⟨by rfl, ?_⟩) hS ?_
   rotate_left
   · rintro wx ⟨L, hL, hun, hx⟩
     have q := (hx.cell (p := ⟨w7.heap.size, 2, none⟩) l1 (fun f => f)).trans c12
     clear hx hL hun
     go_simp
     with_reducible rfl
   try simp only [tl]
   refine wpAnyS_take (i := 25) (v := ?_) [] rfl (by kernel_rfl) (fun _ _ _ h => h) (Or.inl ⟨by rfl, ?_⟩) hS ?_
   rotate_left
   · rintro wx ⟨L, hL, hun, hx⟩
     clear hx hL hun
     go_simp
     with_reducible rfl
   try simp only [tl]
   refine wpAnyS_take (i := 26) (v := ?_) [] rfl (by kernel_rfl) (fun _ _ _ h => h) (Or.inl ⟨by rfl, ?_⟩) hS ?_
   rotate_left
   · rintro wx ⟨L, hL, hun, hx⟩
     have q := (hx.cell (p := ⟨w9.heap.size, 2, none⟩) l2 (fun f => f)).trans c22
     clear hx hL hun
     go_simp
     with_reducible rfl
   try simp only [tl]
   refine wpAnyS_take (i := 27) (v := ?_) [] rfl (by kernel_rfl) (fun _ _ _ h => h) (Or.inl ⟨by rfl, ?_⟩) hS ?_
   rotate_left
   · rintro wx ⟨L, hL, hun, hx⟩
     clear hx hL hun
     go_simp
     with_reducible rfl
   try simp only [tl]
   refine wpAnyS_take (i := 28) (v := ?_) [] rfl (by kernel_rfl) (fun _ _ _ h => h) (Or.inl ⟨by rfl, ?_⟩) hS ?_
   rotate_left
   · rintro wx ⟨L, hL, hun, hx⟩
     clear hx hL hun
     go_simp
     with_reducible rfl
   try simp only [tl]
   refine wpAnyS_take (i := 29) (v := ?_) [] rfl (by kernel_rfl) (fun _ _ _ h => h) (Or.inl ⟨by rfl, ?_⟩) hS ?_
   rotate_left
   · rintro wx ⟨L, hL, hun, hx⟩
     clear hx hL hun
     go_simp
     with_reducible rfl
   try simp only [tl]
   refine wpAnyS_take (i := 30) (v := ?_) [] rfl (by kernel_rfl) (fun _ _ _ h => h) (Or.inl ⟨by rfl, ?_⟩) hS ?_
   rotate_left
   · rintro wx ⟨L, hL, hun, hx⟩
     clear hx hL hun
     go_simp
     with_reducible rfl
   try simp only [tl]
   refine wpAnyS_take (i := 31) (v := ?_) [] rfl (by kernel_rfl) (fun _ _ _ h => h) (Or.inl ⟨by rfl, ?_⟩) hS ?_
   rotate_left
   · rintro wx ⟨L, hL, hun, hx⟩
     have q := (hx.cell (p := ⟨w11.heap.size, 0, none⟩) l3 (fun f => f)).trans c30
     clear hx hL hun
     go_simp
     with_reducible rfl
   try simp only [tl]
   refine wpAnyS_take (i := 32) (v := ?_) [] rfl (by kernel_rfl) (fun _ _ _ h => h) (Or.inl ⟨by rfl, ?_⟩) hS ?_
   rotate_left
   · rintro wx ⟨L, hL, hun, hx⟩
     clear hx hL hun
     go_simp
     with_reducible rfl
   try simp only [tl]
   refine wpAnyS_take (i := 33) (v := ?_) [] rfl (by kernel_rfl) (fun _ _ _ h => h) (Or.inl ⟨by rfl, ?_⟩) hS ?_
   rotate_left
   · rintro wx ⟨L, hL, hun, hx⟩
     have q := (hx.cell (p := ⟨w13.heap.size, 0, none⟩) l4 (fun f => f)).trans c40
     clear hx hL hun
     go_simp
     with_reducible rfl
   try simp only [tl]
   refine wpAnyS_take (i := 34) (v := ?_) [] rfl (by kernel_rfl) (fun _ _ _ h => h) (Or.inl ⟨by rfl, ?_⟩) hS ?_
   rotate_left
   · rintro wx ⟨L, hL, hun, hx⟩
     clear hx hL hun
     go_simp
     with_reducible rfl
   try simp only [tl]
   refine wpAnyS_take (i := 35) (v := ?_) [] rfl (by kernel_rfl) (fun _ _ _ h => h) (Or.inl ⟨by rfl, ?_⟩) hS ?_
   rotate_left
   · rintro wx ⟨L, hL, hun, hx⟩
     clear hx hL hun
     go_simp
     with_reducible rfl
   try simp only [tl]
   refine wpAnyS_take (i := 36) (v := ?_) [] rfl (by kernel_rfl) (fun _ _ _ h => h) (Or.inl ⟨by rfl, ?_⟩) hS ?_
   rotate_left
   · rintro wx ⟨L, hL, hun, hx⟩
     clear hx hL hun
     go_simp
     with_reducible rfl
   try simp only [tl]
   refine wpAnyS_take (i := 37) (v := ?_) [] rfl (by kernel_rfl) (fun _ _ _ h => h) (Or.inl ⟨by rfl, ?_⟩) hS ?_
   rotate_left
   · rintro wx ⟨L, hL, hun, hx⟩
     clear hx hL hun
     go_simp
     with_reducible rfl
   try simp only [tl]
   refine wpAnyS_take (i := 38) (v := ?_) [] rfl (by kernel_rfl) (fun _ _ _ h => h) (Or.inl ⟨by rfl, ?_⟩) hS ?_
   rotate_left
   · rintro wx ⟨L, hL, hun, hx⟩
     have q := (hx.cell (p := ⟨w11.heap.size, 2, none⟩) l3 (fun f => f)).trans c32
     clear hx hL hun
     go_simp
     with_reducible rfl
   try simp only [tl]
   refine wpAnyS_take (i := 39) (v := ?_) [] rfl (by kernel_rfl) (fun _ _ _ h => h) (Or.inl ⟨by rfl, ?_⟩) hS ?_
   rotate_left
   · rintro wx ⟨L, hL, hun, hx⟩
     clear hx hL hun
     go_simp
     with_reducible rfl
   try simp only [tl]
   refine wpAnyS_take (i := 40) (v := ?_) [] rfl (by kernel_rfl) (fun _ _ _ h => h) (Or.inl ⟨by rfl, ?_⟩) hS ?_
   rotate_left
   · rintro wx ⟨L, hL, hun, hx⟩
     have q := (hx.cell (p := ⟨w13.heap.size, 2, none⟩) l4 (fun f => f)).trans c42
     clear hx hL hun
     go_simp
     with_reducible rfl
   try simp only [tl]
   refine wpAnyS_take (i := 41) (v := ?_) [] rfl (by kernel_rfl) (fun _ _ _ h => h) (Or.inl ⟨by rfl, ?_⟩) hS ?_
   rotate_left
   · rintro wx ⟨L, hL, hun, hx⟩
     clear hx hL hun
     go_simp
     with_reducible rfl
   try simp only [tl]
   refine wpAnyS_take (i := 42) (v := ?_) [] rfl (by kernel_rfl) (fun _ _ _ h => h) (Or.inl ⟨by rfl, ?_⟩) hS ?_
   rotate_left
   · rintro wx ⟨L, hL, hun, hx⟩
     clear hx hL hun
     go_simp
     with_reducible rfl
   try simp only [tl]
   refine wpAnyS_take (i := 43) (v := ?_) [] rfl (by kernel_rfl) (fun _ _ _ h => h) (Or.inl ⟨by rfl, ?_⟩) hS ?_
   rotate_left
   · rintro wx ⟨L, hL, hun, hx⟩
     clear hx hL hun
     go_simp
     with_reducible rfl
   try simp only [tl]
   refine wpAnyS_take (i := 44) (v := ?_) [] rfl (by kernel_rfl) (fun _ _ _ h => h) (Or.inl ⟨by rfl, ?_⟩) hS ?_
   rotate_left
   · rintro wx ⟨L, hL, hun, hx⟩
     clear hx hL hun
     go_simp
     with_reducible rfl
   try simp only [tl]
   refine wpAnyS_take (i := 46) (v := ?_) [] rfl (by kernel_rfl) (fun _ _ _ h => h) (Or.inl ⟨by rfl, ?_⟩) hS ?_
   rotate_left
   · rintro wx ⟨L, hL, hun, hx⟩
     clear hx hL hun
     go_simp
     with_reducible rfl
   try simp only [tl]
   refine wpAnyS_take (i := 47) (v := ?_) [] rfl (by kernel_rfl) (fun _ _ _ h => h) (Or.inl ⟨by rfl, ?_⟩) hS ?_
   rotate_left
   · rintro wx ⟨L, hL, hun, hx⟩
     clear hx hL hun
     go_simp
     with_reducible rfl
   try simp only [tl]
   refine wpAnyS_take (i := 48) (v := ?_) [] rfl (by kernel_rfl) (fun _ _ _ h => h) (Or.inl ⟨by rfl, ?_⟩) hS ?_
   rotate_left
   · rintro wx ⟨L, hL, hun, hx⟩
     clear hx hL hun
     go_simp
     with_reducible rfl
   try simp only [tl]
   refine wpAnyS_take (i := 49) (v := ?_) [] rfl (by kernel_rfl) (fun _ _ _ h => h) (Or.inl ⟨by rfl, ?_⟩) hS ?_
   rotate_left
   · rintro wx ⟨L, hL, hun, hx⟩
     have q := (hx.cell (p := ⟨rb, 0, none⟩) lF (fun f => f)).trans cF0
     clear hx hL hun
     go_simp
     with_reducible rfl
   try simp only [tl]
   refine wpAnyS_take (i := 50) (v := ?_) [] rfl (by kernel_rfl) (fun _ _ _ h => h) (Or.inl ⟨by rfl, ?_⟩) hS ?_
   rotate_left
   · rintro wx ⟨L, hL, hun, hx⟩
     clear hx hL hun
     go_simp
     with_reducible rfl
   try simp only [tl]
   refine wpAnyS_one (i := 45) [] (by kernel_rfl) rfl (by rfl) fun K hK => ?_
   go_simp
   refine (wlen_any (.pointer (some ⟨eb, 0, none⟩)) (F.map gown) (There w14.drew) w14.drew (.inr ⟨eb, rfl, (HE14.out.old ((There_in w14).old hS) (up_there hS))⟩)).mono ?_
   rintro e v45 ⟨rfl, hw45⟩
   have hS : Upd nob w14 v45 := by rw [hw45]; exact hS
   rw [List.length_map]
   refine hK _ _ hS ?_
   clear hw45
   clear hK K
   try simp only [tl]
   refine wpAnyS_take (i := 51) (v := ?_) [] rfl (by kernel_rfl) (fun _ _ _ h => h) (Or.inl ⟨by rfl, ?_⟩) hS ?_
   rotate_left
   · rintro wx ⟨L, hL, hun, hx⟩
     clear hx hL hun
     go_simp
     with_reducible rfl
   try simp only [tl]
   refine wpAnyS_take (i := 52) (v := ?_) [] rfl (by kernel_rfl) (fun _ _ _ h => h) (Or.inl ⟨by rfl, ?_⟩) hS ?_
   rotate_left
   · rintro wx ⟨L, hL, hun, hx⟩
     clear hx hL hun
     go_simp
     with_reducible rfl
   try simp only [tl]
   refine wpAnyS_take (i := 53) (v := ?_) [] rfl (by kernel_rfl) (fun _ _ _ h => h) (Or.inl ⟨by rfl, ?_⟩) hS ?_
   rotate_left
   · rintro wx ⟨L, hL, hun, hx⟩
     clear hx hL hun
     go_simp
     with_reducible rfl
   try simp only [tl]
   refine wpAnyS_take (i := 54) (v := ?_) [] rfl (by kernel_rfl) (fun _ _ _ h => h) (Or.inl ⟨by rfl, ?_⟩) hS ?_
   rotate_left
   · rintro wx ⟨L, hL, hun, hx⟩
     clear hx hL hun
     go_simp
     with_reducible rfl
   try simp only [tl]
   refine wpAnyS_take (i := 56) (v := ?_) [] rfl (by kernel_rfl) (fun _ _ _ h => h) (Or.inl ⟨by rfl, ?_⟩) hS ?_
   rotate_left
   · rintro wx ⟨L, hL, hun, hx⟩
     clear hx hL hun
     go_simp
     with_reducible rfl
   try simp only [tl]
   refine wpAnyS_take (i := 57) (v := ?_) [] rfl (by kernel_rfl) (fun _ _ _ h => h) (Or.inl ⟨by rfl, ?_⟩) hS ?_
   rotate_left
   · rintro wx ⟨L, hL, hun, hx⟩
     clear hx hL hun
     go_simp
     with_reducible rfl
   try simp only [tl]
   refine wpAnyS_take (i := 58) (v := ?_) [] rfl (by kernel_rfl) (fun _ _ _ h => h) (Or.inl ⟨by rfl, ?_⟩) hS ?_
   rotate_left
   · rintro wx ⟨L, hL, hun, hx⟩
     clear hx hL hun
     go_simp
     with_reducible rfl
   try simp only [tl]
   refine wpAnyS_take (i := 59) (v := ?_) [] rfl (by kernel_rfl) (fun _ _ _ h => h) (Or.inl ⟨by rfl, ?_⟩) hS ?_
   rotate_left
   · rintro wx ⟨L, hL, hun, hx⟩
     have q := (hx.cell (p := ⟨rb2, 0, none⟩) lV (fun f => f)).trans cV0
     clear hx hL hun
     go_simp
     with_reducible rfl
   try simp only [tl]
   refine wpAnyS_take (i := 60) (v := ?_) [] rfl (by kernel_rfl) (fun _ _ _ h => h) (Or.inl ⟨by rfl, ?_⟩) hS ?_
   rotate_left
   · rintro wx ⟨L, hL, hun, hx⟩
     clear hx hL hun
     go_simp
     with_reducible rfl
   try simp only [tl]
   refine wpAnyS_one (i := 55) [] (by kernel_rfl) rfl (by rfl) fun K hK => ?_
   go_simp
   refine (wlen_any (.pointer (some ⟨eb2, 0, none⟩)) (V.map gown) (There v45) v45 (.inr ⟨eb2, rfl, (HW14.out.old ((There_in w14).old hS) (up_there hS))⟩)).mono ?_
   rintro e v55 ⟨rfl, hw55⟩
   have hS : Upd nob w14 v55 := by rw [hw55]; exact hS
   rw [List.length_map]
   refine hK _ _ hS ?_
   clear hw55
   clear hK K
   try simp only [tl]
   refine wpAnyS_take (i := 61) (v := ?_) [] rfl (by kernel_rfl) (fun _ _ _ h => h) (Or.inl ⟨by rfl, ?_⟩) hS ?_
   rotate_left
   · rintro wx ⟨L, hL, hun, hx⟩
     clear hx hL hun
     go_simp
     with_reducible rfl
   try simp only [tl]
   refine wpAnyS_take (i := 62) (v := ?_) [] rfl (by kernel_rfl) (fun _ _ _ h => h) (Or.inl ⟨by rfl, ?_⟩) hS ?_
   rotate_left
   · rintro wx ⟨L, hL, hun, hx⟩
     clear hx hL hun
     go_simp
     with_reducible rfl
   try simp only [tl]
   refine wpAnyS_take (i := 63) (v := ?_) [] rfl (by kernel_rfl) (fun _ _ _ h => h) (Or.inl ⟨by rfl, ?_⟩) hS ?_
   rotate_left
   · rintro wx ⟨L, hL, hun, hx⟩
     clear hx hL hun
     go_simp
     with_reducible rfl
   try simp only [tl]
   refine wpAnyS_one (i := 64) [] (by kernel_rfl) rfl (by rfl) fun K hK => ?_
   go_simp
   refine (awake10_any v55).mono ?_
   rintro e v64 ⟨rfl, hb64⟩
   have hu64 : Upd nob w14 v64 := hS.trans (Upd.of_below hb64)
   have hS := hu64
   refine hK _ _ hS ?_
   clear hK K
   try simp only [tl]
   refine wpAnyS_take (i := 65) (v := ?_) [] rfl (by kernel_rfl) (fun _ _ _ h => h) (Or.inl ⟨by rfl, ?_⟩) hS ?_
   rotate_left
   · rintro wx ⟨L, hL, hun, hx⟩
     clear hx hL hun
     go_simp
     with_reducible rfl
   try simp only [tl]
   refine wpAnyS_one (i := 66) [] (by kernel_rfl) rfl (by rfl) fun K hK => ?_
   go_simp
   refine hK _ _ hS ?_
   clear hK K
   try simp only [tl]
   refine wpAnyS_done (by kernel_rfl) ?_
   refine NoPanic.normal ?_
   go_wp2_with fail
   go_ret
   exact ⟨rfl, (HUF.out.trans hu64).below⟩
end Go.Proofs.Ytiampoebdmflgaa

/- The row's last step from 'Below', whatever the arguments read. -/
namespace Go.Proofs.Ytiampoebdmflgaa
open Go.ChangeShapes Go.WideShapes Go.ChangeAt Go.RowKit
set_option linter.unusedVariables false
variable {H : Type} {enc : TypeId × Value → H} {P : Program}
theorem all_stay (hl : laidOutB P = true) {W W' : World} {sp : Nat → Bool} : ∀ {ts : List TypeId} {vs : List Value} {ds : List (DataW H)} {ps : List MemPlace}, DataW.TrodAll enc P W 0 (fun _ => true) true ts vs ds ps →
    (∀ t ∈ ts, P.readableRec t = true ∧ t < P.types.size) → (∀ p ∈ ps, W.sameAt W' p) → (∀ p ∈ ps, sp p.block = true) → DataW.TrodAll enc P W' 0 sp true ts vs ds ps
 | [], _, _, _, h, _, _, _ => by
  obtain ⟨rfl, rfl, rfl⟩ := trodAll_nil h
  exact trodAll_mk0
 | t :: ts, _, _, _, h, hr, hs, hp => by
  obtain ⟨v, vs, d, ds, p, q, rfl, rfl, rfl, h1, h2⟩ := trodAll_cons h
  exact trodAll_cons_mk (WideElems.Trod_stays hl (hr t (by simp)).1 (hr t (by simp)).2 h1 (fun x hx => hs x (by simp [hx])) (fun x hx => hp x (by simp [hx])))
   (all_stay hl h2 (fun u hu => hr u (by simp [hu])) (fun x hx => hs x (by simp [hx])) (fun x hx => hp x (by simp [hx])))
/-- The row's last step: nothing that was there is touched, one bool comes out, the arguments read as they did. -/
theorem post_keep {f : Func} {s : ChangeSpec} {apart fresh handsOn again : Bool} {W W' : World} {args : Array Value} {v : Value} {ds : List (DataW H)} {before : List MemPlace}
    (hl : laidOutB P = true) (hW : DataW.Whole enc P f.params.toList s.vars apart W args.toList ds [] before)
    (hA : DataW.TrodAll enc P W 0 (fun _ => true) true f.params.toList args.toList ds before)
    (hr : ∀ t ∈ f.params.toList, P.readableRec t = true ∧ t < P.types.size)
    (hres : ∀ (b : Nat) (sp : Nat → Bool) (hd : Bool), DataW.TrodAll enc P W' b sp hd f.resultTypes.toList (v.resultList f.resultTypes.size) (s.fn H (ds ++ [])).results [])
    (hargs : (s.fn H (ds ++ [])).args = ds) (hvars : s.vars = []) (hvars2 : (s.fn H (ds ++ [])).vars = [])
    (hb : Below W.heap.size W W')
    (hok : ∀ (j : Nat) (t : TypeId) (r : Value), f.resultTypes[j]? = some t → (v.resultList f.resultTypes.size)[j]? = some r → Value.okWide P W' .any 0 t r) :
    s.post enc P f apart fresh handsOn again W args v W' := by
 have hold : ∀ p ∈ before, (fun b => decide (b < W.heap.size)) p.block = true := fun p hp => by simpa using hW.lt p hp
 have hsame : ∀ p ∈ before, W.sameAt W' p := fun p hp => hb.same (hW.lt p hp)
 have hargs' : ∀ sp : Nat → Bool, (∀ p ∈ before, sp p.block = true) → DataW.TrodAll enc P W' 0 sp true f.params.toList args.toList (s.fn H (ds ++ [])).args before := fun sp hsp => by
  rw [hargs]; exact all_stay hl hA hr hsame hsp
 have hv : ∀ sp : Nat → Bool, DataW.TrodVars enc P W' sp s.vars (s.fn H (ds ++ [])).vars [] := fun sp => by rw [hvars, hvars2]; rfl
 refine ⟨ds, [], before, [], before, [], hW, hres _ _ _, hargs' _ hold, hv _, hb.frame _, fun _ => ?_⟩
 have hlt : ∀ p ∈ before, p.block < W.heap.size := fun p hp => hW.lt p hp
 obtain ⟨p, q, hA1, hV1, hpq, hz, hn⟩ := hW
 refine ⟨hok, _, _, ([] ++ before) ++ [], ⟨[] ++ before, [], trodAll_append (hargs' _ (fun _ _ => rfl)) (hres _ _ _), hv _, rfl, ?_, ?_⟩, ?_⟩
 · intro b off hp
   have hm := hp
   simp only [List.nil_append, List.append_nil] at hm
   rw [World.frozen?_of_block (w := W) (hb.block b (hlt _ hm))]
   exact hz b off hm
 · intro ha
   simpa using hn ha
 · intro p hp _
   simpa using hp
end Go.Proofs.Ytiampoebdmflgaa

/- What an argument reads as: levels, terms, constructors, and how great they are where the bulk is bounded. -/
namespace Go.Proofs.Ytiampoebdmflgaa
open Go.ChangeShapes Go.WideShapes Go.ChangeAt Go.RowKit Go.Joins Go.Deep
set_option linter.unusedVariables false
set_option linter.unusedVariables false
set_option maxRecDepth 100000
mutual
/-- How many nodes a level has. -/
def Lv.wt : Lv → Nat
 | .mk _ _ ks => Lv.wts ks + 1
def Lv.wts : List Lv → Nat
 | [] => 0
 | l :: ls => l.wt + Lv.wts ls
end
mutual
/-- How many nodes and letters a term has. -/
def Tm.wt : Tm → Nat
 | .mk _ _ nm lv ls ks => nm.size + lv.wt + Lv.wts ls + Tm.wts ks + 1
def Tm.wts : List Tm → Nat
 | [] => 0
 | l :: ls => l.wt + Tm.wts ls
end
theorem Lv.wts_sum : ∀ l : List Lv, Lv.wts l = (l.map Lv.wt).sum
 | [] => rfl
 | x :: l => by simp only [Lv.wts, List.map_cons, List.sum_cons, Lv.wts_sum l]
theorem Tm.wts_sum : ∀ l : List Tm, Tm.wts l = (l.map Tm.wt).sum
 | [] => rfl
 | x :: l => by simp only [Tm.wts, List.map_cons, List.sum_cons, Tm.wts_sum l]
mutual
theorem Tm.height_wt : ∀ t : Tm, t.height ≤ t.wt
 | .mk k n nm lv ls ks => by
  have := Tm.heights_wt ks
  simp only [Tm.height, Tm.wt]; omega
theorem Tm.heights_wt : ∀ l : List Tm, Tm.heights l ≤ Tm.wts l
 | [] => by simp [Tm.heights, Tm.wts]
 | x :: l => by
  have h1 := Tm.height_wt x
  have h2 := Tm.heights_wt l
  simp only [Tm.heights, Tm.wts]; omega
end
namespace bulks
theorem one_le {H : Type} (d : DataW H) : 1 ≤ Rows.uptoBulk d := by
 cases d with
 | lit l => cases l <;> simp [Rows.uptoBulk]
 | nil => simp [Rows.uptoBulk]
 | ptr d => simp [Rows.uptoBulk]
 | slice elems spare => simp [Rows.uptoBulk]
 | agg parts => simp [Rows.uptoBulk]
 | iface t d => simp [Rows.uptoBulk]
 | map entries => simp [Rows.uptoBulk]
 | held h => simp [Rows.uptoBulk]
end bulks
theorem list_of {α : Type} {P : Nat → α → Prop} : ∀ n : Nat, (∀ i, i < n → ∃ x, P i x) → ∃ l : List α, l.length = n ∧ ∀ i (h : i < l.length), P i l[i]
 | 0, _ => ⟨[], rfl, fun i h => absurd h (by simp)⟩
 | n + 1, h => by
  obtain ⟨l, hl, hp⟩ := list_of n (fun i hi => h i (by omega))
  obtain ⟨x, hx⟩ := h n (by omega)
  refine ⟨l ++ [x], by simp [hl], fun i hi => ?_⟩
  by_cases hin : i < l.length
  · rw [List.getElem_append_left hin]; exact hp i hin
  · have : i = n := by simp at hi; omega
    subst this
    rw [List.getElem_append_right (by omega)]
    simp [hl]; exact hx
theorem bulk_sum {α H : Type} (f : α → Nat) : ∀ (l : List α) (ds : List (DataW H)), l.length = ds.length → (∀ i (h : i < l.length) (k : i < ds.length), f l[i] ≤ Rows.uptoBulk ds[i]) → (l.map f).sum ≤ Rows.uptoBulkAll ds
 | [], [], _, _ => by simp
 | [], _ :: _, h, _ => by cases h
 | _ :: _, [], h, _ => by cases h
 | x :: l, d :: ds, h, k => by
  have h1 := k 0 (by simp) (by simp)
  have h2 := bulk_sum f l ds (by simpa using h) (fun i h k' => by have := k (i + 1) (by simpa using h) (by simpa using k'); simpa using this)
  simp only [List.map_cons, List.sum_cons, Rows.uptoBulkAll]
  simp only [List.getElem_cons_zero] at h1
  omega
theorem bulk_mem {H : Type} : ∀ {ds : List (DataW H)} {i : Nat} {d : DataW H}, ds[i]? = some d → Rows.uptoBulk d ≤ Rows.uptoBulkAll ds
 | [], i, d, h => by simp at h
 | x :: ds, 0, d, h => by
  simp only [List.getElem?_cons_zero, Option.some.injEq] at h
  subst h; simp only [Rows.uptoBulkAll]; omega
 | x :: ds, i + 1, d, h => by
  have := bulk_mem (ds := ds) (i := i) (d := d) (by simpa using h)
  simp only [Rows.uptoBulkAll]; omega
section
variable {H : Type} {enc : TypeId × Value → H} {w : World} {sp : Nat → Bool} {held : Bool}
/-- A slice of what reads. -/
theorem open_row {α : Type} {R : α → Array Value → Prop} {f : α → Nat} {t e : TypeId} {k fuel : Nat} {c : Value} {d : DataW H} {ps : List MemPlace} (ht : Try.prog.underlying t = some (.slice e)) (hc : Try.prog.cellsOf e = k) (hk : 0 < k)
    (hel : ∀ n cs d ps, n < fuel → DataW.trod enc Try.prog w 0 sp held n e cs = some (d, ps) → Rows.uptoBulk d ≤ 1048576 → ∃ x, R x cs.toArray ∧ f x ≤ Rows.uptoBulk d)
    (h : DataW.trod enc Try.prog w 0 sp held fuel t [c] = some (d, ps)) (hb : Rows.uptoBulk d ≤ 1048576) :
    ∃ A cap, ∃ l : List α, c = .slice A l.length cap ∧ l.length ≤ cap ∧ l.length ≤ 1048576 ∧ (∀ j x, l[j]? = some x → ∃ a cs, A = some a ∧ There w a.block ∧ rowAt w (a.add (j * k)) cs ∧ R x cs) ∧ (l.map f).sum + 1 ≤ Rows.uptoBulk d ∧ (∀ x, x ∈ l → f x ≤ Rows.uptoBulk d) := by
 rcases DataW.trod_slice ht h with ⟨h1, h2⟩ | ⟨a, len, cap, elems, rest, n, hn, hcs, hx, _, hl, hm, hlen, hall, _⟩
 · simp only [List.cons.injEq, and_true] at h1
   simp only [Prod.mk.injEq] at h2
   obtain ⟨rfl, rfl⟩ := h2
   exact ⟨none, 0, [], h1, by simp, by simp, fun j x hj => by simp at hj, by simp [Rows.uptoBulk], fun x hx => by cases hx⟩
 · simp only [List.cons.injEq, and_true] at hcs
   simp only [Prod.mk.injEq] at hx
   obtain ⟨rfl, _⟩ := hx
   subst hlen
   simp only [Rows.uptoBulk] at hb ⊢
   obtain ⟨l, hll, hlp⟩ := list_of (P := fun i (x : α) => (∃ cs, There w a.block ∧ rowAt w (a.add (i * k)) cs ∧ R x cs) ∧ ∀ (h : i < (elems.map (·.1)).length), f x ≤ Rows.uptoBulk (elems.map (·.1))[i]) elems.length (fun i hi => by
    have h1 := hall i hi
    rw [List.getElem?_eq_getElem hi] at h1
    obtain ⟨cs, h2, h3⟩ := Option.bind_eq_some_iff.1 h1
    rw [hc] at h2
    obtain ⟨_, h4, h5⟩ := World.cells?_some h2
    have h6 : (elems.map (·.1))[i]? = some elems[i].1 := by rw [List.getElem?_map, List.getElem?_eq_getElem hi]; rfl
    obtain ⟨x, h7, h8⟩ := hel n cs elems[i].1 elems[i].2 (by omega) h3 (by have := bulk_mem h6; omega)
    refine ⟨x, ⟨cs.toArray, ?_, fun j v hv => ?_, h7⟩, fun hh => ?_⟩
    · have h9 := h5 0 hk
      rw [List.getElem?_eq_getElem (by omega)] at h9
      have := cell_there h9
      rwa [Addr_add_block, Addr_add_block] at this
    · have hj : j < cs.length := by have := (Array.getElem?_eq_some_iff.1 hv).1; simpa using this
      rw [h5 j (by omega), ← hv]; simp
    · simpa using h8)
   have hs := bulk_sum f l (elems.map (·.1)) (by simp [hll]) (fun i h k => (hlp i h).2 k)
   refine ⟨some a, cap, l, by rw [hll]; exact hcs, by rw [hll]; exact hl, ?_, fun j x hj => ?_, by omega, fun x hx => ?_⟩
   · have : elems.length ≤ Rows.uptoBulkAll (elems.map (·.1)) := by
       have := bulk_sum (fun _ : DataW H × List MemPlace => 1) elems (elems.map (·.1)) (by simp) (fun i h k => bulks.one_le _)
       have e : ∀ l : List (DataW H × List MemPlace), (l.map fun _ => 1).sum = l.length := by intro l; induction l with | nil => rfl | cons x l ih => simp only [List.map_cons, List.sum_cons, ih, List.length_cons]; omega
       rwa [e] at this
     omega
   · obtain ⟨hj1, rfl⟩ := List.getElem?_eq_some_iff.1 hj
     obtain ⟨cs, h1, h2, h3⟩ := (hlp j hj1).1
     exact ⟨a, cs, rfl, h1, h2, h3⟩
   · obtain ⟨i, hi, rfl⟩ := List.getElem_of_mem hx
     have h1 := (hlp i hi).2 (by simp; omega)
     have h2 := List.getElem?_eq_getElem (l := elems.map (·.1)) (i := i) (by simp; omega)
     have := bulk_mem h2
     omega
theorem trods2 {P : Program} {t : TypeId} {f0 f1 : Field} {fuel : Nat} {cs : List Value} {x : DataW H × List MemPlace} (ht : P.underlying t = some (.struct #[f0, f1])) (h : DataW.trod enc P w 0 sp held fuel t cs = some x) :
    ∃ y0 y1 n, fuel = n + 1 ∧ x.1 = .agg [y0.1, y1.1] ∧ cs.length = P.cellsOf t ∧ DataW.trod enc P w 0 sp held n f0.type ((cs.drop f0.offset).take (P.cellsOf f0.type)) = some y0 ∧ DataW.trod enc P w 0 sp held n f1.type ((cs.drop f1.offset).take (P.cellsOf f1.type)) = some y1 := by
 obtain ⟨xs, n, hn, rfl, hl, hlen, hf⟩ := DataW.trod_struct ht h
 match xs, hlen with
 | [y0, y1], _ => exact ⟨y0, y1, n, hn, by simp, hl, by simpa using hf 0 f0 rfl, by simpa using hf 1 f1 rfl⟩
theorem trods3 {P : Program} {t : TypeId} {f0 f1 f2 : Field} {fuel : Nat} {cs : List Value} {x : DataW H × List MemPlace} (ht : P.underlying t = some (.struct #[f0, f1, f2])) (h : DataW.trod enc P w 0 sp held fuel t cs = some x) :
    ∃ y0 y1 y2 n, fuel = n + 1 ∧ x.1 = .agg [y0.1, y1.1, y2.1] ∧ cs.length = P.cellsOf t ∧ DataW.trod enc P w 0 sp held n f0.type ((cs.drop f0.offset).take (P.cellsOf f0.type)) = some y0 ∧ DataW.trod enc P w 0 sp held n f1.type ((cs.drop f1.offset).take (P.cellsOf f1.type)) = some y1 ∧ DataW.trod enc P w 0 sp held n f2.type ((cs.drop f2.offset).take (P.cellsOf f2.type)) = some y2 := by
 obtain ⟨xs, n, hn, rfl, hl, hlen, hf⟩ := DataW.trod_struct ht h
 match xs, hlen with
 | [y0, y1, y2], _ => exact ⟨y0, y1, y2, n, hn, by simp, hl, by simpa using hf 0 f0 rfl, by simpa using hf 1 f1 rfl, by simpa using hf 2 f2 rfl⟩
theorem trods6 {P : Program} {t : TypeId} {f0 f1 f2 f3 f4 f5 : Field} {fuel : Nat} {cs : List Value} {x : DataW H × List MemPlace} (ht : P.underlying t = some (.struct #[f0, f1, f2, f3, f4, f5])) (h : DataW.trod enc P w 0 sp held fuel t cs = some x) :
    ∃ y0 y1 y2 y3 y4 y5 n, fuel = n + 1 ∧ x.1 = .agg [y0.1, y1.1, y2.1, y3.1, y4.1, y5.1] ∧ cs.length = P.cellsOf t ∧ DataW.trod enc P w 0 sp held n f0.type ((cs.drop f0.offset).take (P.cellsOf f0.type)) = some y0 ∧ DataW.trod enc P w 0 sp held n f1.type ((cs.drop f1.offset).take (P.cellsOf f1.type)) = some y1 ∧ DataW.trod enc P w 0 sp held n f2.type ((cs.drop f2.offset).take (P.cellsOf f2.type)) = some y2 ∧ DataW.trod enc P w 0 sp held n f3.type ((cs.drop f3.offset).take (P.cellsOf f3.type)) = some y3 ∧ DataW.trod enc P w 0 sp held n f4.type ((cs.drop f4.offset).take (P.cellsOf f4.type)) = some y4 ∧ DataW.trod enc P w 0 sp held n f5.type ((cs.drop f5.offset).take (P.cellsOf f5.type)) = some y5 := by
 obtain ⟨xs, n, hn, rfl, hl, hlen, hf⟩ := DataW.trod_struct ht h
 match xs, hlen with
 | [y0, y1, y2, y3, y4, y5], _ => exact ⟨y0, y1, y2, y3, y4, y5, n, hn, by simp, hl, by simpa using hf 0 f0 rfl, by simpa using hf 1 f1 rfl, by simpa using hf 2 f2 rfl, by simpa using hf 3 f3 rfl, by simpa using hf 4 f4 rfl, by simpa using hf 5 f5 rfl⟩
theorem trods7 {P : Program} {t : TypeId} {f0 f1 f2 f3 f4 f5 f6 : Field} {fuel : Nat} {cs : List Value} {x : DataW H × List MemPlace} (ht : P.underlying t = some (.struct #[f0, f1, f2, f3, f4, f5, f6])) (h : DataW.trod enc P w 0 sp held fuel t cs = some x) :
    ∃ y0 y1 y2 y3 y4 y5 y6 n, fuel = n + 1 ∧ x.1 = .agg [y0.1, y1.1, y2.1, y3.1, y4.1, y5.1, y6.1] ∧ cs.length = P.cellsOf t ∧ DataW.trod enc P w 0 sp held n f0.type ((cs.drop f0.offset).take (P.cellsOf f0.type)) = some y0 ∧ DataW.trod enc P w 0 sp held n f1.type ((cs.drop f1.offset).take (P.cellsOf f1.type)) = some y1 ∧ DataW.trod enc P w 0 sp held n f2.type ((cs.drop f2.offset).take (P.cellsOf f2.type)) = some y2 ∧ DataW.trod enc P w 0 sp held n f3.type ((cs.drop f3.offset).take (P.cellsOf f3.type)) = some y3 ∧ DataW.trod enc P w 0 sp held n f4.type ((cs.drop f4.offset).take (P.cellsOf f4.type)) = some y4 ∧ DataW.trod enc P w 0 sp held n f5.type ((cs.drop f5.offset).take (P.cellsOf f5.type)) = some y5 ∧ DataW.trod enc P w 0 sp held n f6.type ((cs.drop f6.offset).take (P.cellsOf f6.type)) = some y6 := by
 obtain ⟨xs, n, hn, rfl, hl, hlen, hf⟩ := DataW.trod_struct ht h
 match xs, hlen with
 | [y0, y1, y2, y3, y4, y5, y6], _ => exact ⟨y0, y1, y2, y3, y4, y5, y6, n, hn, by simp, hl, by simpa using hf 0 f0 rfl, by simpa using hf 1 f1 rfl, by simpa using hf 2 f2 rfl, by simpa using hf 3 f3 rfl, by simpa using hf 4 f4 rfl, by simpa using hf 5 f5 rfl, by simpa using hf 6 f6 rfl⟩
theorem trods12 {P : Program} {t : TypeId} {f0 f1 f2 f3 f4 f5 f6 f7 f8 f9 f10 f11 : Field} {fuel : Nat} {cs : List Value} {x : DataW H × List MemPlace} (ht : P.underlying t = some (.struct #[f0, f1, f2, f3, f4, f5, f6, f7, f8, f9, f10, f11])) (h : DataW.trod enc P w 0 sp held fuel t cs = some x) :
    ∃ y0 y1 y2 y3 y4 y5 y6 y7 y8 y9 y10 y11 n, fuel = n + 1 ∧ x.1 = .agg [y0.1, y1.1, y2.1, y3.1, y4.1, y5.1, y6.1, y7.1, y8.1, y9.1, y10.1, y11.1] ∧ cs.length = P.cellsOf t ∧ DataW.trod enc P w 0 sp held n f0.type ((cs.drop f0.offset).take (P.cellsOf f0.type)) = some y0 ∧ DataW.trod enc P w 0 sp held n f1.type ((cs.drop f1.offset).take (P.cellsOf f1.type)) = some y1 ∧ DataW.trod enc P w 0 sp held n f2.type ((cs.drop f2.offset).take (P.cellsOf f2.type)) = some y2 ∧ DataW.trod enc P w 0 sp held n f3.type ((cs.drop f3.offset).take (P.cellsOf f3.type)) = some y3 ∧ DataW.trod enc P w 0 sp held n f4.type ((cs.drop f4.offset).take (P.cellsOf f4.type)) = some y4 ∧ DataW.trod enc P w 0 sp held n f5.type ((cs.drop f5.offset).take (P.cellsOf f5.type)) = some y5 ∧ DataW.trod enc P w 0 sp held n f6.type ((cs.drop f6.offset).take (P.cellsOf f6.type)) = some y6 ∧ DataW.trod enc P w 0 sp held n f7.type ((cs.drop f7.offset).take (P.cellsOf f7.type)) = some y7 ∧ DataW.trod enc P w 0 sp held n f8.type ((cs.drop f8.offset).take (P.cellsOf f8.type)) = some y8 ∧ DataW.trod enc P w 0 sp held n f9.type ((cs.drop f9.offset).take (P.cellsOf f9.type)) = some y9 ∧ DataW.trod enc P w 0 sp held n f10.type ((cs.drop f10.offset).take (P.cellsOf f10.type)) = some y10 ∧ DataW.trod enc P w 0 sp held n f11.type ((cs.drop f11.offset).take (P.cellsOf f11.type)) = some y11 := by
 obtain ⟨xs, n, hn, rfl, hl, hlen, hf⟩ := DataW.trod_struct ht h
 match xs, hlen with
 | [y0, y1, y2, y3, y4, y5, y6, y7, y8, y9, y10, y11], _ => exact ⟨y0, y1, y2, y3, y4, y5, y6, y7, y8, y9, y10, y11, n, hn, by simp, hl, by simpa using hf 0 f0 rfl, by simpa using hf 1 f1 rfl, by simpa using hf 2 f2 rfl, by simpa using hf 3 f3 rfl, by simpa using hf 4 f4 rfl, by simpa using hf 5 f5 rfl, by simpa using hf 6 f6 rfl, by simpa using hf 7 f7 rfl, by simpa using hf 8 f8 rfl, by simpa using hf 9 f9 rfl, by simpa using hf 10 f10 rfl, by simpa using hf 11 f11 rfl⟩
theorem cells_lv : Try.prog.cellsOf 24 = 3 := by kernel_rfl
theorem cells_tm : Try.prog.cellsOf 27 = 8 := by kernel_rfl
theorem cells_int : Try.prog.cellsOf 3 = 1 := by kernel_rfl
theorem cells_str : Try.prog.cellsOf 9 = 1 := by kernel_rfl
theorem cells_lvs : Try.prog.cellsOf 22 = 1 := by kernel_rfl
theorem cells_tms : Try.prog.cellsOf 25 = 1 := by kernel_rfl
theorem list3 {α : Type} {l : List α} (h : l.length = 3) : ∃ a b c, l = [a, b, c] := by
 match l, h with
 | [a, b, c], _ => exact ⟨a, b, c, rfl⟩
theorem list6 {α : Type} {l : List α} (h : l.length = 6) : ∃ a b c d e f, l = [a, b, c, d, e, f] := by
 match l, h with
 | [a, b, c, d, e, f], _ => exact ⟨a, b, c, d, e, f, rfl⟩
theorem list8 {α : Type} {l : List α} (h : l.length = 8) : ∃ a b c d e f g i, l = [a, b, c, d, e, f, g, i] := by
 match l, h with
 | [a, b, c, d, e, f, g, i], _ => exact ⟨a, b, c, d, e, f, g, i, rfl⟩
theorem int_in {z : Int} (h : (Lit.int .i64 z).wf = true) : InI z := by
 simp [Lit.wf, IntKind.min, IntKind.max, IntKind.signed, IntKind.bits] at h
 exact h
theorem open_lv : ∀ (fuel : Nat) (cs : List Value) (d : DataW H) (ps : List MemPlace), DataW.trod enc Try.prog w 0 sp held fuel 24 cs = some (d, ps) → Rows.uptoBulk d ≤ 1048576 →
    ∃ l, LvIs (There w) w l cs.toArray ∧ l.wt ≤ Rows.uptoBulk d := by
 intro fuel
 induction fuel using Nat.strongRecOn with
 | ind fuel ih =>
  intro cs d ps h hb
  obtain ⟨y0, y1, y2, n, rfl, hx, hl, g0, g1, g2⟩ := trods3 Try.underlying24 h
  rw [cells_lv] at hl
  obtain ⟨c0, c1, c2, rfl⟩ := list3 hl
  subst hx
  simp only [cells_int, cells_lvs, List.drop_zero, List.drop_succ_cons, List.take_succ_cons, List.take_zero] at g0 g1 g2
  obtain ⟨z0, q0, _, v0⟩ := DataW.trod_int Try.underlying3 g0
  obtain ⟨z1, q1, _, v1⟩ := DataW.trod_int Try.underlying3 g1
  simp only [List.cons.injEq, and_true] at q0 q1
  subst q0 q1
  simp only [Rows.uptoBulk, Rows.uptoBulkAll] at hb ⊢
  obtain ⟨A, cap, l, rfl, e1, e2, e3, e4, _⟩ := open_row (R := fun l cs => LvIs (There w) w l cs) (f := Lv.wt) Try.underlying22 cells_lv (by decide) (fun m cs d ps hm h hb => ih m (by omega) cs d ps h hb) g2 (by omega)
  refine ⟨.mk z0 z1 l, ?_, ?_⟩
  · simp only [LvIs]
    refine ⟨A, cap, rfl, int_in v0, int_in v1, ⟨by omega, e1⟩, LvsAt.mk fun j x hj => ?_⟩
    obtain ⟨a, cs, h1, h2, h3, h4⟩ := e3 j x hj
    exact ⟨a, cs, h1, h2, by rw [Nat.zero_add]; exact h3, h4⟩
  · simp only [Lv.wt, Lv.wts_sum]; omega
theorem open_tm : ∀ (fuel : Nat) (cs : List Value) (d : DataW H) (ps : List MemPlace), DataW.trod enc Try.prog w 0 sp held fuel 27 cs = some (d, ps) → Rows.uptoBulk d ≤ 1048576 →
    ∃ t, TmIs (There w) w t cs.toArray ∧ t.wt ≤ Rows.uptoBulk d := by
 intro fuel
 induction fuel using Nat.strongRecOn with
 | ind fuel ih =>
  intro cs d ps h hb
  obtain ⟨y0, y1, y2, y3, y4, y5, n, rfl, hx, hl, g0, g1, g2, g3, g4, g5⟩ := trods6 Try.underlying27 h
  rw [cells_tm] at hl
  obtain ⟨c0, c1, c2, c3, c4, c5, c6, c7, rfl⟩ := list8 hl
  subst hx
  simp only [cells_int, cells_str, cells_lv, cells_lvs, cells_tms, List.drop_zero, List.drop_succ_cons, List.take_succ_cons, List.take_zero] at g0 g1 g2 g3 g4 g5
  obtain ⟨z0, q0, _, v0⟩ := DataW.trod_int Try.underlying3 g0
  obtain ⟨z1, q1, _, v1⟩ := DataW.trod_int Try.underlying3 g1
  obtain ⟨s, q2, x2, v2⟩ := DataW.trod_string Try.underlying9 g2
  simp only [List.cons.injEq, and_true] at q0 q1 q2
  subst q0 q1 q2
  subst x2
  simp only [Rows.uptoBulk, Rows.uptoBulkAll] at hb ⊢
  have es : s.data.toList.length = s.size := by rw [Array.length_toList]; rfl
  rw [es] at hb ⊢
  obtain ⟨lv, hlv, wlv⟩ := open_lv n _ _ _ g3 (by omega)
  obtain ⟨A, cap, l, rfl, e1, e2, e3, e4, _⟩ := open_row (R := fun l cs => LvIs (There w) w l cs) (f := Lv.wt) Try.underlying22 cells_lv (by decide) (fun m cs d ps hm h hb => open_lv m cs d ps h hb) g4 (by omega)
  obtain ⟨A', cap', l', rfl, e1', e2', e3', e4', _⟩ := open_row (R := fun l cs => TmIs (There w) w l cs) (f := Tm.wt) Try.underlying25 cells_tm (by decide) (fun m cs d ps hm h hb => ih m (by omega) cs d ps h hb) g5 (by omega)
  refine ⟨.mk z0 z1 s lv l l', ?_, ?_⟩
  · simp only [TmIs]
    refine ⟨c3, c4, c5, A, cap, A', cap', rfl, int_in v0, int_in v1, by simp only [maxLen] at v2; omega, hlv, ⟨by omega, e1⟩, LvsAt.mk fun j x hj => ?_, ⟨by omega, e1'⟩, TmsAt.mk fun j x hj => ?_⟩
    · obtain ⟨a, cs, h1, h2, h3, h4⟩ := e3 j x hj
      exact ⟨a, cs, h1, h2, by rw [Nat.zero_add]; exact h3, h4⟩
    · obtain ⟨a, cs, h1, h2, h3, h4⟩ := e3' j x hj
      exact ⟨a, cs, h1, h2, by rw [Nat.zero_add]; exact h3, h4⟩
  · simp only [Tm.wt, Lv.wts_sum, Tm.wts_sum]; omega
end
end Go.Proofs.Ytiampoebdmflgaa

/- Arguments opened: a term. -/
namespace Go.Proofs.Ytiampoebdmflgaa
open Go.ChangeShapes Go.WideShapes Go.ChangeAt Go.RowKit
set_option linter.unusedVariables false
set_option maxRecDepth 100000
set_option linter.unusedSimpArgs false
section
variable {H : Type} {enc : TypeId × Value → H} {w : World} {sp : Nat → Bool} {held : Bool}
theorem open_tmV {r : Reach} {b0 : Nat} {v : Value} {d : DataW H} {ps : List MemPlace} (hval : Value.okWide Try.prog w r b0 27 v) (hd : DataW.Trod enc Try.prog w 0 sp held 27 v d ps) (hb : Rows.uptoBulk d ≤ 1048576) :
    ∃ (t : Tm) (cs : Array Value), v = .agg cs ∧ TmIs (There w) w t cs ∧ t.wt ≤ Rows.uptoBulk d := by
 obtain ⟨cs, rfl, hsz⟩ := okWide_struct Try.underlying27 hval
 obtain ⟨fuel, hf⟩ := hd
 obtain ⟨t, h1, h2⟩ := open_tm fuel _ _ _ hf hb
 exact ⟨t, cs, rfl, by simpa [Value.cells] using h1, h2⟩
end
end Go.Proofs.Ytiampoebdmflgaa

/- Arguments opened: globals. -/
namespace Go.Proofs.Ytiampoebdmflgaa
open Go.ChangeShapes Go.WideShapes Go.ChangeAt Go.RowKit
set_option linter.unusedVariables false
set_option maxRecDepth 100000
set_option linter.unusedSimpArgs false
theorem cells_ru : Try.prog.cellsOf 143 = 10 := by kernel_rfl
theorem cells_gl : Try.prog.cellsOf 74 = 26 := by kernel_rfl
theorem cells_strs : Try.prog.cellsOf 71 = 1 := by kernel_rfl
theorem cells_rus : Try.prog.cellsOf 72 = 1 := by kernel_rfl
theorem list10 {α : Type} {l : List α} (h : l.length = 10) : ∃ a b c0 c1 c2 c3 c4 c5 c6 c7, l = [a, b, c0, c1, c2, c3, c4, c5, c6, c7] := by
 match l, h with
 | [a, b, c0, c1, c2, c3, c4, c5, c6, c7], _ => exact ⟨_, _, _, _, _, _, _, _, _, _, rfl⟩
theorem list26 {α : Type} {l : List α} (h : l.length = 26) : ∃ k nm vs a0 a1 a2 a3 a4 a5 a6 a7 b0 b1 b2 b3 b4 b5 b6 b7 ind pa ix fs cts mi rus, l = [k, nm, vs, a0, a1, a2, a3, a4, a5, a6, a7, b0, b1, b2, b3, b4, b5, b6, b7, ind, pa, ix, fs, cts, mi, rus] := by
 match l, h with
 | [k, nm, vs, a0, a1, a2, a3, a4, a5, a6, a7, b0, b1, b2, b3, b4, b5, b6, b7, ind, pa, ix, fs, cts, mi, rus], _ => exact ⟨_, _, _, _, _, _, _, _, _, _, _, _, _, _, _, _, _, _, _, _, _, _, _, _, _, _, rfl⟩
section
variable {H : Type} {enc : TypeId × Value → H} {w : World} {sp : Nat → Bool} {held : Bool}
theorem open_str1 (n : Nat) (cs : List Value) (d : DataW H) (ps : List MemPlace) (h : DataW.trod enc Try.prog w 0 sp held n 9 cs = some (d, ps)) (_hb : Rows.uptoBulk d ≤ 1048576) :
    ∃ x : ByteArray, strR.is (There w) w x cs.toArray ∧ (fun _ : ByteArray => 0) x ≤ Rows.uptoBulk d := by
 obtain ⟨s, q2, x2, v2⟩ := DataW.trod_string Try.underlying9 h
 subst q2
 exact ⟨s, rfl, Nat.zero_le _⟩
theorem open_ru (n : Nat) (cs : List Value) (d : DataW H) (ps : List MemPlace) (h : DataW.trod enc Try.prog w 0 sp held n 143 cs = some (d, ps)) (hb : Rows.uptoBulk d ≤ 1048576) :
    ∃ x : Rul, RuIs (There w) w x cs.toArray ∧ (fun _ : Rul => 0) x ≤ Rows.uptoBulk d := by
 obtain ⟨y0, y1, y2, n, rfl, hx, hl, g0, g1, g2⟩ := trods3 Try.underlying143 h
 rw [cells_ru] at hl
 obtain ⟨a, b, c0, c1, c2, c3, c4, c5, c6, c7, rfl⟩ := list10 hl
 simp only at hx
 subst hx
 simp only [cells_str, cells_int, cells_tm, List.drop_zero, List.drop_succ_cons, List.take_succ_cons, List.take_zero] at g0 g1 g2
 obtain ⟨s, q0, x0, v0⟩ := DataW.trod_string Try.underlying9 g0
 obtain ⟨z, q1, _, v1⟩ := DataW.trod_int Try.underlying3 g1
 simp only [List.cons.injEq, and_true] at q0 q1
 subst q0 q1
 subst x0
 simp only [Rows.uptoBulk, Rows.uptoBulkAll] at hb ⊢
 have es : s.data.toList.length = s.size := by rw [Array.length_toList]; rfl
 rw [es] at hb
 obtain ⟨t, ht, wt⟩ := open_tm n _ _ _ g2 (by omega)
 exact ⟨⟨s, z, t⟩, ⟨_, rfl, int_in v1, by show s.size ≤ _; omega, ht⟩, Nat.zero_le _⟩
theorem open_gl (n : Nat) (cs : List Value) (d : DataW H) (ps : List MemPlace) (h : DataW.trod enc Try.prog w 0 sp held n 74 cs = some (d, ps)) (hb : Rows.uptoBulk d ≤ 1048576) :
    ∃ x : Glb, GlIs (There w) w x cs.toArray ∧ (fun _ : Glb => 0) x ≤ Rows.uptoBulk d := by
 obtain ⟨y0, y1, y2, y3, y4, y5, y6, y7, y8, y9, y10, y11, n, rfl, hx, hl, g0, g1, g2, g3, g4, g5, g6, g7, g8, g9, g10, g11⟩ := trods12 Try.underlying74 h
 rw [cells_gl] at hl
 obtain ⟨c0, c1, c2, c3, c4, c5, c6, c7, c8, c9, c10, c11, c12, c13, c14, c15, c16, c17, c18, c19, c20, c21, c22, c23, c24, c25, rfl⟩ := list26 hl
 simp only at hx
 subst hx
 simp only [cells_str, cells_int, cells_tm, cells_strs, cells_rus, List.drop_zero, List.drop_succ_cons, List.take_succ_cons, List.take_zero] at g0 g1 g2 g3 g4 g5 g6 g7 g8 g9 g10 g11
 obtain ⟨z0, q0, _, v0⟩ := DataW.trod_int Try.underlying3 g0
 obtain ⟨s1, q1, x1, v1⟩ := DataW.trod_string Try.underlying9 g1
 obtain ⟨z2, q2, _, v2⟩ := DataW.trod_int Try.underlying3 g2
 obtain ⟨s5, q5, x5, v5⟩ := DataW.trod_string Try.underlying9 g5
 obtain ⟨z6, q6, _, v6⟩ := DataW.trod_int Try.underlying3 g6
 obtain ⟨z7, q7, _, v7⟩ := DataW.trod_int Try.underlying3 g7
 obtain ⟨z8, q8, _, v8⟩ := DataW.trod_int Try.underlying3 g8
 obtain ⟨z10, q10, _, v10⟩ := DataW.trod_int Try.underlying3 g10
 simp only [List.cons.injEq, and_true] at q0 q1 q2 q5 q6 q7 q8 q10
 subst q0 q1 q2 q5 q6 q7 q8 q10
 subst x1 x5
 simp only [Rows.uptoBulk, Rows.uptoBulkAll] at hb ⊢
 have es : ∀ s : ByteArray, s.data.toList.length = s.size := fun s => by rw [Array.length_toList]; rfl
 rw [es, es] at hb
 obtain ⟨ty, hty, _⟩ := open_tm n _ _ _ g3 (by omega)
 obtain ⟨vl, hvl, _⟩ := open_tm n _ _ _ g4 (by omega)
 obtain ⟨A, cap, l, rfl, e1, e2, e3, _, _⟩ := open_row (R := fun (x : ByteArray) cs => strR.is (There w) w x cs) (f := fun _ => 0) Try.underlying71 cells_str (by decide) (fun m cs d ps _ h hb => open_str1 m cs d ps h hb) g9 (by omega)
 obtain ⟨A', cap', l', rfl, e1', e2', e3', _, _⟩ := open_row (R := fun (x : Rul) cs => RuIs (There w) w x cs) (f := fun _ => 0) Try.underlying72 cells_ru (by decide) (fun m cs d ps _ h hb => open_ru m cs d ps h hb) g11 (by omega)
 exact ⟨⟨z0, s1, z2, ty, vl, s5, z6, z7, z8, l, z10, l'⟩, ⟨_, _, _, _, _, _, _, _, _, _, _, _, _, _, _, _, A, cap, A', cap', rfl, ⟨int_in v0, int_in v2, int_in v6, int_in v7, int_in v8, int_in v10⟩, ⟨by show s1.size ≤ _; omega, by show s5.size ≤ _; omega⟩, hty, hvl, strs_rat.2 e3, ⟨by show l.length * 16 ≤ _; omega, e1⟩, e3', ⟨by show l'.length * 144 ≤ _; omega, e1'⟩⟩, Nat.zero_le _⟩
theorem open_globals {r : Reach} {b0 : Nat} {v : Value} {d : DataW H} {ps : List MemPlace} (_hval : Value.okWide Try.prog w r b0 63 v) (hd : DataW.Trod enc Try.prog w 0 sp held 63 v d ps) (hb : Rows.uptoBulk d ≤ 1048576) :
    ∃ (l : List Glb) (A : Option Addr) (c : Nat), v = .slice A l.length c ∧ RAt glR (There w) w l A ∧ l.length ≤ c ∧ l.length ≤ 1048576 := by
 obtain ⟨a, n, c, rfl⟩ := okWide_slice Try.underlying63 _hval
 obtain ⟨fuel, hf⟩ := hd
 obtain ⟨A, cap, l, h1, e1, e2, e3, _, _⟩ := open_row (c := .slice a n c) (R := fun (x : Glb) cs => GlIs (There w) w x cs) (f := fun _ => 0) Try.underlying63 cells_gl (by decide) (fun m cs d ps _ h hb => open_gl m cs d ps h hb) hf hb
 exact ⟨l, A, cap, h1, e3, e1, e2⟩
end
end Go.Proofs.Ytiampoebdmflgaa
