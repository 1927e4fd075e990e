/- Texts put one behind the other: Zshape, Zlight, Llaw, Tlaw, Slaw, Olaw, Dlaw, Awk0, Br, Awk. -/
import Derived.Test.YtiampoebdmflgaaSn8
import Derived.Test.YtiampoebdmflgaaSn4
import Derived.Test.YtiampoebdmflgaaSn6
import Derived.Test.YtiampoebdmflgaaSn7
import Derived.Test.YtiampoebdmflgaaSn5
import Derived.Test.YtiampoebdmflgaaSn2
import Derived.Test.YtiampoebdmflgaaSn0
/- The reference's SameShape. -/
namespace Go.Proofs.Ytiampoebdmflgaa
open Go.RowKit
set_option linter.unusedVariables false
set_option maxRecDepth 100000
set_option maxHeartbeats 4000000
set_option linter.unusedSimpArgs false
def sameSh (a b : TShape) : Bool := decide (a.1 = b.1) && (req a.2.1 b.2.1 && decide (a.2.2 = b.2.2))
theorem fd_size : (Try.prog.info? 52).map (·.size) = some 2 := by kernel_rfl
theorem sameSh_any (s1 s2 : TShape) (ca cb : Array Value) (D : Nat → Prop) (w : World) (hD : Within D w) (ha : ShIs D w s1 ca) (hb : ShIs D w s2 cb) (hla : s1.2.2.length ≤ 1000000000) (hlb : s2.2.2.length ≤ 1000000000) (hsl : ∀ y, y ∈ s1.2.2 → y.2.length ≤ 1000000000000) :
    Calls Try.prog 12 #[.agg ca, .agg cb] w fun e w' => e = .returned (.bool (sameSh s1 s2)) ∧ Below w.heap.size w w' := by
 obtain ⟨i1, v1, as_⟩ := s1
 obtain ⟨i2, v2, bs⟩ := s2
 obtain ⟨xa, ya, za, A, c, rfl, hva, hca⟩ := ha
 obtain ⟨xb, yb, zb, B, c2, rfl, hvb, hcb⟩ := hb
 simp only at hla hlb hva hca hvb hcb hsl ⊢
 have HSL := Lib.hid hsl
 clear hsl
 have hz := cs_zero
 obtain ⟨X, hX⟩ : ∃ X, sameSh (i1, v1, as_) (i2, v2, bs) = X := ⟨_, rfl⟩
 rw [hX]
 unfold sameSh at hX
 simp only at hX
 obtain ⟨n, hn⟩ : ∃ n, as_.length = n := ⟨_, rfl⟩
 obtain ⟨m, hm⟩ : ∃ n, bs.length = n := ⟨_, rfl⟩
 rw [hn] at hla ⊢
 rw [hm] at hlb ⊢
 have HN := Lib.hid hn
 have HM := Lib.hid hm
 have HX := Lib.hid hX
 clear hn hm hX
 obtain ⟨W1, hW1⟩ : ∃ W1, (w.alloc (.cells #[.int .i64 i1, xa, ya, za, .slice A n c] 35)).alloc (.cells #[.int .i64 i2, xb, yb, zb, .slice B m c2] 35) = W1 := ⟨_, rfl⟩
 have huW1 : Upd nob w W1 := by rw [← hW1]; exact ((Upd.refl nob w).alloc _).alloc _
 have hsW1 : W1.heap.size = w.heap.size + 2 := by rw [← hW1]; simp
 have bk0 : Blk W1 (w.heap.size) 35 #[.int .i64 i1, xa, ya, za, .slice A n c] := by
  rw [← hW1]
  have h := Blk.new (w) 35 #[.int .i64 i1, xa, ya, za, .slice A n c]
  exact h.alloc _
 have bk1 : Blk W1 (w.heap.size + 1) 35 #[.int .i64 i2, xb, yb, zb, .slice B m c2] := by
  rw [← hW1]
  have h := Blk.new (w.alloc (.cells #[.int .i64 i1, xa, ya, za, .slice A n c] 35)) 35 #[.int .i64 i2, xb, yb, zb, .slice B m c2]
  rw [World.size_alloc] at h
  exact h
 have hD1 := hD.up huW1
 have u0 := sub_row (p := ⟨w.heap.size, 0, none⟩) bk0.rowAt 1 #[xa, ya, za] (fun j v hv => by rcases j with _ | _ | _ | j <;> simp at hv ⊢ <;> exact hv)
 have u1 := sub_row (p := ⟨w.heap.size + 1, 0, none⟩) bk1.rowAt 1 #[xb, yb, zb] (fun j v hv => by rcases j with _ | _ | _ | j <;> simp at hv ⊢ <;> exact hv)
 have HVA := Lib.hid (hva.old (hD.old huW1) (fun _ h => h))
 have HVB := Lib.hid (hvb.old (hD.old huW1) (fun _ h => h))
 have B0 := Lib.hid bk0
 have B1 := Lib.hid bk1
 have HW1 := Lib.hid hW1
 rw [← hW1] at u0 u1
 clear hva hvb bk0 bk1 hW1
 by_cases hi : i1 = i2
 · have t1 : (i1 != i2) = false := by simpa using hi
   have hx : (req v1 v2 && decide (as_ = bs)) = X := by rw [← HX.out]; simp [hi]
   have HX2 := Lib.hid hx
   clear HX hx hi
   go_enter Try.func12, Try.ntmps12
   go_wp2_with (first
           | (go_big_want; first | (refine owp_load_at 24 (.tmp 15) rfl ⟨w.heap.size, 1, none⟩ rfl _ _ u0 Try.underlying24 rfl lv_size ?_) | (refine owp_load_at 24 (.tmp 17) rfl ⟨w.heap.size + 1, 1, none⟩ rfl _ _ u1 Try.underlying24 rfl lv_size ?_)))
   rw [HW1.out]
   clear HW1 u0 u1
   refine (req_any v1 v2 _ _ D W1 hD1 HVA.out HVB.out).mono ?_
   rintro e w3 ⟨rfl, hb3⟩
   have hu3 : Upd nob W1 w3 := Upd.of_below hb3
   have hw3s := hu3.size
   have hu03 := huW1.trans hu3
   have hD3 := hD1.up hu3
   have C0 := B0.out.upd hu3 (fun f => f)
   have C1 := B1.out.upd hu3 (fun f => f)
   have p4 : w3.cell? ⟨w.heap.size, 4, none⟩ = some (.slice A n c) := C0.cell 4
   have p14 : w3.cell? ⟨w.heap.size + 1, 4, none⟩ = some (.slice B m c2) := C1.cell 4
   have hlt1 := C1.lt
   clear C0 C1
   cases hr : req v1 v2 with
   | false =>
    have e : X = false := by rw [← HX2.out, hr]; rfl
    subst e
    clear HX2 hr
    go_wp2_with fail
    go_ret
    exact ⟨rfl, hu03.below⟩
   | true =>
    have hx : decide (as_ = bs) = X := by rw [← HX2.out, hr]; simp
    have HX3 := Lib.hid hx
    clear HX2 hr hx
    by_cases hnm : n = m
    · subst hnm
      go_wp2_with fail
      go_loopg [34] n (fun r v wr => ∃ j : Nat, j + r = n ∧ v = .int .i64 j ∧ decide (as_.drop j = bs.drop j) = X ∧ Upd nob w3 wr)
      case atStart => exact ⟨0, by omega, rfl, by rw [List.drop_zero, List.drop_zero]; exact HX3.out, Upd.refl _ _⟩
      case round =>
       clear HX3
       obtain ⟨j, hj, rfl, hdx, hus⟩ := hrel
       have hws := hus.size
       have hu0r := hu03.trans hus
       have q14 : wr.cell? ⟨w.heap.size + 1, 4, none⟩ = some (.slice B n c2) := (hus.cell hlt1 (fun f => f)).trans p14
       have HDX := Lib.hid hdx
       clear hdx
       by_cases hlt : j < n
       · have t2 : decide ((j : Int) < n) = true := by simp [hlt]
         have hj1 : j < as_.length := by rw [HN.out]; exact hlt
         have hj2 : j < bs.length := by rw [HM.out]; exact hlt
         obtain ⟨a, csa, hA, hab, hrowa, A2, k2, hcsa, hfa⟩ := hca j _ (List.getElem?_eq_getElem hj1)
         obtain ⟨b, csb, hB, hbb, hrowb, B2, k3, hcsb, hfb⟩ := hcb j _ (List.getElem?_eq_getElem hj2)
         have hd1 : as_.drop j = as_[j] :: as_.drop (j + 1) := List.drop_eq_getElem_cons hj1
         have hd2 : bs.drop j = bs[j] :: bs.drop (j + 1) := List.drop_eq_getElem_cons hj2
         have hdx := HDX.out
         rw [hd1, hd2] at hdx
         obtain ⟨⟨f1, l1⟩, hx⟩ : ∃ x, as_[j] = x := ⟨_, rfl⟩
         obtain ⟨⟨f2, l2⟩, hy⟩ : ∃ x, bs[j] = x := ⟨_, rfl⟩
         rw [hx] at hdx hcsa hfa
         rw [hy] at hdx hcsb hfb
         simp only at hcsa hfa hcsb hfb
         obtain ⟨g1, hg1⟩ : ∃ g, l1.length = g := ⟨_, rfl⟩
         obtain ⟨g2, hg2⟩ : ∃ g, l2.length = g := ⟨_, rfl⟩
         rw [hg1] at hcsa
         rw [hg2] at hcsb
         subst hcsa hcsb
         have hra := hrowa.old (hD.old hu0r) (by rw [Addr_add_block]; exact hab)
         have hrb := hrowb.old (hD.old hu0r) (by rw [Addr_add_block]; exact hbb)
         have hg1b : g1 ≤ 1000000000000 := by
          have h9 := HSL.out as_[j] (List.getElem_mem hj1)
          rw [hx] at h9
          rw [← hg1]; exact h9
         have HG1 := Lib.hid hg1
         have HG2 := Lib.hid hg2
         have HA := Lib.hid hA
         have HB := Lib.hid hB
         have HDX2 := Lib.hid hdx
         have oa : (#[Value.int .i64 f1, .slice A2 g1 k2]).all (·.oneCell') = true := by simp [Value.oneCell']
         have ob : (#[Value.int .i64 f2, .slice B2 g2 k3]).all (·.oneCell') = true := by simp [Value.oneCell']
         clear hA hB hrowa hrowb hd1 hd2 hdx hx hy HDX hg1 hg2
         by_cases hf : f1 = f2
         · have t3 : (f1 != f2) = false := by simpa using hf
           by_cases hg : g1 = g2
           · subst hf hg
             go_wp2_with (first
                                 | ((with_reducible refine this_op (.indexAddr 33 (.tmp 32) (.tmp 34)) ?_); refine wpList_index_at rfl 33 (.tmp 32) (.tmp 34) rfl _ a _ _ rfl HA.out j rfl hlt 50 Try.underlying33 2 cs_size ?_)
                                 | ((with_reducible refine this_op (.load 50 (.tmp 37)) ?_); refine wpList_at rfl 50 (.tmp 37) rfl (a.add (j * 2)) rfl _ _ hra Try.underlying50 rfl cs_size ?_)
                                 | ((with_reducible refine this_op (.store 50 (.tmp 6) (.tmp 38)) ?_); refine wpList_store_row rfl 50 (.tmp 6) (.tmp 38) rfl wr.heap.size _ rfl rfl 50 _ (Blk.new wr _ _) cs_size rfl oa ?_
                                    obtain ⟨W7, hW7⟩ : ∃ W7, (wr.alloc (.cells #[.int .i64 0, .slice none 0 0] 50)).setRow wr.heap.size #[.int .i64 f1, .slice A2 g1 k2] = W7 := ⟨_, rfl⟩
                                    have hu7 : Upd nob wr W7 := by rw [← hW7]; exact ((Upd.refl nob wr).alloc _).setRow (.inr (Nat.le_refl _)) _
                                    have hb7 : Blk W7 wr.heap.size 50 #[.int .i64 f1, .slice A2 g1 k2] := by rw [← hW7]; exact (Blk.new wr _ _).row _
                                    rw [hW7]
                                    clear hW7
                                    have q147 : W7.cell? ⟨w.heap.size + 1, 4, none⟩ = some (.slice B n c2) := (hu7.cell (by show w.heap.size + 1 < _; omega) (fun f => f)).trans q14
                                    have hrb7 := hrb.old ((hD.up hu0r).old hu7) (by rw [Addr_add_block]; exact hbb)
                                    have HB7 := Lib.hid hb7
                                    clear hb7)
                                 | ((with_reducible refine this_op (.indexAddr 33 (.tmp 40) (.tmp 41)) ?_); refine wpList_index_at rfl 33 (.tmp 40) (.tmp 41) rfl _ b _ _ rfl HB.out j rfl hlt 50 Try.underlying33 2 cs_size ?_)
                                 | ((with_reducible refine this_op (.load 50 (.tmp 42)) ?_); refine wpList_at rfl 50 (.tmp 42) rfl (b.add (j * 2)) rfl _ _ hrb7 Try.underlying50 rfl cs_size ?_)
                                 | ((with_reducible refine this_op (.store 50 (.tmp 7) (.tmp 43)) ?_); refine wpList_store_row rfl 50 (.tmp 7) (.tmp 43) rfl W7.heap.size _ rfl rfl 50 _ (Blk.new W7 _ _) cs_size rfl ob ?_
                                    obtain ⟨W8, hW8⟩ : ∃ W8, (W7.alloc (.cells #[.int .i64 0, .slice none 0 0] 50)).setRow W7.heap.size #[.int .i64 f1, .slice B2 g1 k3] = W8 := ⟨_, rfl⟩
                                    have hu8 : Upd nob W7 W8 := by rw [← hW8]; exact ((Upd.refl nob W7).alloc _).setRow (.inr (Nat.le_refl _)) _
                                    have hb8 : Blk W8 W7.heap.size 50 #[.int .i64 f1, .slice B2 g1 k3] := by rw [← hW8]; exact (Blk.new W7 _ _).row _
                                    rw [hW8]
                                    clear hW8
                                    have hb78 := HB7.out.upd hu8 (fun f => f)
                                    have s0 : W8.cell? ⟨wr.heap.size, 0, none⟩ = some (.int .i64 f1) := hb78.cell 0
                                    have s1 : W8.cell? ⟨wr.heap.size, 1, none⟩ = some (.slice A2 g1 k2) := hb78.cell 1
                                    have s2 : W8.cell? ⟨W7.heap.size, 0, none⟩ = some (.int .i64 f1) := hb8.cell 0
                                    have s3 : W8.cell? ⟨W7.heap.size, 1, none⟩ = some (.slice B2 g1 k3) := hb8.cell 1
                                    have hlt7 := hb78.lt
                                    have hlt8 := hb8.lt
                                    clear hb78 hb8))
             have hdx := HDX2.out
             have hdx3 : decide (l1.drop 0 = l2.drop 0 ∧ as_.drop (j + 1) = bs.drop (j + 1)) = X := by
              rw [← hdx, List.drop_zero, List.drop_zero]
              simp only [List.cons.injEq, Prod.mk.injEq, true_and]
             have HI := Lib.hid hdx3
             have hw7s := hu7.size
             have hw8s := hu8.size
             have hu0r8 := (hu0r.trans hu7).trans hu8
             have hus8 := (hus.trans hu7).trans hu8
             have hj0 : n - (j + 1) < gk := by omega
             have HFA := Lib.hid hfa
             have HFB := Lib.hid hfb
             clear hdx hdx3 HDX2 s0 s2 hra hrb hrb7 q147 HB7 hfa hfb
             obtain ⟨wo, hwo⟩ : ∃ x : World, x = wr := ⟨_, rfl⟩
             subst hwo
             go_loopg [61] g1 (fun r v w9 => ∃ k : Nat, k + r = g1 ∧ v = .int .i64 k ∧ decide (l1.drop k = l2.drop k ∧ as_.drop (j + 1) = bs.drop (j + 1)) = X ∧ Upd nob W8 w9)
             case atStart => exact ⟨0, by omega, rfl, HI.out, Upd.refl _ _⟩
             case round =>
              clear HI
              obtain ⟨k, hk, rfl, hdx, hu9⟩ := hrel
              have hw9s := hu9.size
              have hu09 := hu0r8.trans hu9
              have z1 : wr.cell? ⟨wo.heap.size, 1, none⟩ = some (.slice A2 g1 k2) := (hu9.cell hlt7 (fun f => f)).trans s1
              have z3 : wr.cell? ⟨W7.heap.size, 1, none⟩ = some (.slice B2 g1 k3) := (hu9.cell hlt8 (fun f => f)).trans s3
              have HI := Lib.hid hdx
              clear hdx
              by_cases hkl : k < g1
              · have t8 : decide ((k : Int) < g1) = true := by simp [hkl]
                have hk1 : k < l1.length := by rw [HG1.out]; exact hkl
                have hk2 : k < l2.length := by rw [HG2.out]; exact hkl
                obtain ⟨a5, hA5, hab5, hr5⟩ := HFA.out k _ (List.getElem?_eq_getElem hk1)
                obtain ⟨b5, hB5, hbb5, hr6⟩ := HFB.out k _ (List.getElem?_eq_getElem hk2)
                have hd1 : l1.drop k = l1[k] :: l1.drop (k + 1) := List.drop_eq_getElem_cons hk1
                have hd2 : l2.drop k = l2[k] :: l2.drop (k + 1) := List.drop_eq_getElem_cons hk2
                have hdx := HI.out
                rw [hd1, hd2] at hdx
                obtain ⟨⟨x1, x2⟩, hx⟩ : ∃ x, l1[k] = x := ⟨_, rfl⟩
                obtain ⟨⟨y1, y2⟩, hy⟩ : ∃ x, l2[k] = x := ⟨_, rfl⟩
                rw [hx] at hdx hr5
                rw [hy] at hdx hr6
                simp only at hr5 hr6
                have hr5' := hr5.old (hD.old hu09) (by rw [Addr_add_block]; exact hab5)
                have hr6' := hr6.old (hD.old hu09) (by rw [Addr_add_block]; exact hbb5)
                have hbl5 := hD.up hu09 _ hab5
                have hbl6 := hD.up hu09 _ hbb5
                have HA5 := Lib.hid hA5
                have HB5 := Lib.hid hB5
                have HI2 := Lib.hid hdx
                clear hA5 hB5 hr5 hr6 hd1 hd2 hdx hx hy HI
                go_wp2_with fail
                refine wp_region_P (by kernel_rfl) ?_
                refine wpAny_of_held (S := fun X : World => ∀ p : Addr, p.block < wr.heap.size → X.cell? p = wr.cell? p) _ _ _ _ ?_
                have hS : ∀ p : Addr, p.block < wr.heap.size → wr.drew.cell? p = wr.cell? p := fun _ _ => rfl
                refine hT 0 ?_ rfl (by kernel_rfl) (by rfl) ?_ hS ?_
                rotate_left; · intro wx hx; clear hx; go_simp; with_reducible rfl
                try simp only [tl]
                refine hT 1 ?_ rfl (by kernel_rfl) (by rfl) ?_ hS ?_
                rotate_left
                · intro wx hx
                  have q0 := (hx ⟨wo.heap.size, 1, none⟩ (by show wo.heap.size < _; omega)).trans z1
                  clear hx
                  go_simp
                  with_reducible rfl
                try simp only [tl]
                refine hT 2 ?_ rfl (by kernel_rfl) (by rfl) ?_ hS ?_
                rotate_left; · intro wx hx; clear hx; go_simp; with_reducible rfl
                try simp only [tl]
                refine hT 3 (.pointer (some (Addr.add a5 (k * 2)))) rfl (by kernel_rfl) (by rfl) ?_ hS ?_
                · intro wx hx
                  exact run_index_at 48 (.tmp 65) (.tmp 66) rfl _ a5 _ _ rfl HA5.out k rfl hkl 52 Try.underlying48 2 fd_size
                try simp only [tl]
                refine hT 4 (.agg #[.int .i64 x1, .int .i64 x2]) rfl (by kernel_rfl) (by rfl) ?_ hS ?_
                · intro wx hx
                  exact run_load_at 52 (.tmp 67) rfl (Addr.add a5 (k * 2)) rfl #[.int .i64 x1, .int .i64 x2] _ (row_on hr5' (by rw [Addr_add_block]; exact hbl5) hx) Try.underlying52 rfl fd_size
                try simp only [tl]
                refine hT 5 ?_ rfl (by kernel_rfl) (by rfl) ?_ hS ?_
                rotate_left; · intro wx hx; clear hx; go_simp; with_reducible rfl
                try simp only [tl]
                refine hT 6 ?_ rfl (by kernel_rfl) (by rfl) ?_ hS ?_
                rotate_left
                · intro wx hx
                  have q0 := (hx ⟨W7.heap.size, 1, none⟩ (by show W7.heap.size < _; omega)).trans z3
                  clear hx
                  go_simp
                  with_reducible rfl
                try simp only [tl]
                refine hT 7 ?_ rfl (by kernel_rfl) (by rfl) ?_ hS ?_
                rotate_left; · intro wx hx; clear hx; go_simp; with_reducible rfl
                try simp only [tl]
                refine hT 8 (.pointer (some (Addr.add b5 (k * 2)))) rfl (by kernel_rfl) (by rfl) ?_ hS ?_
                · intro wx hx
                  exact run_index_at 48 (.tmp 70) (.tmp 71) rfl _ b5 _ _ rfl HB5.out k rfl hkl 52 Try.underlying48 2 fd_size
                try simp only [tl]
                refine hT 9 (.agg #[.int .i64 y1, .int .i64 y2]) rfl (by kernel_rfl) (by rfl) ?_ hS ?_
                · intro wx hx
                  exact run_load_at 52 (.tmp 72) rfl (Addr.add b5 (k * 2)) rfl #[.int .i64 y1, .int .i64 y2] _ (row_on hr6' (by rw [Addr_add_block]; exact hbl6) hx) Try.underlying52 rfl fd_size
                try simp only [tl]
                refine hT 10 (.bool (!(decide (x1 = y1) && decide (x2 = y2)))) rfl (by kernel_rfl) (by rfl) ?_ hS ?_
                · intro wx hx
                  clear hx
                  go_simp
                  by_cases e1 : x1 = y1 <;> by_cases e2 : x2 = y2 <;> simp [e1, e2]
                try simp only [tl]
                refine wpAnyH_done (by kernel_rfl) ?_ _
                refine NoPanic.normal ?_
                by_cases hxy : x1 = y1 ∧ x2 = y2
                · obtain ⟨rfl, rfl⟩ := hxy
                  have hdx := HI2.out
                  have hd3 : decide (l1.drop (k + 1) = l2.drop (k + 1) ∧ as_.drop (j + 1) = bs.drop (j + 1)) = X := by rw [← hdx]; simp
                  have HD3 := Lib.hid hd3
                  have ev : (!(decide (x1 = x1) && decide (x2 = x2))) = false := by simp
                  rw [ev]
                  clear hdx HI2 hd3 ev
                  go_wp2_with fail
                  go_roundg (gk - 1)
                  case measure => omega
                  case rel => exact ⟨k + 1, by omega, by go_num, HD3.out, hu9.trans ((Upd.refl nob wr).drew)⟩
                have hdx := HI2.out
                have ev : (!(decide (x1 = y1) && decide (x2 = y2))) = true := by
                 by_cases e1 : x1 = y1
                 · have e2 : ¬ x2 = y2 := fun h => hxy ⟨e1, h⟩
                   simp [e2]
                 simp [e1]
                have e : X = false := by
                 rw [← hdx]
                 have : ((x1, x2) :: l1.drop (k + 1) : List (Int × Int)) ≠ (y1, y2) :: l2.drop (k + 1) := fun h => by
                  injection h with h1 h2
                  injection h1 with h3 h4
                  exact hxy ⟨h3, h4⟩
                 simp only [this, false_and, decide_false]
                rw [ev]
                subst e
                clear hdx HI2 hxy ev
                go_wp2_with fail
                go_ret
                exact ⟨rfl, (hu09.trans ((Upd.refl nob wr).drew)).below⟩
              have t8 : decide ((k : Int) < g1) = false := by simp; omega
              have hdx := HI.out
              rw [List.drop_eq_nil_of_le (by rw [HG1.out]; omega), List.drop_eq_nil_of_le (by rw [HG2.out]; omega)] at hdx
              have hd3 : decide (as_.drop (j + 1) = bs.drop (j + 1)) = X := by rw [← hdx]; simp
              have HD3 := Lib.hid hd3
              clear hdx HI hd3
              go_wp2_with fail
              go_roundg (n - (j + 1))
              case measure => exact hj0
              case rel => exact ⟨j + 1, by omega, by go_num, HD3.out, hus8.trans hu9⟩
           have t4 : ((g1 : Int) != g2) = true := by simp; omega
           have hdx := HDX2.out
           have e : X = false := by
            rw [← hdx]
            have : l1 ≠ l2 := fun h => hg (by rw [← HG1.out, ← HG2.out, h])
            simp [this]
           subst e
           clear hdx HDX2 hg hf
           go_wp2_with (first
                               | ((with_reducible refine this_op (.indexAddr 33 (.tmp 32) (.tmp 34)) ?_); refine wpList_index_at rfl 33 (.tmp 32) (.tmp 34) rfl _ a _ _ rfl HA.out j rfl hlt 50 Try.underlying33 2 cs_size ?_)
                               | ((with_reducible refine this_op (.load 50 (.tmp 37)) ?_); refine wpList_at rfl 50 (.tmp 37) rfl (a.add (j * 2)) rfl _ _ hra Try.underlying50 rfl cs_size ?_)
                               | ((with_reducible refine this_op (.store 50 (.tmp 6) (.tmp 38)) ?_); refine wpList_store_row rfl 50 (.tmp 6) (.tmp 38) rfl wr.heap.size _ rfl rfl 50 _ (Blk.new wr _ _) cs_size rfl oa ?_
                                  obtain ⟨W7, hW7⟩ : ∃ W7, (wr.alloc (.cells #[.int .i64 0, .slice none 0 0] 50)).setRow wr.heap.size #[.int .i64 f1, .slice A2 g1 k2] = W7 := ⟨_, rfl⟩
                                  have hu7 : Upd nob wr W7 := by rw [← hW7]; exact ((Upd.refl nob wr).alloc _).setRow (.inr (Nat.le_refl _)) _
                                  have hb7 : Blk W7 wr.heap.size 50 #[.int .i64 f1, .slice A2 g1 k2] := by rw [← hW7]; exact (Blk.new wr _ _).row _
                                  rw [hW7]
                                  clear hW7
                                  have q147 : W7.cell? ⟨w.heap.size + 1, 4, none⟩ = some (.slice B n c2) := (hu7.cell (by show w.heap.size + 1 < _; omega) (fun f => f)).trans q14
                                  have hrb7 := hrb.old ((hD.up hu0r).old hu7) (by rw [Addr_add_block]; exact hbb)
                                  have HB7 := Lib.hid hb7
                                  clear hb7)
                               | ((with_reducible refine this_op (.indexAddr 33 (.tmp 40) (.tmp 41)) ?_); refine wpList_index_at rfl 33 (.tmp 40) (.tmp 41) rfl _ b _ _ rfl HB.out j rfl hlt 50 Try.underlying33 2 cs_size ?_)
                               | ((with_reducible refine this_op (.load 50 (.tmp 42)) ?_); refine wpList_at rfl 50 (.tmp 42) rfl (b.add (j * 2)) rfl _ _ hrb7 Try.underlying50 rfl cs_size ?_)
                               | ((with_reducible refine this_op (.store 50 (.tmp 7) (.tmp 43)) ?_); refine wpList_store_row rfl 50 (.tmp 7) (.tmp 43) rfl W7.heap.size _ rfl rfl 50 _ (Blk.new W7 _ _) cs_size rfl ob ?_
                                  obtain ⟨W8, hW8⟩ : ∃ W8, (W7.alloc (.cells #[.int .i64 0, .slice none 0 0] 50)).setRow W7.heap.size #[.int .i64 f2, .slice B2 g2 k3] = W8 := ⟨_, rfl⟩
                                  have hu8 : Upd nob W7 W8 := by rw [← hW8]; exact ((Upd.refl nob W7).alloc _).setRow (.inr (Nat.le_refl _)) _
                                  have hb8 : Blk W8 W7.heap.size 50 #[.int .i64 f2, .slice B2 g2 k3] := by rw [← hW8]; exact (Blk.new W7 _ _).row _
                                  rw [hW8]
                                  clear hW8
                                  have hb78 := HB7.out.upd hu8 (fun f => f)
                                  have s0 : W8.cell? ⟨wr.heap.size, 0, none⟩ = some (.int .i64 f1) := hb78.cell 0
                                  have s1 : W8.cell? ⟨wr.heap.size, 1, none⟩ = some (.slice A2 g1 k2) := hb78.cell 1
                                  have s2 : W8.cell? ⟨W7.heap.size, 0, none⟩ = some (.int .i64 f2) := hb8.cell 0
                                  have s3 : W8.cell? ⟨W7.heap.size, 1, none⟩ = some (.slice B2 g2 k3) := hb8.cell 1
                                  have hlt7 := hb78.lt
                                  have hlt8 := hb8.lt
                                  clear hb78 hb8))
           go_ret
           exact ⟨rfl, ((hu0r.trans hu7).trans hu8).below⟩
         have t3 : (f1 != f2) = true := by simpa using hf
         have hdx := HDX2.out
         have e : X = false := by rw [← hdx]; simp [hf]
         subst e
         clear hdx HDX2 hf
         go_wp2_with (first
                           | ((with_reducible refine this_op (.indexAddr 33 (.tmp 32) (.tmp 34)) ?_); refine wpList_index_at rfl 33 (.tmp 32) (.tmp 34) rfl _ a _ _ rfl HA.out j rfl hlt 50 Try.underlying33 2 cs_size ?_)
                           | ((with_reducible refine this_op (.load 50 (.tmp 37)) ?_); refine wpList_at rfl 50 (.tmp 37) rfl (a.add (j * 2)) rfl _ _ hra Try.underlying50 rfl cs_size ?_)
                           | ((with_reducible refine this_op (.store 50 (.tmp 6) (.tmp 38)) ?_); refine wpList_store_row rfl 50 (.tmp 6) (.tmp 38) rfl wr.heap.size _ rfl rfl 50 _ (Blk.new wr _ _) cs_size rfl oa ?_
                              obtain ⟨W7, hW7⟩ : ∃ W7, (wr.alloc (.cells #[.int .i64 0, .slice none 0 0] 50)).setRow wr.heap.size #[.int .i64 f1, .slice A2 g1 k2] = W7 := ⟨_, rfl⟩
                              have hu7 : Upd nob wr W7 := by rw [← hW7]; exact ((Upd.refl nob wr).alloc _).setRow (.inr (Nat.le_refl _)) _
                              have hb7 : Blk W7 wr.heap.size 50 #[.int .i64 f1, .slice A2 g1 k2] := by rw [← hW7]; exact (Blk.new wr _ _).row _
                              rw [hW7]
                              clear hW7
                              have q147 : W7.cell? ⟨w.heap.size + 1, 4, none⟩ = some (.slice B n c2) := (hu7.cell (by show w.heap.size + 1 < _; omega) (fun f => f)).trans q14
                              have hrb7 := hrb.old ((hD.up hu0r).old hu7) (by rw [Addr_add_block]; exact hbb)
                              have HB7 := Lib.hid hb7
                              clear hb7)
                           | ((with_reducible refine this_op (.indexAddr 33 (.tmp 40) (.tmp 41)) ?_); refine wpList_index_at rfl 33 (.tmp 40) (.tmp 41) rfl _ b _ _ rfl HB.out j rfl hlt 50 Try.underlying33 2 cs_size ?_)
                           | ((with_reducible refine this_op (.load 50 (.tmp 42)) ?_); refine wpList_at rfl 50 (.tmp 42) rfl (b.add (j * 2)) rfl _ _ hrb7 Try.underlying50 rfl cs_size ?_)
                           | ((with_reducible refine this_op (.store 50 (.tmp 7) (.tmp 43)) ?_); refine wpList_store_row rfl 50 (.tmp 7) (.tmp 43) rfl W7.heap.size _ rfl rfl 50 _ (Blk.new W7 _ _) cs_size rfl ob ?_
                              obtain ⟨W8, hW8⟩ : ∃ W8, (W7.alloc (.cells #[.int .i64 0, .slice none 0 0] 50)).setRow W7.heap.size #[.int .i64 f2, .slice B2 g2 k3] = W8 := ⟨_, rfl⟩
                              have hu8 : Upd nob W7 W8 := by rw [← hW8]; exact ((Upd.refl nob W7).alloc _).setRow (.inr (Nat.le_refl _)) _
                              have hb8 : Blk W8 W7.heap.size 50 #[.int .i64 f2, .slice B2 g2 k3] := by rw [← hW8]; exact (Blk.new W7 _ _).row _
                              rw [hW8]
                              clear hW8
                              have hb78 := HB7.out.upd hu8 (fun f => f)
                              have s0 : W8.cell? ⟨wr.heap.size, 0, none⟩ = some (.int .i64 f1) := hb78.cell 0
                              have s1 : W8.cell? ⟨wr.heap.size, 1, none⟩ = some (.slice A2 g1 k2) := hb78.cell 1
                              have s2 : W8.cell? ⟨W7.heap.size, 0, none⟩ = some (.int .i64 f2) := hb8.cell 0
                              have s3 : W8.cell? ⟨W7.heap.size, 1, none⟩ = some (.slice B2 g2 k3) := hb8.cell 1
                              have hlt7 := hb78.lt
                              have hlt8 := hb8.lt
                              clear hb78 hb8))
         go_ret
         exact ⟨rfl, ((hu0r.trans hu7).trans hu8).below⟩
       have t2 : decide ((j : Int) < n) = false := by simp; omega
       have hdx := HDX.out
       rw [List.drop_eq_nil_of_le (by rw [HN.out]; omega), List.drop_eq_nil_of_le (by rw [HM.out]; omega)] at hdx
       have e : X = true := by rw [← hdx]; simp
       subst e
       clear hdx HDX
       go_wp2_with fail
       go_ret
       exact ⟨rfl, hu0r.below⟩
    have t2 : ((n : Int) != m) = true := by simp; omega
    have e : X = false := by
     rw [← HX3.out]
     have : as_ ≠ bs := fun h => hnm (by rw [← HN.out, ← HM.out, h])
     simp [this]
    subst e
    clear HX3 hnm
    go_wp2_with fail
    go_ret
    exact ⟨rfl, hu03.below⟩
 have t1 : (i1 != i2) = true := by simpa using hi
 have e : X = false := by rw [← HX.out]; simp [hi]
 subst e
 clear HX hi
 go_enter Try.func12, Try.ntmps12
 go_wp2_with fail
 go_ret
 rw [HW1.out]
 exact ⟨rfl, huW1.below⟩
end Go.Proofs.Ytiampoebdmflgaa
/- The law's light; the reference's Sort, Bind. -/
namespace Go.Proofs.Ytiampoebdmflgaa
open Go.RowKit
set_option linter.unusedVariables false
set_option maxRecDepth 100000
set_option maxHeartbeats 4000000
set_option linter.unusedSimpArgs false
theorem light_any (dk : Int) (nm : ByteArray) (vs pa : Int) (a0 a1 a2 a3 a4 a5 a6 a7 b0 b1 b2 b3 b4 b5 b6 b7 : Value) (cA : Option Addr) (M cc : Nat) (w : World) :
    Calls Try.prog 8 #[.slice none 0 0, .agg #[.int .i64 dk, .string nm, .int .i64 vs, a0, a1, a2, a3, a4, a5, a6, a7, b0, b1, b2, b3, b4, b5, b6, b7, .int .i64 pa, .slice cA M cc]] w fun e w' => e = .returned (.bool (decide ((M : Int) ≤ 20))) ∧ Below w.heap.size w w' := by
 by_cases hM : M ≤ 20
 · have t1 : decide ((M : Int) ≤ 20) = true := by simp; omega
   rw [t1]
   go_enter Try.func8, Try.ntmps8
   go_wp2_with fail
   refine wp_loop_once ?_
   go_wp2_with fail
   go_ret
   exact ⟨rfl, ((Upd.refl nob w).alloc _).below⟩
 have t1 : decide ((M : Int) ≤ 20) = false := by simp; omega
 rw [t1]
 go_enter Try.func8, Try.ntmps8
 go_wp2_with fail
 refine wp_loop_once ?_
 go_wp2_with fail
 go_ret
 exact ⟨rfl, ((Upd.refl nob w).alloc _).below⟩
theorem rsort_any (k n : Int) (A : Option Addr) (q c : Nat) (w : World) :
    Calls Try.prog 20 #[.agg #[.int .i64 k, .int .i64 n, .slice A q c]] w fun e w' => e = .returned (.agg #[.int .i64 2, .int .i64 0, .string ByteArray.empty, .int .i64 k, .int .i64 n, .slice A q c, .slice none 0 0, .slice none 0 0]) ∧ Below w.heap.size w w' := by
 have hz := tm_zero
 go_enter Try.func20, Try.ntmps20
 go_wp2
 have hb := Blk.new (w.alloc (.cells #[.int .i64 k, .int .i64 n, .slice A q c] 24)) 27 #[.int .i64 2, .int .i64 0, .string ByteArray.empty, .int .i64 k, .int .i64 n, .slice A q c, .slice none 0 0, .slice none 0 0]
 rw [World.size_alloc] at hb
 refine bodyPost_ret (results_cell_row rfl _ _ (w.heap.size + 1) 27 #[.int .i64 2, .int .i64 0, .string ByteArray.empty, .int .i64 k, .int .i64 n, .slice A q c, .slice none 0 0, .slice none 0 0] (0, 0) _ rfl hb Try.underlying27 rfl tm_size) rfl ?_
 exact ⟨rfl, (((Upd.refl nob w).alloc _).alloc _).below⟩
end Go.Proofs.Ytiampoebdmflgaa
/- Plain law: the program's sums of levels and the reference's forms. -/
namespace Go.Proofs.Ytiampoebdmflgaa
open Go.RowKit
set_option linter.unusedVariables false
set_option maxHeartbeats 1000000
def Nm.Tidy (n : Nm) : Prop := ∀ h : n.ks ≠ [], 0 ≤ n.ks.getLast h
theorem trimN_full {ks : List Int} (h : ∀ hh : ks ≠ [], 0 ≤ ks.getLast hh) : trimN ks ks.length = ks.length := by
 cases hl : ks.length with
 | zero => rfl
 | succ m =>
  have hne : ks ≠ [] := fun h0 => by rw [h0] at hl; cases hl
  have h1 := h hne
  rw [trimN]
  have h2 : ks.getD m 0 = ks.getLast hne := by
   rw [List.getLast_eq_getElem, List.getD_eq_getElem?_getD, List.getElem?_eq_getElem (by omega)]
   simp only [Option.getD_some]
   congr 1
   omega
  rw [h2, if_neg (by omega)]
theorem Nm.tks_full {n : Nm} (h : n.Tidy) : n.tks = n.ks := by
 unfold Nm.tks
 rw [trimN_full h, List.take_length]
def cov (c : Int) (l : List Int) : Bool := l.any fun x => decide (c ≤ x)
theorem cov_iff {c : Int} {l : List Int} : cov c l = true ↔ ∃ x ∈ l, c ≤ x := by simp [cov]
theorem fold_cov : ∀ (l : List Int) (c : Int), 0 ≤ c → (l.foldl tstep c = if cov c l = true then 0 else c)
 | [], c, _ => by simp [cov]
 | x :: l, c, hc => by
  rw [List.foldl_cons, tstep]
  by_cases h : c ≤ x
  · rw [if_pos h, fold_cov l 0 (Int.le_refl _), if_pos (cov_iff.2 ⟨x, List.mem_cons_self, h⟩)]
    split <;> rfl
  have e : cov c (x :: l) = cov c l := by simp [cov, h]
  rw [if_neg h, fold_cov l c hc, e]
theorem foldl_max_le : ∀ (l : List Int) (x c : Int), c ≤ l.foldl max x ↔ c ≤ x ∨ cov c l = true
 | [], x, c => by simp [cov]
 | y :: l, x, c => by
  rw [List.foldl_cons, foldl_max_le l (max x y) c]
  have e : cov c (y :: l) = true ↔ c ≤ y ∨ cov c l = true := by simp [cov]
  rw [e]
  constructor
  · rintro (h | h)
    · by_cases h2 : c ≤ x
      · exact .inl h2
      exact .inr (.inl (by omega))
    exact .inr (.inr h)
  rintro (h | h | h)
  · exact .inl (by omega)
  · exact .inl (by omega)
  exact .inr h
theorem lmax_cov {l : List Int} {c : Int} (h : l ≠ []) : c ≤ lmax l ↔ cov c l = true := by
 cases l with
 | nil => exact absurd rfl h
 | cons x xs =>
  have e : cov c (x :: xs) = true ↔ c ≤ x ∨ cov c xs = true := by simp [cov]
  rw [e]
  exact foldl_max_le xs x c
theorem Nm.short_eq {n : Nm} (h : n.Tidy) : n.short = ⟨if cov n.c n.ks = true then 0 else n.c, n.ks⟩ := by
 unfold Nm.short
 rw [trimN_full h, List.take_length]
 by_cases hne : n.ks = []
 · rw [if_neg (fun hh => hh.1 hne), if_neg (by rw [hne]; simp [cov])]
 by_cases hc : n.c ≤ lmax n.ks
 · rw [if_pos ⟨hne, hc⟩, if_pos ((lmax_cov hne).1 hc)]
 rw [if_neg (fun hh => hc hh.2), if_neg (fun hh => hc ((lmax_cov hne).2 hh))]
theorem Nm.tidy_eq {n : Nm} (h : n.Tidy) (h0 : 0 ≤ n.c) : n.tidy = ⟨if cov n.c n.ks = true then 0 else n.c, n.ks⟩ := by
 unfold Nm.tidy
 rw [Nm.tks_full h, fold_cov _ _ h0]
theorem rplus1_eq (k : Int) : rplus1 k = plus1 k := by
 funext x
 unfold rplus1 plus1
 split
 · omega
 rfl
theorem Nm.Tidy.map {n : Nm} (h : n.Tidy) {k : Int} (hk : 0 ≤ k) (c : Int) : (Nm.mk c (n.ks.map (plus1 k))).Tidy := by
 intro hne
 have hne0 : n.ks ≠ [] := fun h0 => hne (by simp [h0])
 have h1 := h hne0
 simp only [List.getLast_map]
 unfold plus1
 rw [if_pos h1]
 omega
theorem cov_last {n : Nm} (h : n.Tidy) (hne : n.ks ≠ []) : cov 0 n.ks = true := cov_iff.2 ⟨_, List.getLast_mem hne, h hne⟩
theorem cov_map {c k : Int} {l : List Int} (hc : 0 ≤ c) (h : cov c l = true) : cov (min 1099511627776 (c + k)) (l.map (plus1 k)) = true := by
 obtain ⟨x, hx, h2⟩ := cov_iff.1 h
 refine cov_iff.2 ⟨plus1 k x, List.mem_map_of_mem hx, ?_⟩
 unfold plus1
 rw [if_pos (by omega)]
 omega
theorem Nm.short_plus {n : Nm} (h : n.Tidy) (hok : n.Ok) {k : Int} (hk : 1 ≤ k) : n.short.rplus k = (n.plus k).short := by
 have hc := hok.1.1
 have hT : (n.plus k).Tidy := h.map (by omega) _
 have hTm : ∀ c, (Nm.mk c (n.ks.map (plus1 k))).Tidy := fun c => h.map (by omega) c
 have eS : n.short.c = if cov n.c n.ks = true then 0 else n.c := by rw [Nm.short_eq h]
 have eK : n.short.ks = n.ks := by rw [Nm.short_eq h]
 obtain ⟨S, hS⟩ : ∃ S, n.short.c = S := ⟨_, rfl⟩
 have eL : n.short.rplus k = (Nm.mk (if n.ks = [] ∨ 0 < S then min (S + k) 1099511627776 else S) (n.ks.map (plus1 k))).tidy := by
  unfold Nm.rplus Nm.rpl
  rw [rplus1_eq, hS, eK]
 have eR : (n.plus k).short = ⟨if cov (min 1099511627776 (n.c + k)) (n.ks.map (plus1 k)) = true then 0 else min 1099511627776 (n.c + k), n.ks.map (plus1 k)⟩ := Nm.short_eq hT
 rw [eL, eR]
 rw [hS] at eS
 by_cases hne : n.ks = []
 · have e1 : cov n.c n.ks = false := by rw [hne]; rfl
   rw [e1] at eS
   have e2 : S = n.c := eS
   subst e2
   rw [if_pos (.inl hne), Nm.tidy_eq (hTm _) (by show 0 ≤ min (n.c + k) 1099511627776; omega)]
   have e3 : min (n.c + k) 1099511627776 = min 1099511627776 (n.c + k) := by omega
   rw [e3]
 cases hcv : cov n.c n.ks with
 | true =>
  rw [hcv] at eS
  have e2 : S = 0 := eS
  subst e2
  rw [if_neg (fun hh => hh.elim hne (fun h2 => by omega)), Nm.tidy_eq (hTm _) (Int.le_refl _), if_pos (cov_map hc hcv)]
  simp only
  congr 1
  split <;> rfl
 | false =>
  have hc0 : 0 < n.c := by
   rcases Int.lt_or_eq_of_le hc with h1 | h1
   · exact h1
   rw [← h1, cov_last h hne] at hcv; cases hcv
  rw [hcv] at eS
  have e2 : S = n.c := eS
  subst e2
  rw [if_pos (.inr hc0), Nm.tidy_eq (hTm _) (by show 0 ≤ min (n.c + k) 1099511627776; omega)]
  have e3 : min (n.c + k) 1099511627776 = min 1099511627776 (n.c + k) := by omega
  rw [e3]
theorem orK_short {n m : Nm} (h : n.Tidy) (k : m.Tidy) : orK n.short m.short = orK n m := by
 rw [Nm.short_eq h, Nm.short_eq k]
 rfl
theorem mem_at {n : Nm} {x : Int} (h : x ∈ n.ks) : ∃ i, i < n.ks.length ∧ n.at_ i = x := by
 obtain ⟨i, hi, rfl⟩ := List.getElem_of_mem h
 exact ⟨i, hi, by unfold Nm.at_; simp [hi]⟩
theorem orK_left {n m : Nm} {x : Int} (h : x ∈ n.ks) : ∃ y ∈ orK n m, x ≤ y := by
 obtain ⟨i, hi, rfl⟩ := mem_at h
 exact ⟨max (n.at_ i) (m.at_ i), List.mem_map.2 ⟨i, List.mem_range.2 (by omega), rfl⟩, by omega⟩
theorem orK_right {n m : Nm} {x : Int} (h : x ∈ m.ks) : ∃ y ∈ orK n m, x ≤ y := by
 obtain ⟨i, hi, rfl⟩ := mem_at h
 exact ⟨max (n.at_ i) (m.at_ i), List.mem_map.2 ⟨i, List.mem_range.2 (by omega), rfl⟩, by omega⟩
theorem at_last {n : Nm} (hne : n.ks ≠ []) : n.at_ (n.ks.length - 1) = n.ks.getLast hne := by
 have hp := List.length_pos_iff.2 hne
 unfold Nm.at_
 rw [List.getLast_eq_getElem, List.getD_eq_getElem?_getD, List.getElem?_eq_getElem (by omega)]
 rfl
theorem or_tidy {n m : Nm} (h : n.Tidy) (k : m.Tidy) (c : Int) : (Nm.mk c (orK n m)).Tidy := by
 intro hne
 have hl : (orK n m).length = max n.ks.length m.ks.length := by simp [orK]
 have hp : 0 < (orK n m).length := List.length_pos_iff.2 hne
 rw [List.getLast_eq_getElem]
 have e : (orK n m)[(orK n m).length - 1]'(by omega) = max (n.at_ ((orK n m).length - 1)) (m.at_ ((orK n m).length - 1)) := by
  simp [orK]
 show 0 ≤ (orK n m)[(orK n m).length - 1]'(by omega)
 rw [e, hl]
 by_cases hnm : m.ks.length ≤ n.ks.length
 · have hn : n.ks ≠ [] := fun h0 => by rw [h0] at hnm hl; simp at hnm hl; rw [hnm] at hl; simp at hl; rw [hl] at hp; simp at hp
   have e2 : max n.ks.length m.ks.length = n.ks.length := by omega
   rw [e2, at_last hn]
   have := h hn; omega
 have hm : m.ks ≠ [] := fun h0 => by rw [h0] at hnm; simp at hnm
 have e2 : max n.ks.length m.ks.length = m.ks.length := by omega
 rw [e2, at_last hm]
 have := k hm; omega
theorem Nm.short_or {n m : Nm} (h : n.Tidy) (k : m.Tidy) (hn : n.Ok) (hm : m.Ok) : n.short.rboth m.short = (n.or m).short := by
 have hc := hn.1.1
 have hd := hm.1.1
 rw [Nm.short_eq (n := n.or m) (or_tidy h k _)]
 unfold Nm.rboth Nm.or
 rw [orK_short h k]
 have eC : n.short.c = if cov n.c n.ks = true then 0 else n.c := by rw [Nm.short_eq h]
 have eD : m.short.c = if cov m.c m.ks = true then 0 else m.c := by rw [Nm.short_eq k]
 have bC : 0 ≤ n.short.c ∧ n.short.c ≤ n.c := by rw [eC]; split <;> omega
 have bD : 0 ≤ m.short.c ∧ m.short.c ≤ m.c := by rw [eD]; split <;> omega
 rw [Nm.tidy_eq (or_tidy h k _) (by show 0 ≤ max n.short.c m.short.c; omega)]
 simp only
 cases hcv : cov (max n.c m.c) (orK n m) with
 | true =>
  obtain ⟨x, hx, h2⟩ := cov_iff.1 hcv
  rw [if_pos (cov_iff.2 ⟨x, hx, by omega⟩), if_pos rfl]
 | false =>
  have hno : ∀ x ∈ orK n m, ¬ max n.c m.c ≤ x := fun x hx h2 => by rw [cov_iff.2 ⟨x, hx, h2⟩] at hcv; cases hcv
  have e : max n.short.c m.short.c = max n.c m.c := by
   by_cases hcd : m.c ≤ n.c
   · have e1 : cov n.c n.ks = false := by
       cases h3 : cov n.c n.ks with
       | false => rfl
       | true =>
        obtain ⟨x, hx, h2⟩ := cov_iff.1 h3
        obtain ⟨y, hy, h4⟩ := orK_left (m := m) hx
        exact absurd (by omega) (hno y hy)
     rw [e1, if_neg (by decide)] at eC
     omega
   · have e1 : cov m.c m.ks = false := by
       cases h3 : cov m.c m.ks with
       | false => rfl
       | true =>
        obtain ⟨x, hx, h2⟩ := cov_iff.1 h3
        obtain ⟨y, hy, h4⟩ := orK_right (n := n) hx
        exact absurd (by omega) (hno y hy)
     rw [e1, if_neg (by decide)] at eD
     omega
  rw [e, hcv]
theorem lof_good (l : Lv) : LOk l → (lof [] l).Ok ∧ (lof [] l).Tidy ∧ rnorm l = (lof [] l).short := by
 induction l using Lv.ind with
 | h k n ks ih =>
  intro hok
  simp only [LOk] at hok
  obtain ⟨hr, hoks⟩ := hok
  rcases lright_cases hr with ⟨h1, h0, hn0, hn1⟩ | ⟨h1, h0, hn0, hn1⟩ | ⟨h1, h0, hn0, hn1⟩ | ⟨h1, h0⟩
  · subst h1
    have e : lof [] (.mk 1 n ks) = ⟨n, []⟩ := by rw [lof, if_pos rfl]
    have hT : (Nm.mk n []).Tidy := fun h => absurd rfl h
    rw [e]
    refine ⟨⟨⟨hn0, hn1⟩, fun x hx => (by cases hx), by simp⟩, hT, ?_⟩
    rw [rnorm, if_pos rfl, Nm.short_eq hT]
    rfl
  · subst h1
    have e : lof [] (.mk 2 n ks) = ⟨0, List.replicate n.toNat (-1) ++ [0]⟩ := by
     rw [lof, if_neg (by decide), if_neg (by decide), if_neg (by decide)]
     rfl
    have hT : (Nm.mk 0 (List.replicate n.toNat (-1) ++ [0])).Tidy := fun h => by simp
    rw [e]
    refine ⟨⟨⟨by show (0 : Int) ≤ 0; omega, by show (0 : Int) ≤ 1099511627776; omega⟩, fun x hx => ?_, ?_⟩, hT, ?_⟩
    · rcases List.mem_append.1 hx with hx | hx
      · rw [List.eq_of_mem_replicate hx]; omega
      rw [List.mem_singleton.1 hx]; omega
    · show (List.replicate n.toNat (-1 : Int) ++ [0]).length ≤ 1001
      simp; omega
    rw [rnorm, if_neg (by decide), if_pos rfl, Nm.short_eq hT]
    simp only
    congr 1
    split <;> rfl
  · subst h1
    have hk0 : 0 < ks.length := by omega
    obtain ⟨g1, g2, g3⟩ := ih ks[0] (List.getElem_mem hk0) (hoks.mem _ (List.getElem_mem hk0))
    have e : lof [] (.mk 3 n ks) = (lof [] ks[0]).plus n := by rw [lof, if_neg (by decide), if_pos rfl, lofs_get [] ks 0 hk0]
    rw [e]
    refine ⟨Nm.plus_ok g1 (by omega), g2.map (by omega) _, ?_⟩
    rw [rnorm, if_neg (by decide), if_neg (by decide), if_pos rfl, rnormi_get ks 0 hk0, g3, Nm.short_plus g2 g1 hn0]
  subst h1
  have hk0 : 0 < ks.length := by omega
  have hk1 : 1 < ks.length := by omega
  obtain ⟨g1, g2, g3⟩ := ih ks[0] (List.getElem_mem hk0) (hoks.mem _ (List.getElem_mem hk0))
  obtain ⟨j1, j2, j3⟩ := ih ks[1] (List.getElem_mem hk1) (hoks.mem _ (List.getElem_mem hk1))
  have e : lof [] (.mk 4 n ks) = (lof [] ks[0]).or (lof [] ks[1]) := by rw [lof, if_neg (by decide), if_neg (by decide), if_pos rfl, lofs_get [] ks 0 hk0, lofs_get [] ks 1 hk1]
  rw [e]
  refine ⟨Nm.or_ok g1 j1, or_tidy g2 j2 _, ?_⟩
  rw [rnorm, if_neg (by decide), if_neg (by decide), if_neg (by decide), rnormi_get ks 0 hk0, rnormi_get ks 1 hk1, g3, j3, Nm.short_or g2 j2 g1 j1]
theorem wrap_small {c : Nat} (h : c ≤ 1000) : wrap64 ((c : Int) + 1) = ((c + 1 : Nat) : Int) := by unfold wrap64; omega
mutual
theorem snd_same : ∀ (l : Lv) (d c : Nat), c ≤ 1000 → ((lwalk sndStep l d c).1 = 0 ↔ (rsnd l d c).1 = true) ∧ ((rsnd l d c).1 = true → (lwalk sndStep l d c).2 = ((rsnd l d c).2 : Int))
 | .mk k n ks, d, c, hc => by
  have hw := wrap_small hc
  rw [lwalk, rsnd]
  by_cases h1 : 256 < d ∨ 1000 < c + 1 ∨ lar k < 0 ∨ (ks.length : Int) ≠ lar k
  · rw [if_pos h1]
    have hb : 1000 < wrap64 ((c : Int) + 1) ∨ (256 : Int) < (d : Int) ∨ lright 1099511627776 1000 k n ks.length = false := by
     rcases h1 with h | h | h | h
     · exact .inr (.inl (by omega))
     · rw [hw]; exact .inl (by omega)
     · refine .inr (.inr ?_)
       unfold lright
       have : ((ks.length : Int) != lar k) = true := by simp; omega
       rw [this]; rfl
     refine .inr (.inr ?_)
     unfold lright
     have : ((ks.length : Int) != lar k) = true := by simpa using h
     rw [this]; rfl
    have hs : (sndStep (c : Int) (.mk k n ks) (d : Int)).1 = 1 := by unfold sndStep; exact if_pos hb
    rw [if_neg (by rw [hs]; decide), hs]
    exact ⟨by constructor <;> (intro h; cases h), fun h => by cases h⟩
  rw [if_neg h1]
  have hlen : ((ks.length : Int) != lar k) = false := by
   have : (ks.length : Int) = lar k := by omega
   simpa using this
  have hd : ¬ (256 : Int) < (d : Int) := by omega
  have hc2 : ¬ 1000 < wrap64 ((c : Int) + 1) := by rw [hw]; omega
  have hs2 : (sndStep (c : Int) (.mk k n ks) (d : Int)).2 = ((c + 1 : Nat) : Int) := hw
  have hs1 : ∀ b, lright 1099511627776 1000 k n ks.length = b → (sndStep (c : Int) (.mk k n ks) (d : Int)).1 = if b = false then 1 else 0 := fun b hb => by
   unfold sndStep
   cases b with
   | false => exact (if_pos (.inr (.inr hb))).trans (if_pos rfl).symm
   | true => exact (if_neg (fun h => by
       rcases h with h | h | h
       · exact hc2 h
       · exact hd h
       exact Bool.noConfusion (hb.symm.trans h))).trans (if_neg (by decide)).symm
  have hdd : ((d : Int) + 1) = ((d + 1 : Nat) : Int) := by omega
  have nil0 : ks = [] → ∀ (s : Int), lwalks sndStep ks ((d : Int) + 1) s = (0, s) := fun h s => by rw [h, lwalks]
  by_cases h2 : k = 1
  · have hks : ks = [] := List.eq_nil_of_length_eq_zero (by have : lar k = 0 := by rw [h2]; rfl
                                                            omega)
    rw [if_pos h2]
    have hl : lright 1099511627776 1000 k n ks.length = (decide (0 ≤ n) && decide (n ≤ 1099511627776)) := by unfold lright; rw [hlen, if_pos h2]; rfl
    have h9 := hs1 _ hl
    cases hb : (decide (0 ≤ n) && decide (n ≤ 1099511627776)) with
    | true =>
     rw [hb] at h9
     have h8 : (sndStep (c : Int) (.mk k n ks) (d : Int)).1 = 0 := h9
     rw [if_pos h8, nil0 hks, hs2]
     exact ⟨⟨fun _ => rfl, fun _ => rfl⟩, fun _ => rfl⟩
    | false =>
     rw [hb] at h9
     have h8 : (sndStep (c : Int) (.mk k n ks) (d : Int)).1 = 1 := h9
     rw [if_neg (by rw [h8]; decide), h8]
     exact ⟨by constructor <;> (intro h; cases h), fun h => by cases h⟩
  rw [if_neg h2]
  by_cases h3 : k = 2
  · have hks : ks = [] := List.eq_nil_of_length_eq_zero (by have : lar k = 0 := by rw [h3]; rfl
                                                            omega)
    rw [if_pos h3]
    have hl : lright 1099511627776 1000 k n ks.length = (decide (0 ≤ n) && decide (n ≤ 1000)) := by unfold lright; rw [hlen, if_neg h2, if_neg (by omega), if_pos h3]; rfl
    have h9 := hs1 _ hl
    cases hb : (decide (0 ≤ n) && decide (n ≤ 1000)) with
    | true =>
     rw [hb] at h9
     have h8 : (sndStep (c : Int) (.mk k n ks) (d : Int)).1 = 0 := h9
     rw [if_pos h8, nil0 hks, hs2]
     exact ⟨⟨fun _ => rfl, fun _ => rfl⟩, fun _ => rfl⟩
    | false =>
     rw [hb] at h9
     have h8 : (sndStep (c : Int) (.mk k n ks) (d : Int)).1 = 1 := h9
     rw [if_neg (by rw [h8]; decide), h8]
     exact ⟨by constructor <;> (intro h; cases h), fun h => by cases h⟩
  rw [if_neg h3]
  by_cases h4 : k = 3 ∧ (n < 1 ∨ 1099511627776 < n)
  · rw [if_pos h4]
    have hl : lright 1099511627776 1000 k n ks.length = false := by
     unfold lright
     rw [hlen, if_neg h2, if_pos h4.1]
     have : ¬ (1 ≤ n ∧ n ≤ 1099511627776) := by omega
     simp; omega
    have h8 : (sndStep (c : Int) (.mk k n ks) (d : Int)).1 = 1 := hs1 _ hl
    rw [if_neg (by rw [h8]; decide), h8]
    exact ⟨by constructor <;> (intro h; cases h), fun h => by cases h⟩
  rw [if_neg h4]
  have hl : lright 1099511627776 1000 k n ks.length = true := by
   unfold lright
   rw [hlen, if_neg h2]
   by_cases h5 : k = 3
   · rw [if_pos h5]
     have : ¬ (n < 1 ∨ 1099511627776 < n) := fun hh => h4 ⟨h5, hh⟩
     simp; omega
   rw [if_neg h5, if_neg h3]; rfl
  have h8 : (sndStep (c : Int) (.mk k n ks) (d : Int)).1 = 0 := hs1 _ hl
  rw [if_pos h8, hs2, hdd]
  exact snds_same ks d (c + 1) (by omega)
theorem snds_same : ∀ (l : List Lv) (d c : Nat), c ≤ 1000 → ((lwalks sndStep l ((d + 1 : Nat) : Int) c).1 = 0 ↔ (rsnds l d c).1 = true) ∧ ((rsnds l d c).1 = true → (lwalks sndStep l ((d + 1 : Nat) : Int) c).2 = ((rsnds l d c).2 : Int))
 | [], d, c, _ => by rw [lwalks, rsnds]; exact ⟨⟨fun _ => rfl, fun _ => rfl⟩, fun _ => rfl⟩
 | l :: ls, d, c, hc => by
  rw [lwalks, rsnds]
  obtain ⟨g1, g2⟩ := snd_same l (d + 1) c hc
  by_cases h : (rsnd l (d + 1) c).1 = true
  · rw [if_pos h, if_pos (g1.2 h), g2 h]
    exact snds_same ls d _ (rsnd_le l (d + 1) c h)
  rw [if_neg h, if_neg (fun hh => h (g1.1 hh))]
  exact ⟨⟨fun hh => absurd (g1.1 hh) h, fun hh => by cases hh⟩, fun hh => by cases hh⟩
end
theorem lsnd_eq (l : Lv) : lsnd l = rsound l := by
 have h := (snd_same l 1 0 (by omega)).1
 unfold lsnd rsound
 cases hr : (rsnd l 1 0).1 with
 | true => have := h.2 hr; simp only [beq_iff_eq]; exact this
 | false =>
  cases hl : (lwalk sndStep l 1 0).1 == 0 with
  | false => rfl
  | true =>
   have h2 := h.1 (by simpa using hl)
   rw [hr] at h2; cases h2
theorem leq_eq (a b : Lv) : leq a b = req a b := by
 unfold leq req
 rw [lsnd_eq, lsnd_eq]
 cases ha : rsound a with
 | false => rfl
 | true =>
  cases hb : rsound b with
  | false => rfl
  | true => rw [(lof_good a (lok_of_rsound ha)).2.2, (lof_good b (lok_of_rsound hb)).2.2]
end Go.Proofs.Ytiampoebdmflgaa
/- Plain law: the program's terms and the reference's: great. -/
namespace Go.Proofs.Ytiampoebdmflgaa
open Go.RowKit
set_option linter.unusedVariables false
set_option maxHeartbeats 1000000
set_option maxRecDepth 100000
theorem rcnts_c : ∀ (i : Nat) (l : List Tm) (d c : Nat), (rcnts i l d c).1 = true → c ≤ 20000 ∧ (rcnts i l d c).2 ≤ 20000
 | 0, _, _, c, h => by rw [rcnts] at h ⊢; have : c ≤ 20000 := by simpa using h
                       exact ⟨this, this⟩
 | _ + 1, [], _, c, h => by rw [rcnts] at h ⊢; have : c ≤ 20000 := by simpa using h
                            exact ⟨this, this⟩
 | i + 1, t :: l, d, c, h => by
  rw [rcnts] at h ⊢
  by_cases h1 : 20000 < c
  · rw [if_pos h1] at h; cases h
  rw [if_neg h1] at h ⊢
  by_cases h2 : (rcnt t (d + 1) c).1 = true
  · rw [if_pos h2] at h ⊢
    exact ⟨by omega, (rcnts_c i l d _ h).2⟩
  rw [if_neg h2] at h; cases h
theorem nk_leaf {k : Int} {m : Nat} (h : rlf k m = true) : nk k m = 0 := by
 unfold rlf at h
 unfold nk
 have hb := tar_le k
 by_cases h1 : (m : Int) < tar k
 · rw [if_pos h1]
 rw [if_neg h1]
 have : tar k < 0 := by simpa [h1] using h
 omega
theorem nk_node {k : Int} {m : Nat} (h : rlf k m = false) : nk k m = (tar k).toNat := by
 unfold rlf at h
 unfold nk
 rw [if_neg]
 simp at h
 omega
theorem wrap20 {c : Nat} (h : c ≤ 20001) : wrap64 ((c : Int) + 1) = ((c + 1 : Nat) : Int) := by unfold wrap64; omega
mutual
theorem cnt_same : ∀ (t : Tm) (d c : Nat) (b e : Int), c ≤ 20000 →
    ((tfold mStep t d b ((c : Int), e)).1 = true → (rcnt t d c).1 = true ∧ (tfold mStep t d b ((c : Int), e)).2.1 = ((rcnt t d c).2 : Int) ∧ (rcnt t d c).2 ≤ 20000) ∧
    ((rcnt t d c).1 = true → (rcnt t d c).2 ≤ 20000 → (tfold mStep t d b ((c : Int), e)).1 = true)
 | .mk k n nm lv ls ks, d, c, b, e, hc => by
  have hw := wrap20 (c := c) (by omega)
  have hdd : ((d : Int) + 1) = ((d + 1 : Nat) : Int) := by omega
  rw [tfold, rcnt]
  have hs1 : (mStep ((c : Int), e) (.mk k n nm lv ls ks) (d : Int) b).1 = (decide (c + 1 ≤ 20000) && decide (d ≤ 2000)) := by
   show (decide (wrap64 ((c : Int) + 1) ≤ 20000) && decide ((d : Int) ≤ 2000)) = _
   have a1 : decide (((c + 1 : Nat) : Int) ≤ 20000) = decide (c + 1 ≤ 20000) := decide_eq_decide.2 (by omega)
   have a2 : decide ((d : Int) ≤ 2000) = decide (d ≤ 2000) := decide_eq_decide.2 (by omega)
   rw [hw, a1, a2]
  have hs2 : (mStep ((c : Int), e) (.mk k n nm lv ls ks) (d : Int) b).2 = (((c + 1 : Nat) : Int), max e (d : Int)) := by
   show (wrap64 ((c : Int) + 1), max e (d : Int)) = _
   rw [hw]
  rw [hs1, hs2, hdd]
  by_cases h1 : c + 1 ≤ 20000 ∧ d ≤ 2000
  · obtain ⟨h1, h2⟩ := h1
    have e1 : (decide (c + 1 ≤ 20000) && decide (d ≤ 2000)) = true := by simp [h1, h2]
    rw [if_pos e1, if_neg (by omega)]
    cases hl : rlf k ks.length with
    | true =>
     rw [if_pos rfl, nk_leaf hl]
     have ht := tfolds_end mStep k 0 ks ((d + 1 : Nat) : Int) b (((c + 1 : Nat) : Int), max e (d : Int))
     rw [List.drop_zero] at ht
     rw [ht]
     exact ⟨fun _ => ⟨rfl, rfl, h1⟩, fun _ _ => rfl⟩
    | false =>
     rw [if_neg (by decide), nk_node hl]
     obtain ⟨g1, g2⟩ := cnts_same ks k (tar k).toNat 0 d (c + 1) b (max e (d : Int)) h1
     rw [Nat.sub_zero] at g1 g2
     exact ⟨g1, fun h _ => g2 h⟩
  have e1 : (decide (c + 1 ≤ 20000) && decide (d ≤ 2000)) = false := by
    by_cases h2 : c + 1 ≤ 20000
    · have h3 : ¬ d ≤ 2000 := fun h => h1 ⟨h2, h⟩
      simp [h3]
    simp [h2]
  rw [e1, if_neg (by decide)]
  refine ⟨fun h => (by cases h), fun h h9 => ?_⟩
  by_cases h2 : 2000 < d
  · rw [if_pos h2] at h; cases h
  rw [if_neg h2] at h h9
  exfalso
  have h3 : ¬ c + 1 ≤ 20000 := fun h4 => h1 ⟨h4, by omega⟩
  cases hl : rlf k ks.length with
  | true => rw [hl, if_pos rfl] at h9; simp only at h9; omega
  | false =>
   rw [hl, if_neg (by decide)] at h
   have := (rcnts_c _ _ _ _ h).1
   omega
theorem cnts_same : ∀ (l : List Tm) (k : Int) (N i d c : Nat) (b e : Int), c ≤ 20000 →
    ((tfolds mStep k N l i ((d + 1 : Nat) : Int) b ((c : Int), e)).1 = true → (rcnts (N - i) l d c).1 = true ∧ (tfolds mStep k N l i ((d + 1 : Nat) : Int) b ((c : Int), e)).2.1 = ((rcnts (N - i) l d c).2 : Int) ∧ (rcnts (N - i) l d c).2 ≤ 20000) ∧
    ((rcnts (N - i) l d c).1 = true → (tfolds mStep k N l i ((d + 1 : Nat) : Int) b ((c : Int), e)).1 = true)
 | [], k, N, i, d, c, b, e, hc => by
  rw [tfolds]
  have hr : rcnts (N - i) [] d c = (true, c) := by
   cases N - i with
   | zero => rw [rcnts, decide_eq_true hc]
   | succ m => rw [rcnts, decide_eq_true hc]
  rw [hr]
  exact ⟨fun _ => ⟨rfl, rfl, hc⟩, fun _ => rfl⟩
 | t :: l, k, N, i, d, c, b, e, hc => by
  rw [tfolds]
  by_cases hi : i < N
  · obtain ⟨m, hm⟩ : ∃ m, N - i = m + 1 := ⟨N - i - 1, by omega⟩
    have hm2 : N - (i + 1) = m := by omega
    have hnc : ¬ 20000 < c := by omega
    rw [if_pos hi, hm, rcnts, if_neg hnc]
    obtain ⟨g1, g2⟩ := cnt_same t (d + 1) c (b + bnd k i) e hc
    by_cases hf : (tfold mStep t ((d + 1 : Nat) : Int) (b + bnd k i) ((c : Int), e)).1 = true
    · obtain ⟨r1, r2, r3⟩ := g1 hf
      rw [if_pos hf, if_pos r1]
      obtain ⟨s1, hs1⟩ : ∃ s, (tfold mStep t ((d + 1 : Nat) : Int) (b + bnd k i) ((c : Int), e)).2 = s := ⟨_, rfl⟩
      obtain ⟨sa, sb⟩ := s1
      rw [hs1] at r2 ⊢
      simp only at r2
      subst r2
      have := cnts_same l k N (i + 1) d (rcnt t (d + 1) c).2 b sb r3
      rw [hm2] at this
      exact this
    rw [if_neg hf]
    refine ⟨fun h => (by cases h), fun h => ?_⟩
    by_cases hr : (rcnt t (d + 1) c).1 = true
    · rw [if_pos hr] at h
      exact absurd (g2 hr (rcnts_c _ _ _ _ h).1) hf
    rw [if_neg hr] at h; cases h
  have h0 : N - i = 0 := by omega
  rw [if_neg hi, h0, rcnts, decide_eq_true hc]
  exact ⟨fun _ => ⟨rfl, rfl, hc⟩, fun _ => rfl⟩
end
theorem rcnt_root {t : Tm} (h : (rcnt t 1 0).1 = true) : (rcnt t 1 0).2 ≤ 20000 := by
 obtain ⟨k, n, nm, lv, ls, ks⟩ := t
 rw [rcnt] at h ⊢
 rw [if_neg (by omega)] at h ⊢
 cases hl : rlf k ks.length with
 | true => rw [if_pos rfl]; simp
 | false =>
  rw [hl, if_neg (by decide)] at h
  rw [if_neg (by decide)]
  exact (rcnts_c _ _ _ _ h).2
theorem rsz_pos (t : Tm) : 1 ≤ rsz t := by
 obtain ⟨k, n, nm, lv, ls, ks⟩ := t
 rw [rsz]; split <;> omega
theorem tgreat_eq (t : Tm) : tgreat t = rgreat t := by
 obtain ⟨g1, g2⟩ := cnt_same t 1 0 0 0 (by omega)
 have e1 : (((1 : Nat) : Int)) = 1 := rfl
 have e0 : (((0 : Nat) : Int)) = 0 := rfl
 rw [e1, e0] at g1 g2
 unfold tgreat tmeas rgreat
 cases hf : (tfold mStep t 1 0 (0, 0)).1 with
 | true =>
  obtain ⟨r1, r2, r3⟩ := g1 hf
  rw [if_pos rfl, r1, r2, rcnt_true t 1 0 r1]
  have := rsz_pos t
  simp
  omega
 | false =>
  rw [if_neg (by decide)]
  cases hr : (rcnt t 1 0).1 with
  | true => have := g2 hr (rcnt_root hr); rw [hf] at this; cases this
  | false => rfl
theorem leaf_flat {k : Int} {m : Nat} (h : k = 1 ∨ k = 2 ∨ k = 7) : tleaf k m = true ∧ rlf k m = false := by
 have h0 : tar k = 0 := by rcases h with rfl | rfl | rfl <;> rfl
 unfold tleaf rlf
 rw [h0]
 exact ⟨by simp, by simp⟩
theorem leaf_node {k : Int} {m : Nat} (h : ¬ (k = 1 ∨ k = 2 ∨ k = 7)) : tleaf k m = rlf k m := by
 have hb : tar k ≠ 0 := by
  unfold tar
  by_cases h1 : k = 1
  · exact absurd (.inl h1) h
  by_cases h2 : k = 2
  · exact absurd (.inr (.inl h2)) h
  by_cases h7 : k = 7
  · exact absurd (.inr (.inr h7)) h
  rw [if_neg h1, if_neg h2, if_neg h7]
  split
  · decide
  split
  · decide
  split
  · decide
  split <;> decide
 have hle := tar_le k
 unfold tleaf rlf
 have e : decide (tar k < 1) = decide (tar k < 0) := decide_eq_decide.2 (by omega)
 rw [e]
theorem leqs_eq : ∀ (l r : List Lv), leqs l r = reqs l r
 | [], [] => by simp [leqs, reqs]
 | [], _ :: _ => by simp [leqs, reqs]
 | _ :: _, [] => by simp [leqs, reqs]
 | a :: l, b :: r => by
  simp only [leqs, reqs, leq_eq, leqs_eq l r]
theorem tsame_eq2 {k n m : Int} {nm nmb : ByteArray} {lv lvb : Lv} {ls lsb : List Lv} {ks ksb : List Tm} (hl : (Tm.mk k n nm lv ls ks).leaf = (Tm.mk k m nmb lvb lsb ksb).leaf) :
    tsame (.mk k n nm lv ls ks) (.mk k m nmb lvb lsb ksb) = if k = 1 then n == m else if k = 2 then leq lv lvb else if k = 7 then (nm.toList == nmb.toList && leqs ls lsb)
    else if (Tm.mk k n nm lv ls ks).leaf = true then true else tsames (tar k).toNat ks ksb := tsame_eq rfl hl
mutual
theorem tsame_eq3 : ∀ (a b : Tm), tsame a b = rsame a b
 | .mk k n nm lv ls ks, .mk k2 n2 nm2 lv2 ls2 ks2 => by
  by_cases hk : k = k2
  · subst hk
    by_cases hf : k = 1 ∨ k = 2 ∨ k = 7
    · have l1 : (Tm.mk k n nm lv ls ks).leaf = (Tm.mk k n2 nm2 lv2 ls2 ks2).leaf := (leaf_flat (m := ks.length) hf).1.trans (leaf_flat (m := ks2.length) hf).1.symm
      have l2 : (Tm.mk k n nm lv ls ks).rleaf = (Tm.mk k n2 nm2 lv2 ls2 ks2).rleaf := (leaf_flat (m := ks.length) hf).2.trans (leaf_flat (m := ks2.length) hf).2.symm
      have l3 : (Tm.mk k n nm lv ls ks).rleaf = false := (leaf_flat (m := ks.length) hf).2
      have ff : ¬ (false = true) := by decide
      rw [tsame_eq2 l1, rsame_eq2 l2, l3, if_neg ff]
      by_cases h1 : k = 1
      · rw [if_pos h1, if_pos h1]
      rw [if_neg h1, if_neg h1]
      by_cases h2 : k = 2
      · rw [if_pos h2, if_pos h2, leq_eq]
      have h7 : k = 7 := by
        rcases hf with h | h | h
        · exact absurd h h1
        · exact absurd h h2
        exact h
      rw [if_neg h2, if_neg h2, if_pos h7, if_pos h7, leqs_eq]
    have e1 : (Tm.mk k n nm lv ls ks).leaf = (Tm.mk k n nm lv ls ks).rleaf := leaf_node hf
    have e2 : (Tm.mk k n2 nm2 lv2 ls2 ks2).leaf = (Tm.mk k n2 nm2 lv2 ls2 ks2).rleaf := leaf_node hf
    by_cases hl : (Tm.mk k n nm lv ls ks).rleaf = (Tm.mk k n2 nm2 lv2 ls2 ks2).rleaf
    · have h1 : ¬ k = 1 := fun h => hf (.inl h)
      have h2 : ¬ k = 2 := fun h => hf (.inr (.inl h))
      have h7 : ¬ k = 7 := fun h => hf (.inr (.inr h))
      rw [tsame_eq2 (by rw [e1, e2, hl]), rsame_eq2 hl, e1]
      rw [if_neg h1, if_neg h2, if_neg h7, if_neg h1, if_neg h2, if_neg h7, tsames_eq3 (tar k).toNat ks ks2]
    rw [tsame, rsame, if_pos (.inr (by rw [e1, e2]; exact hl)), if_pos (.inr hl)]
  rw [tsame, rsame, if_pos (.inl hk), if_pos (.inl hk)]
theorem tsames_eq3 : ∀ (m : Nat) (l r : List Tm), tsames m l r = rsames m l r
 | 0, _, _ => by rw [tsames, rsames]
 | m + 1, a :: l, b :: r => by rw [tsames, rsames, tsame_eq3 a b, tsames_eq3 m l r]
 | m + 1, [], _ => by rw [tsames, rsames] <;> (intros; simp_all)
 | m + 1, _ :: _, [] => by rw [tsames, rsames] <;> (intros; simp_all)
end
theorem tSame_eq (a b : Tm) : tSame a b = rSame a b := by
 unfold tSame rSame
 rw [tgreat_eq, tgreat_eq, tsame_eq3]
mutual
theorem ment_same (nm : ByteArray) : ∀ (t : Tm) (d b x : Int), (tfold (mnStep nm) t d b ()).1 = !(rends t x).any (isCon nm)
 | .mk k n tm lv ls ks, d, b, x => by
  rw [tfold, rends]
  have hs : (mnStep nm () (.mk k n tm lv ls ks) d b).1 = !isCon nm (.mk k n tm lv ls ks, x) := by
   show (decide (k ≠ 7) || !(tm.toList == nm.toList)) = !(decide (k = 7) && (tm.toList == nm.toList))
   by_cases h : k = 7
   · simp [h]
   simp [h]
  by_cases he : (rlf k ks.length || (tar k == 0)) = true
  · rw [if_pos he]
    have hn : nk k ks.length = 0 := by
     cases hl : rlf k ks.length with
     | true => exact nk_leaf hl
     | false =>
      rw [hl] at he
      have h0 : tar k = 0 := by simpa using he
      rw [nk_node hl, h0]; rfl
    rw [hn, hs]
    have ht := tfolds_end (mnStep nm) k 0 ks (d + 1) b (mnStep nm () (.mk k n tm lv ls ks) d b).2
    rw [List.drop_zero] at ht
    cases hc : isCon nm (.mk k n tm lv ls ks, x) with
    | true => simp [hc]
    | false =>
     simp only [Bool.not_false, if_true, List.any_cons, List.any_nil, hc, Bool.or_false]
     rw [ht]
  rw [if_neg he]
  have hl : rlf k ks.length = false := by
   cases h : rlf k ks.length with
   | false => rfl
   | true => rw [h] at he; exact absurd rfl he
  have h7 : k ≠ 7 := fun h => by
   subst h
   exact he (by rw [hl]; rfl)
  have hs1 : (mnStep nm () (.mk k n tm lv ls ks) d b).1 = true := by
   show (decide (k ≠ 7) || !(tm.toList == nm.toList)) = true
   simp [h7]
  rw [if_pos hs1, nk_node hl]
  have := ments_same nm ks k (tar k).toNat 0 (d + 1) b x
  rw [Nat.sub_zero] at this
  exact this
theorem ments_same (nm : ByteArray) : ∀ (l : List Tm) (k : Int) (N i : Nat) (d b x : Int), (tfolds (mnStep nm) k N l i d b ()).1 = !(rendss k (N - i) i l x).any (isCon nm)
 | [], k, N, i, d, b, x => by
  rw [tfolds]
  cases N - i with
  | zero => rw [rendss]; rfl
  | succ m => rw [rendss]; rfl
 | t :: l, k, N, i, d, b, x => by
  rw [tfolds]
  by_cases hi : i < N
  · obtain ⟨m, hm⟩ : ∃ m, N - i = m + 1 := ⟨N - i - 1, by omega⟩
    have hm2 : N - (i + 1) = m := by omega
    have g1 := ment_same nm t d (b + bnd k i) (x + bnd k i)
    have g2 := ments_same nm l k N (i + 1) d b x
    rw [hm2] at g2
    rw [if_pos hi, hm, rendss, List.any_append]
    cases hf : (tfold (mnStep nm) t d (b + bnd k i) ()).1 with
    | true =>
     rw [hf] at g1
     have g3 : (rends t (x + bnd k i)).any (isCon nm) = false := by simpa using g1.symm
     rw [if_pos rfl, g3, Bool.false_or]
     exact g2
    | false =>
     rw [hf] at g1
     have g3 : (rends t (x + bnd k i)).any (isCon nm) = true := by simpa using g1.symm
     rw [if_neg (by decide), g3]
     rfl
  have h0 : N - i = 0 := by omega
  rw [if_neg hi, h0, rendss]
  rfl
end
theorem tment_eq (t : Tm) (nm : ByteArray) : tment t nm = rment t nm := by
 unfold tment rment
 rw [tgreat_eq, ment_same nm t 1 0 0, Bool.not_not]
end Go.Proofs.Ytiampoebdmflgaa
/- Plain law: what is applied, and to what. -/
namespace Go.Proofs.Ytiampoebdmflgaa
open Go.RowKit
set_option linter.unusedVariables false
set_option maxHeartbeats 1000000
set_option maxRecDepth 100000
mutual
theorem vh_le : ∀ (t : Tm), t.vh ≤ t.height
 | .mk k n nm lv ls ks => by
  have := vhs_le (nk k ks.length) ks 0
  simp only [Tm.vh, Tm.height]; omega
theorem vhs_le (N : Nat) : ∀ (l : List Tm) (i : Nat), Tm.vhs N l i ≤ Tm.heights l
 | [], _ => by simp [Tm.vhs, Tm.heights]
 | t :: l, i => by
  have h1 := vh_le t
  have h2 := vhs_le N l (i + 1)
  simp only [Tm.vhs, Tm.heights]
  split <;> omega
end
theorem vh_pos (t : Tm) : 1 ≤ t.vh := by
 obtain ⟨k, n, nm, lv, ls, ks⟩ := t
 simp only [Tm.vh]; omega
theorem rspF_fuel : ∀ (n m : Nat) (t : Tm) (acc : List Tm), t.vh ≤ n → t.vh ≤ m → rspF n t acc = rspF m t acc
 | 0, _, t, _, h, _ => by have := vh_pos t; omega
 | n + 1, m, t, acc, h1, h2 => by
  obtain ⟨m', rfl⟩ : ∃ m', m = m' + 1 := ⟨m - 1, by have := vh_pos t; omega⟩
  by_cases h : t.k = 6 ∧ 2 ≤ t.ks.length
  · have hl : 1 < t.ks.length := by omega
    rw [rspF_step h.1 hl, rspF_step h.1 hl]
    have hv : (t.ks[0]'(by omega)).vh + 1 ≤ t.vh := by
     obtain ⟨k, nn, nm, lv, ls, ks⟩ := t
     have hk : k = 6 := h.1
     have hl2 : 1 < ks.length := hl
     have h8 : tar 6 = 2 := by decide
     have hnk : 0 < nk k ks.length := by rw [hk]; unfold nk; rw [if_neg (by rw [h8]; omega), h8]; decide
     exact Tm.vh_kid (k := k) (n := nn) (nm := nm) (lv := lv) (ls := ls) (ks := ks) 0 (by omega) hnk
    exact rspF_fuel n m' _ _ (by omega) (by omega)
  rw [rspF_end h, rspF_end h]
theorem leaf6 {t : Tm} (h : t.k = 6) : t.leaf = false ↔ 2 ≤ t.ks.length := by
 unfold Tm.leaf tleaf
 rw [h]
 have h8 : tar 6 = 2 := by decide
 rw [h8]
 simp
 omega
theorem spF_same : ∀ (n : Nat) (t : Tm) (acc racc : List Tm), acc.reverse = racc.map town → (spineF n t acc).1 = (rspF n t racc).1 ∧ (spineF n t acc).2.reverse = (rspF n t racc).2.map town
 | 0, _, _, _, h => ⟨rfl, h⟩
 | n + 1, t, acc, racc, h => by
  by_cases hc : t.k = 6 ∧ 2 ≤ t.ks.length
  · have hl : 1 < t.ks.length := by omega
    rw [spineF_step hc.1 ((leaf6 hc.1).2 hc.2) hl, rspF_step hc.1 hl]
    refine spF_same n _ _ _ ?_
    rw [List.reverse_append, List.reverse_singleton, h]
    rfl
  rw [spineF_end (fun h2 => hc ⟨h2.1, (leaf6 h2.1).1 h2.2⟩), rspF_end hc]
  exact ⟨rfl, h⟩
theorem tspine_eq (t : Tm) : tspine t = if rgreat t = true then (t, []) else (town (rspine t).1, (rspine t).2.map town) := by
 unfold tspine rspine
 rw [tgreat_eq]
 cases hg : rgreat t with
 | true => rfl
 | false =>
  obtain ⟨g1, g2⟩ := spF_same t.vh t [] [] rfl
  rw [if_neg (by decide), if_neg (by decide), if_neg (by decide), rspF_fuel t.height t.vh t [] (vh_le t) (Nat.le_refl _), g1, g2]
end Go.Proofs.Ytiampoebdmflgaa
/- Plain law: a term once more in memory of its own is the same. -/
namespace Go.Proofs.Ytiampoebdmflgaa
open Go.RowKit
set_option linter.unusedVariables false
set_option maxHeartbeats 1000000
set_option maxRecDepth 100000
/-! ### Levels -/
mutual
theorem rsnd_copy : ∀ (l : Lv) (d c : Nat), rsnd (lcopy l) d c = rsnd l d c
 | .mk k n ks, d, c => by
  rw [lcopy, rsnd, rsnd]
  have hl : (lcopys ks).length = ks.length := by rw [lcopys_eq, List.length_map]
  rw [hl, rsnds_copy ks d (c + 1)]
  by_cases h4 : k = 4
  · subst h4
    simp
  rw [if_neg h4]
theorem rsnds_copy : ∀ (ks : List Lv) (d c : Nat), rsnds (lcopys ks) d c = rsnds ks d c
 | [], _, _ => by rw [lcopys]
 | l :: ls, d, c => by
  rw [lcopys, rsnds, rsnds, rsnd_copy l (d + 1) c, rsnds_copy ls d _]
end
theorem rsound_copy (l : Lv) : rsound (lcopy l) = rsound l := by unfold rsound; rw [rsnd_copy]
mutual
theorem rnorm_copy : ∀ (l : Lv), rnorm (lcopy l) = rnorm l
 | .mk k n ks => by
  rw [lcopy, rnorm, rnorm, rnormi_copy ks 0, rnormi_copy ks 1]
  by_cases h4 : k = 4
  · subst h4
    simp
  rw [if_neg h4]
theorem rnormi_copy : ∀ (ks : List Lv) (i : Nat), rnormi (lcopys ks) i = rnormi ks i
 | [], i => by rw [lcopys]
 | l :: ls, 0 => by rw [lcopys, rnormi, rnormi, rnorm_copy l]
 | l :: ls, i + 1 => by rw [lcopys, rnormi, rnormi, rnormi_copy ls i]
end
theorem req_own (a b : Lv) : req (lown a) b = req a b := by
 unfold lown
 split
 · unfold req; rw [rsound_copy, rnorm_copy]
 rfl
theorem req_own2 (a b : Lv) : req a (lown b) = req a b := by
 unfold lown
 split
 · unfold req; rw [rsound_copy, rnorm_copy]
 rfl
theorem reqs_own : ∀ (l r : List Lv), reqs (l.map lown) r = reqs l r
 | [], [] => rfl
 | [], _ :: _ => rfl
 | _ :: _, [] => rfl
 | a :: l, b :: r => by rw [List.map_cons, reqs, reqs, req_own, reqs_own l r]
/-! ### Terms -/
theorem tnode_k (t : Tm) : (tnode t).k = t.k := by
 unfold tnode
 split
 · rename_i h; exact h.symm
 split
 · rename_i h; exact h.symm
 split
 · rename_i h; exact h.symm
 rfl
theorem tnode_ks (t : Tm) : (tnode t).ks = [] := by
 unfold tnode
 split
 · rfl
 split
 · rfl
 split <;> rfl
theorem tnode_n {t : Tm} (h : t.k = 1) : (tnode t).n = t.n := by unfold tnode; rw [if_pos h]; rfl
theorem tnode_lv {t : Tm} (h : t.k = 2) : (tnode t).lv = lown t.lv := by unfold tnode; rw [if_neg (by omega), if_pos h]; rfl
theorem tnode_nm {t : Tm} (h : t.k = 7) : (tnode t).nm = t.nm ∧ (tnode t).ls = t.ls.map lown := by unfold tnode; rw [if_neg (by omega), if_neg (by omega), if_pos h]; exact ⟨rfl, rfl⟩
theorem leaf_rlf {k : Int} {m : Nat} (h : tleaf k m = true) : rlf k 0 = rlf k m ∧ (rlf k m = false → tar k = 0) := by
 unfold tleaf at h
 unfold rlf
 have hb := tar_le k
 have h2 : tar k < 1 ∨ (m : Int) < tar k := by simpa using h
 refine ⟨?_, fun h3 => ?_⟩
 · have e1 : decide (((0 : Nat) : Int) < tar k) = decide ((m : Int) < tar k) := decide_eq_decide.2 (by omega)
   rw [e1]
 have h4 : ¬ tar k < 0 ∧ ¬ (m : Int) < tar k := by simpa using h3
 omega
theorem noleaf_rlf {k : Int} {m : Nat} (h : tleaf k m = false) : rlf k m = false ∧ nk k m = (tar k).toNat ∧ 1 ≤ tar k ∧ tar k ≤ m ∧ rlf k (tar k).toNat = false := by
 unfold tleaf at h
 have hb := tar_le k
 have h2 : ¬ tar k < 1 ∧ ¬ (m : Int) < tar k := by simpa using h
 refine ⟨?_, ?_, by omega, by omega, ?_⟩
 · unfold rlf
   have a1 : ¬ tar k < 0 := by omega
   simp [a1, h2.2]
 · unfold nk; rw [if_neg h2.2]
 unfold rlf
 have a1 : ¬ tar k < 0 := by omega
 have a2 : ¬ (((tar k).toNat : Nat) : Int) < tar k := by omega
 simp only [a1, a2, decide_false, Bool.or_false]
theorem trebs_len (F : Tm → Int → Tm) (k : Int) (N : Nat) (ks : List Tm) (i : Int) (h : N ≤ ks.length) : (trebs F k N ks 0 i).length = N := by
 rw [trebs_eq]; simp; omega
abbrev tnode2 (t : Tm) (_ : Int) : Tm := tnode t
theorem treb_leaf {k n : Int} {nm : ByteArray} {lv : Lv} {ls : List Lv} {ks : List Tm} {i : Int} (h : tleaf k ks.length = true) : treb tnode2 (.mk k n nm lv ls ks) i = tnode (.mk k n nm lv ls ks) := by
 have h2 : (Tm.mk k n nm lv ls ks).leaf = true := h
 rw [treb, if_pos h2]
theorem treb_node {k n : Int} {nm : ByteArray} {lv : Lv} {ls : List Lv} {ks : List Tm} {i : Int} (h : tleaf k ks.length = false) : treb tnode2 (.mk k n nm lv ls ks) i = .mk k 0 ByteArray.empty lzero' [] (trebs tnode2 k (tar k).toNat ks 0 i) := by
 have h2 : (Tm.mk k n nm lv ls ks).leaf = false := h
 rw [treb, if_neg (by rw [h2]; decide), (noleaf_rlf h).2.1]
mutual
theorem rcnt_treb : ∀ (t : Tm) (i : Int) (d c : Nat), rcnt (treb tnode2 t i) d c = rcnt t d c
 | .mk k n nm lv ls ks, i, d, c => by
  cases hl : tleaf k ks.length with
  | true =>
   rw [treb_leaf hl]
   obtain ⟨X, hX⟩ : ∃ X, tnode (.mk k n nm lv ls ks) = X := ⟨_, rfl⟩
   have hk : X.k = k := by rw [← hX, tnode_k]; rfl
   have hks : X.ks = [] := by rw [← hX, tnode_ks]
   rw [hX]
   obtain ⟨k', n', nm', lv', ls', ks'⟩ := X
   simp only [Tm.k, Tm.ks] at hk hks
   subst hk; subst hks
   obtain ⟨g1, g2⟩ := leaf_rlf hl
   rw [rcnt, rcnt, List.length_nil, g1]
   cases hr : rlf k' ks.length with
   | true => rfl
   | false =>
    have h0 := g2 hr
    rw [h0]
    have e0 : (0 : Int).toNat = 0 := rfl
    rw [e0, rcnts, rcnts]
  | false =>
   obtain ⟨g1, g2, g3, g4, g5⟩ := noleaf_rlf hl
   rw [treb_node hl, rcnt, rcnt, trebs_len _ _ _ _ _ (by omega), g1, g5]
   have := rcnts_treb ks k (tar k).toNat 0 i d (c + 1)
   rw [Nat.sub_zero] at this
   rw [this]
theorem rcnts_treb : ∀ (l : List Tm) (k : Int) (N j : Nat) (i : Int) (d c : Nat), rcnts (N - j) (trebs tnode2 k N l j i) d c = rcnts (N - j) l d c
 | [], k, N, j, i, d, c => by rw [trebs]
 | t :: l, k, N, j, i, d, c => by
  rw [trebs]
  by_cases hj : j < N
  · obtain ⟨m, hm⟩ : ∃ m, N - j = m + 1 := ⟨N - j - 1, by omega⟩
    have hm2 : N - (j + 1) = m := by omega
    have h3 := rcnts_treb l k N (j + 1) i d
    rw [hm2] at h3
    rw [if_pos hj, hm, rcnts, rcnts, rcnt_treb t _ (d + 1) c, h3]
  have h0 : N - j = 0 := by omega
  rw [if_neg hj, h0, rcnts, rcnts]
end
theorem rgreat_treb (t : Tm) (i : Int) : rgreat (treb tnode2 t i) = rgreat t := by unfold rgreat; rw [rcnt_treb]
mutual
theorem rsame_treb : ∀ (t : Tm) (i : Int) (b : Tm), rsame (treb tnode2 t i) b = rsame t b
 | .mk k n nm lv ls ks, i, b => by
  cases hl : tleaf k ks.length with
  | true =>
   rw [treb_leaf hl]
   obtain ⟨g1, g2⟩ := leaf_rlf hl
   obtain ⟨X, hX⟩ : ∃ X, tnode (.mk k n nm lv ls ks) = X := ⟨_, rfl⟩
   have hk : X.k = k := by rw [← hX, tnode_k]; rfl
   have hks : X.ks = [] := by rw [← hX, tnode_ks]
   have hr : X.rleaf = (Tm.mk k n nm lv ls ks).rleaf := by
    show rlf X.k X.ks.length = rlf k ks.length
    rw [hk, hks, List.length_nil, g1]
   have hn : k = 1 → X.n = n := by intro h1; rw [← hX]; exact tnode_n h1
   have hlv : k = 2 → X.lv = lown lv := by intro h1; rw [← hX]; exact tnode_lv h1
   have hnm : k = 7 → X.nm = nm ∧ X.ls = ls.map lown := by
    intro h1
    rw [← hX]; exact tnode_nm h1
   rw [hX]
   clear hX
   obtain ⟨k', n', nm', lv', ls', ks'⟩ := X
   simp only [Tm.k, Tm.ks, Tm.n, Tm.lv, Tm.nm, Tm.ls] at hk hks hn hlv hnm
   subst hk; subst hks
   rw [rsame, rsame, hr]
   by_cases hc : k' ≠ b.k ∨ (Tm.mk k' n nm lv ls ks).rleaf ≠ b.rleaf
   · rw [if_pos hc, if_pos hc]
   rw [if_neg hc, if_neg hc]
   cases hrl : (Tm.mk k' n nm lv ls ks).rleaf with
   | true => rfl
   | false =>
    have hft : ¬ (false = true) := by decide
    rw [if_neg hft, if_neg hft]
    by_cases h1 : k' = 1
    · rw [if_pos h1, if_pos h1, hn h1]
    rw [if_neg h1, if_neg h1]
    by_cases h2 : k' = 2
    · rw [if_pos h2, if_pos h2, hlv h2, req_own]
    rw [if_neg h2, if_neg h2]
    by_cases h7 : k' = 7
    · rw [if_pos h7, if_pos h7, (hnm h7).1, (hnm h7).2, reqs_own]
    rw [if_neg h7, if_neg h7, g2 hrl]
    have e0 : (0 : Int).toNat = 0 := rfl
    rw [e0, rsames, rsames]
  | false =>
   obtain ⟨g1, g2, g3, g4, g5⟩ := noleaf_rlf hl
   rw [treb_node hl, rsame, rsame]
   have hr1 : (Tm.mk k 0 ByteArray.empty lzero' [] (trebs tnode2 k (tar k).toNat ks 0 i)).rleaf = false := by
    show rlf k (trebs tnode2 k (tar k).toNat ks 0 i).length = false
    rw [trebs_len _ _ _ _ _ (by omega), g5]
   have hr2 : (Tm.mk k n nm lv ls ks).rleaf = false := g1
   have h1 : ¬ k = 1 := by intro h; rw [h] at g3; exact absurd g3 (by decide)
   have h2 : ¬ k = 2 := by intro h; rw [h] at g3; exact absurd g3 (by decide)
   have h7 : ¬ k = 7 := by intro h; rw [h] at g3; exact absurd g3 (by decide)
   have h3 := rsames_treb ks k (tar k).toNat 0 i b.ks
   rw [Nat.sub_zero] at h3
   rw [hr1, hr2, if_neg h1, if_neg h2, if_neg h7, if_neg h1, if_neg h2, if_neg h7, h3]
theorem rsames_treb : ∀ (l : List Tm) (k : Int) (N j : Nat) (i : Int) (r : List Tm), rsames (N - j) (trebs tnode2 k N l j i) r = rsames (N - j) l r
 | [], k, N, j, i, r => by rw [trebs]
 | t :: l, k, N, j, i, r => by
  rw [trebs]
  by_cases hj : j < N
  · obtain ⟨m, hm⟩ : ∃ m, N - j = m + 1 := ⟨N - j - 1, by omega⟩
    have hm2 : N - (j + 1) = m := by omega
    have h3 := rsames_treb l k N (j + 1) i
    rw [hm2] at h3
    rw [if_pos hj, hm]
    cases r with
    | nil => rw [rsames, rsames] <;> (intros; simp_all)
    | cons b r => rw [rsames, rsames, rsame_treb t _ b, h3]
  have h0 : N - j = 0 := by omega
  rw [if_neg hj, h0, rsames, rsames]
end
theorem tnode_con (nm : ByteArray) (t : Tm) (x y : Int) : isCon nm (tnode t, x) = isCon nm (t, y) := by
 unfold isCon
 rw [tnode_k]
 by_cases h7 : t.k = 7
 · rw [(tnode_nm h7).1]
 simp [h7]
mutual
theorem rends_treb (nm : ByteArray) : ∀ (t : Tm) (i x : Int), (rends (treb tnode2 t i) x).any (isCon nm) = (rends t x).any (isCon nm)
 | .mk k n tm lv ls ks, i, x => by
  cases hl : tleaf k ks.length with
  | true =>
   rw [treb_leaf hl]
   have hc := tnode_con nm (.mk k n tm lv ls ks) x x
   obtain ⟨X, hX⟩ : ∃ X, tnode (.mk k n tm lv ls ks) = X := ⟨_, rfl⟩
   have hk : X.k = k := by rw [← hX, tnode_k]; rfl
   have hks : X.ks = [] := by rw [← hX, tnode_ks]
   rw [hX] at hc ⊢
   clear hX
   obtain ⟨k', n', nm', lv', ls', ks'⟩ := X
   simp only [Tm.k, Tm.ks] at hk hks
   subst hk; subst hks
   obtain ⟨g1, g2⟩ := leaf_rlf hl
   have h1 : (rlf k' ks.length || (tar k' == 0)) = true := by
    cases hr : rlf k' ks.length with
    | true => rfl
    | false => rw [g2 hr]; rfl
   have h2 : (rlf k' ([] : List Tm).length || (tar k' == 0)) = true := by rw [List.length_nil, g1]; exact h1
   rw [rends, rends, if_pos h1, if_pos h2]
   simp [hc]
  | false =>
   obtain ⟨g1, g2, g3, g4, g5⟩ := noleaf_rlf hl
   have h0 : (tar k == 0) = false := by simp; omega
   rw [treb_node hl, rends, rends, trebs_len _ _ _ _ _ (by omega), g1, g5, h0]
   have := rendss_treb nm ks k (tar k).toNat 0 i x
   rw [Nat.sub_zero] at this
   exact this
theorem rendss_treb (nm : ByteArray) : ∀ (l : List Tm) (k : Int) (N j : Nat) (i x : Int), (rendss k (N - j) j (trebs tnode2 k N l j i) x).any (isCon nm) = (rendss k (N - j) j l x).any (isCon nm)
 | [], k, N, j, i, x => by rw [trebs]
 | t :: l, k, N, j, i, x => by
  rw [trebs]
  by_cases hj : j < N
  · obtain ⟨m, hm⟩ : ∃ m, N - j = m + 1 := ⟨N - j - 1, by omega⟩
    have hm2 : N - (j + 1) = m := by omega
    have h3 := rendss_treb nm l k N (j + 1) i x
    rw [hm2] at h3
    rw [if_pos hj, hm, rendss, rendss, List.any_append, List.any_append, rends_treb nm t _ _, h3]
  have h0 : N - j = 0 := by omega
  rw [if_neg hj, h0, rendss, rendss]
end
theorem rSame_town (a b : Tm) : rSame (town a) b = rSame a b := by
 unfold town
 split
 · rfl
 unfold rSame
 have e : treb (fun t _ => tnode t) a 0 = treb tnode2 a 0 := rfl
 rw [e, rgreat_treb, rsame_treb]
theorem rment_town (a : Tm) (nm : ByteArray) : rment (town a) nm = rment a nm := by
 unfold town
 split
 · rfl
 unfold rment
 have e : treb (fun t _ => tnode t) a 0 = treb tnode2 a 0 := rfl
 rw [e, rgreat_treb, rends_treb]
end Go.Proofs.Ytiampoebdmflgaa
/- Plain law: shape.Of and assizeref13.Of say the same. -/
namespace Go.Proofs.Ytiampoebdmflgaa
open Go.RowKit
set_option linter.unusedVariables false
set_option maxHeartbeats 1000000
set_option maxRecDepth 100000
/-! ### What is not great has no great parts -/
mutual
theorem rcnt_ok : ∀ (t : Tm) (d c : Nat), c + rsz t ≤ 20000 → d + t.vh ≤ 2001 → rcnt t d c = (true, c + rsz t)
 | .mk k n nm lv ls ks, d, c, h1, h2 => by
  have hv : 1 ≤ (Tm.mk k n nm lv ls ks).vh := vh_pos _
  rw [rsz] at h1
  rw [rcnt, rsz, if_neg (by omega)]
  cases hr : rlf k ks.length with
  | true => rfl
  | false =>
   rw [hr] at h1
   have hft : ¬ (false = true) := by decide
   rw [if_neg hft] at h1 ⊢
   rw [if_neg hft]
   have hnk : nk k ks.length = (tar k).toNat := nk_node hr
   have h3 : d + 1 + Tm.vhs (tar k).toNat ks 0 ≤ 2001 := by
    have : (Tm.mk k n nm lv ls ks).vh = Tm.vhs (nk k ks.length) ks 0 + 1 := by simp only [Tm.vh]
    rw [hnk] at this
    omega
   have := rcnts_ok ks (tar k).toNat 0 d (c + 1) (by rw [Nat.sub_zero]; omega) h3
   rw [Nat.sub_zero] at this
   rw [this]
   congr 1
   omega
theorem rcnts_ok : ∀ (l : List Tm) (N j d c : Nat), c + rszs (N - j) l ≤ 20000 → d + 1 + Tm.vhs N l j ≤ 2001 → rcnts (N - j) l d c = (true, c + rszs (N - j) l)
 | [], N, j, d, c, h1, h2 => by
  cases hm : N - j with
  | zero => rw [hm] at h1; rw [rszs] at h1 ⊢; rw [rcnts]; simp; omega
  | succ m => rw [hm] at h1; rw [rszs] at h1 ⊢; rw [rcnts]; simp; omega
 | t :: l, N, j, d, c, h1, h2 => by
  by_cases hj : j < N
  · obtain ⟨m, hm⟩ : ∃ m, N - j = m + 1 := ⟨N - j - 1, by omega⟩
    have hm2 : N - (j + 1) = m := by omega
    rw [hm, rszs] at h1
    rw [hm, rszs, rcnts, if_neg (by have := rsz_pos t; omega)]
    simp only [Tm.vhs] at h2
    rw [if_pos hj] at h2
    have g1 := rcnt_ok t (d + 1) c (by omega) (by omega)
    have g2 := rcnts_ok l N (j + 1) d (c + rsz t) (by rw [hm2]; omega) (by omega)
    rw [hm2] at g2
    rw [g1, if_pos rfl, g2]
    congr 1
    omega
  have h0 : N - j = 0 := by omega
  rw [h0, rszs] at h1 ⊢
  rw [rcnts]; simp; omega
end
theorem great_iff (t : Tm) : rgreat t = false ↔ rsz t ≤ 20000 ∧ t.vh ≤ 2000 := by
 constructor
 · intro h
   have h1 : (rcnt t 1 0).1 = true := by unfold rgreat at h; simpa using h
   have h2 := rcnt_true t 1 0 h1
   have h3 := rcnt_root h1
   exact ⟨by omega, great_vh (by rw [tgreat_eq]; exact h)⟩
 rintro ⟨h1, h2⟩
 unfold rgreat
 rw [rcnt_ok t 1 0 (by omega) (by omega)]
 rfl
theorem rszs_at : ∀ (N : Nat) (l : List Tm) (j : Nat) (hj : j < l.length), j < N → rsz l[j] ≤ rszs N l
 | 0, _, _, _, h => absurd h (by omega)
 | N + 1, [], _, hj, _ => absurd hj (by simp)
 | N + 1, t :: l, 0, _, _ => by rw [rszs]; simp
 | N + 1, t :: l, j + 1, hj, h => by
  rw [rszs]
  have := rszs_at N l j (by simpa using hj) (by omega)
  simp only [List.getElem_cons_succ]
  omega
theorem kid_not_great {t : Tm} {j : Nat} (hg : rgreat t = false) (hj : j < t.ks.length) (hn : j < nk t.k t.ks.length) : rgreat (t.ks[j]) = false := by
 obtain ⟨k, n, nm, lv, ls, ks⟩ := t
 simp only [Tm.ks, Tm.k] at hj hn ⊢
 obtain ⟨h1, h2⟩ := (great_iff _).1 hg
 have h3 := Tm.vh_kid (k := k) (n := n) (nm := nm) (lv := lv) (ls := ls) (ks := ks) j hj hn
 refine (great_iff _).2 ⟨?_, by omega⟩
 cases hr : rlf k ks.length with
 | true => rw [nk_leaf hr] at hn; omega
 | false =>
  rw [nk_node hr] at hn
  have h4 := rszs_at _ ks j hj hn
  rw [rsz, hr] at h1
  have hft : ¬ (false = true) := by decide
  rw [if_neg hft] at h1
  omega
theorem nk6 {m : Nat} (h : 2 ≤ m) : nk 6 m = 2 := by
 have h8 : tar 6 = 2 := by decide
 unfold nk; rw [h8, if_neg (by omega)]; rfl
theorem rspF_not_great : ∀ (n : Nat) (t : Tm) (acc : List Tm), rgreat t = false → (∀ x ∈ acc, rgreat x = false) → rgreat (rspF n t acc).1 = false ∧ ∀ x ∈ (rspF n t acc).2, rgreat x = false
 | 0, t, acc, h, ha => ⟨h, ha⟩
 | n + 1, t, acc, h, ha => by
  by_cases hc : t.k = 6 ∧ 2 ≤ t.ks.length
  · have hl : 1 < t.ks.length := by omega
    have hk : nk t.k t.ks.length = 2 := by rw [hc.1]; exact nk6 hc.2
    rw [rspF_step hc.1 hl]
    refine rspF_not_great n _ _ (kid_not_great h (by omega) (by omega)) ?_
    intro x hx
    rcases List.mem_cons.1 hx with rfl | hx
    · exact kid_not_great h (by omega) (by omega)
    exact ha x hx
  rw [rspF_end hc]; exact ⟨h, ha⟩
/-! ### The ends of a constructor's row -/
theorem lown_var (i : Int) : lown (.mk 2 i []) = .mk 2 i [] := by
 unfold lown
 split
 · rfl
 rfl
theorem self_eq (nm : ByteArray) (m : Nat) : tself nm m = rself nm m := by
 unfold tself rself
 have : (vrow m).map lown = vrow m := by
  unfold vrow
  rw [List.map_map]
  refine List.map_congr_left fun i _ => ?_
  exact lown_var i
 rw [this]
theorem same_var {x : Tm} (hg : rgreat x = false) (n : Int) : rSame x (varAt n) = (decide (x.k = 1) && decide (x.n = n)) := by
 have hv : rgreat (varAt n) = false := rfl
 unfold rSame
 rw [hg, hv]
 obtain ⟨k, m, nm, lv, ls, ks⟩ := x
 simp only [Tm.k, Tm.n, Bool.not_false, Bool.true_and]
 by_cases hk : k = 1
 · subst hk
   have l2 : (Tm.mk 1 m nm lv ls ks).rleaf = (varAt n).rleaf := (leaf_flat (m := ks.length) (.inl rfl)).2
   have l3 : (Tm.mk 1 m nm lv ls ks).rleaf = false := (leaf_flat (m := ks.length) (.inl rfl)).2
   unfold varAt at l2 ⊢
   rw [rsame_eq2 l2, l3]
   simp only [Bool.false_eq_true, if_false, if_true]
   by_cases h : m = n
   · simp [h]
   simp [h]
 unfold varAt
 rw [rsame, if_pos (.inl hk)]
 simp [hk]
theorem down_eq (p : Nat) (depth : Int) : ∀ (l : List Tm) (i : Nat), (∀ x ∈ l, rgreat x = false) → varsDown (depth - 1 - i) ((l.take (p - i)).map town) = !rbad p depth i l
 | [], i, _ => by rw [List.take_nil, List.map_nil, varsDown, rbad]; rfl
 | a :: l, i, h => by
  have ih := down_eq p depth l (i + 1) (fun x hx => h x (List.mem_cons_of_mem _ hx))
  rw [rbad]
  by_cases hi : i < p
  · obtain ⟨m, hm⟩ : ∃ m, p - i = m + 1 := ⟨p - i - 1, by omega⟩
    have hm2 : p - (i + 1) = m := by omega
    rw [hm2] at ih
    have e1 : depth - 1 - ((i + 1 : Nat) : Int) = depth - 1 - i - 1 := by omega
    rw [e1] at ih
    rw [hm, List.take_succ_cons, List.map_cons, varsDown, tSame_eq, rSame_town, same_var (h a (List.mem_cons_self ..)), ih]
    by_cases h1 : a.k = 1
    · by_cases h2 : a.n = depth - 1 - i
      · simp [hi, h1, h2]
      simp [hi, h1, h2]
    simp [hi, h1]
  have h0 : p - i = 0 := by omega
  have h1 : p - (i + 1) = 0 := by omega
  rw [h1, List.take_zero, List.map_nil, varsDown] at ih
  rw [h0, List.take_zero, List.map_nil, varsDown]
  simp only [hi, decide_false, Bool.false_and, Bool.false_or]
  exact ih
theorem any_town (nm : ByteArray) (l : List Tm) : ((l.map town).any fun t => tment t nm) = (l.any fun t => rment t nm) := by
 rw [List.any_map]
 congr 1
 funext t
 show tment (town t) nm = rment t nm
 rw [tment_eq, rment_town]
theorem any_ment (nm : ByteArray) (l : List Tm) : (l.any fun t => tment t nm) = (l.any fun t => rment t nm) := by
 congr 1
 funext t
 rw [tment_eq]
theorem ends_eq (nm : ByteArray) (m p idx : Nat) (t : Tm) (depth : Int) :
    tends nm p idx (tself nm m) t (depth - 1) = (if rend nm m p idx t depth = 1 then (false, false) else (true, decide (rend nm m p idx t depth = 2))) := by
 unfold tends rend
 rw [self_eq, tSame_eq]
 cases hg : rgreat t with
 | true =>
  have e1 : (tspine t).1 = t := by rw [tspine_eq, if_pos hg]
  have e2 : (rspine t).1 = t := by unfold rspine; rw [hg]; rfl
  have e3 : rSame t (rself nm m) = false := by unfold rSame; rw [hg]; rfl
  rw [e1, e2, e3]
  simp
 | false =>
  have hft : ¬ (false = true) := by decide
  have es : tspine t = (town (rspine t).1, (rspine t).2.map town) := by rw [tspine_eq, hg, if_neg hft]
  have hng : ∀ x ∈ (rspine t).2, rgreat x = false := by
   unfold rspine; rw [hg, if_neg hft]
   exact (rspF_not_great _ t [] hg (by simp)).2
  rw [es]
  simp only
  rw [rSame_town, List.length_map, ← List.map_take, ← List.map_drop, any_town]
  have hd := down_eq p depth (rspine t).2 0 hng
  have e1 : depth - 1 - ((0 : Nat) : Int) = depth - 1 := by omega
  rw [e1, Nat.sub_zero] at hd
  rw [hd]
  cases (rSame (rspine t).1 (rself nm m) && decide ((rspine t).2.length = p + idx)) with
  | false => rfl
  | true =>
   cases rbad p depth 0 (rspine t).2 with
   | true => rfl
   | false =>
    cases (((rspine t).2.drop p).any fun t => rment t nm) with
    | true => rfl
    | false => rfl
theorem rend_cases (nm : ByteArray) (m p idx : Nat) (t : Tm) (depth : Int) : rend nm m p idx t depth = 0 ∨ rend nm m p idx t depth = 1 ∨ rend nm m p idx t depth = 2 := by
 unfold rend
 split
 · exact .inr (.inl rfl)
 split
 · exact .inr (.inl rfl)
 split
 · exact .inr (.inr rfl)
 exact .inl rfl
theorem allSame_eq : ∀ (l r : List Tm), allSame l r = allRS l r
 | a :: l, b :: r => by rw [allSame, allRS, tSame_eq, allSame_eq l r]
 | [], r => by rw [allSame, allRS] <;> (intros; simp_all)
 | _ :: _, [] => by rw [allSame, allRS] <;> (intros; simp_all)
theorem ctorF_eq (nm : ByteArray) (m p idx : Nat) : ∀ (l : List Tm) (i : Nat) (sl : List (Int × Int)), ctorF nm p idx (tself nm m) i sl l = rctorF nm m p idx (((i + l.length : Nat) : Int)) i sl l
 | [], i, sl => by rw [ctorF, rctorF]; rfl
 | a :: l, i, sl => by
  have ih := ctorF_eq nm m p idx l (i + 1)
  have e1 : i + 1 + l.length = i + (a :: l).length := by simp; omega
  rw [e1] at ih
  have e2 : (p : Int) + i + (trow a).1.length - 1 = ((p : Int) + i + (trow a).1.length) - 1 := rfl
  rw [ctorF, rctorF, tment_eq, any_ment, ends_eq, ih, ih]
  rcases rend_cases nm m p idx (trow a).2 ((p : Int) + i + (trow a).1.length) with h | h | h
  · rw [h]; simp
  · rw [h]; simp
  rw [h]; simp
theorem ctor_eq (nm : ByteArray) (m p idx : Nat) (doms : List Tm) (t : Tm) : tctor nm p idx (tself nm m) doms t = rctor nm m p idx doms t := by
 unfold tctor rctor
 by_cases h1 : (trow t).1.length < p
 · rw [if_pos h1, if_pos h1]
 rw [if_neg h1, if_neg h1, allSame_eq, ends_eq, ctorF_eq]
 have e1 : 0 + ((trow t).1.drop p).length = (trow t).1.length - p := by simp
 have e2 : (((0 + ((trow t).1.drop p).length : Nat) : Int)) = ((trow t).1.length : Int) - p := by rw [e1]; omega
 rw [e2]
 rcases rend_cases nm m p idx (trow t).2 (trow t).1.length with h | h | h
 · rw [h]; simp
 · rw [h]; simp
 rw [h]; simp
theorem of_eq (dk : Int) (nm : ByteArray) (vs pa : Int) (ty : Tm) (cts : List (ByteArray × Tm)) :
    (tof dk nm vs pa ty cts).2 = (rof dk nm vs pa ty cts).2 ∧ (tof dk nm vs pa ty cts).1.1 = (rof dk nm vs pa ty cts).1.1 ∧ (tof dk nm vs pa ty cts).1.2.2 = (rof dk nm vs pa ty cts).1.2.2 ∧
     ((tof dk nm vs pa ty cts).2 = 0 → (tof dk nm vs pa ty cts).1.2.1 = lown (rof dk nm vs pa ty cts).1.2.1) ∧ ((tof dk nm vs pa ty cts).2 ≠ 0 → (tof dk nm vs pa ty cts).1 = zshape) := by
 have hc : tctor nm pa.toNat ((trow ty).1.length - pa.toNat) (tself nm vs.toNat) (trow ty).1 = rctor nm vs.toNat pa.toNat ((trow ty).1.length - pa.toNat) (trow ty).1 := by
  funext t
  exact ctor_eq ..
 have hp : ∀ l, lplus 0 l = lown l := fun l => by unfold lplus; rw [if_pos (by decide)]
 unfold tof rof
 rw [hc]
 by_cases h1 : dk ≠ 3 ∨ pa < 0 ∨ vs < 0 ∨ 6 < vs
 · rw [if_pos h1, if_pos h1]
   exact ⟨rfl, rfl, rfl, fun h => absurd h (by decide), fun _ => rfl⟩
 rw [if_neg h1, if_neg h1]
 by_cases h2 : (trow ty).2.k ≠ 2 ∨ (((trow ty).1.length : Nat) : Int) < pa
 · rw [if_pos h2, if_pos h2]
   exact ⟨rfl, rfl, rfl, fun h => absurd h (by decide), fun _ => rfl⟩
 rw [if_neg h2, if_neg h2]
 by_cases h3 : (ofF (rctor nm vs.toNat pa.toNat ((trow ty).1.length - pa.toNat) (trow ty).1) cts []).2 = 0
 · rw [if_pos h3, if_pos h3]
   exact ⟨rfl, rfl, rfl, fun _ => hp _, fun h => absurd rfl h⟩
 rw [if_neg h3, if_neg h3]
 exact ⟨rfl, rfl, rfl, fun h => absurd h h3, fun _ => rfl⟩
theorem same_refl (n : Nm) : n.same n = true := by unfold Nm.same; simp
theorem req_self {l : Lv} (h : rsound l = true) : req (lown l) l = true := by
 rw [req_own]; unfold req; rw [h, same_refl]; rfl
end Go.Proofs.Ytiampoebdmflgaa
/- What the law's small declaration looks like. -/
namespace Go.Proofs.Ytiampoebdmflgaa
open Go.RowKit
set_option linter.unusedVariables false
set_option maxRecDepth 100000
set_option maxHeartbeats 4000000
def natN : ByteArray := { data := #[110] }
def natC : Tm := .mk 7 0 natN lzero' [] []
def natS : Tm := .mk 2 0 ByteArray.empty (.mk 1 0 []) [] []
def natP : Tm := .mk 3 0 ByteArray.empty lzero' [] [natC, natC]
def natCs : List (ByteArray × Tm) := [({ data := #[122] }, natC), ({ data := #[115] }, natP)]
theorem nat_of : tof 3 natN 0 0 natS natCs = ((0, .mk 1 0 [], [(0, []), (1, [(0, 0)])]), 0) := by kernel_rfl
end Go.Proofs.Ytiampoebdmflgaa
/- A drawn region: two operations of which either may come first. -/
namespace Go.Proofs.Ytiampoebdmflgaa
open Go.RowKit
set_option linter.unusedVariables false
section
variable {P : Program} {ops : Array Oper} {Q : Exit → Act → World → Prop} {md : Region.Mode} {S : World → Prop}
theorem wpAnyE_br {z i j : Nat} {oi oj : Oper} {fuel : Nat} {listed : Array Bool} {a : Act} {w : World} (hr : Region.ready md ops listed = [i, j]) (hiz : (i == z) = false) (hjz : (j == z) = false)
    (hoi : ops[i]? = some oi) (hoj : ops[j]? = some oj) (hgi : Region.wanted oi (yielded ops a.tmps) = true) (hgj : Region.wanted oj (yielded ops a.tmps) = true)
    (h1 : ∀ K : Act → World → Prop, (∀ a' w', S w' → wpAnyE P md ops Q S z fuel (listed.setIfInBounds i true) a' w' → K a' w') → oi.wp P a w K Q)
    (h2 : ∀ K : Act → World → Prop, (∀ a' w', S w' → wpAnyE P md ops Q S z fuel (listed.setIfInBounds j true) a' w' → K a' w') → oj.wp P a w K Q) : wpAnyE P md ops Q S z (fuel + 1) listed a w := by
 refine ⟨fun h => (by rw [hr] at h; cases h), fun q hq => ?_⟩
 rw [hr] at hq
 have hi' : i ≠ z := by simpa using hiz
 have hj' : j ≠ z := by simpa using hjz
 rcases List.mem_cons.1 hq with rfl | hq
 · unfold wpOp
   rw [hoi]
   simp only [hgi, if_true]
   exact .inl (h1 _ fun a' w' h1 h2 => ⟨fun _ => ⟨h1, h2⟩, fun h => absurd h hi'⟩)
 obtain rfl : q = j := by simpa using hq
 unfold wpOp
 rw [hoj]
 simp only [hgj, if_true]
 exact .inl (h2 _ fun a' w' h1 h2 => ⟨fun _ => ⟨h1, h2⟩, fun h => absurd h hj'⟩)
end
end Go.Proofs.Ytiampoebdmflgaa
/- The law's awake. -/
namespace Go.Proofs.Ytiampoebdmflgaa
open Go.RowKit
set_option linter.unusedVariables false
set_option maxRecDepth 100000
set_option maxHeartbeats 8000000
set_option linter.unusedSimpArgs false
theorem ge_ne {s g : Nat} (h : g < s) : ∀ q, s ≤ q → q ≠ g := fun q hq e => by omega
def DI (I : Nat → Prop) (w : World) : Nat → Prop := fun q => q < w.heap.size ∧ I q
theorem DI_in (I : Nat → Prop) (w : World) : Within (DI I w) w := fun _ h => h.1
theorem DI_old {I : Nat → Prop} {w w' : World} (h : Upd nob w w') : Old (DI I w) w w' := fun q hq => h.block q hq.1 (fun f => f)
theorem DI_up {I : Nat → Prop} {w w' : World} (h : Upd nob w w') : ∀ q, DI I w q → DI I w' q := fun _ hq => ⟨Nat.lt_of_lt_of_le hq.1 h.size, hq.2⟩
def FR (I : Nat → Prop) (w : World) (sc : Array Value) : Prop :=
 ∃ (x y z : Value) (ab ao : Nat) (ac : Option Nat) (c : Nat) (b : Option Addr) (d : Nat), sc = #[.int .i64 0, x, y, z, .slice (some ⟨ab, ao, ac⟩) 2 c] ∧ sc.all (·.oneCell') = true ∧ DI I w ab ∧ w.cell? ⟨ab, ao + 2, none⟩ = some (.int .i64 1) ∧ w.cell? ⟨ab, ao + 3, none⟩ = some (.slice b 1 d)
theorem FR.upd {I : Nat → Prop} {w w' : World} {sc : Array Value} (h : FR I w sc) {S : Nat → Prop} (hu : Upd S w w') (hS : ∀ q, S q → ¬ DI I w q) {I' : Nat → Prop} (hI : ∀ q, DI I w q → I' q) : FR I' w' sc := by
 obtain ⟨x, y, z, ab, ao, ac, c, b, d, h1, h2, h3, h4, h5⟩ := h
 exact ⟨x, y, z, ab, ao, ac, c, b, d, h1, h2, ⟨Nat.lt_of_lt_of_le h3.1 hu.size, hI _ h3⟩, (hu.cell (p := ⟨ab, ao + 2, none⟩) h3.1 (fun h => hS _ h h3)).trans h4, (hu.cell (p := ⟨ab, ao + 3, none⟩) h3.1 (fun h => hS _ h h3)).trans h5⟩
theorem natC_lit {w : World} {cs : Array Value} (h : TmIs nob w natC cs) : ∃ x1 y1 z1 A1 c1 A2 c2, cs = #[.int .i64 7, .int .i64 0, .string natN, x1, y1, z1, .slice A1 0 c1, .slice A2 0 c2] := by
 obtain ⟨x1, y1, z1, A1, c1, A2, c2, h, _⟩ := h.lit
 exact ⟨x1, y1, z1, A1, c1, A2, c2, h⟩
theorem natP_lit {D : Nat → Prop} {w : World} {cs : Array Value} (h : TmIs D w natP cs) : ∃ x2 y2 z2 B1 d1 B2 d2, cs = #[.int .i64 3, .int .i64 0, .string ByteArray.empty, x2, y2, z2, .slice B1 0 d1, .slice B2 2 d2] := by
 obtain ⟨x1, y1, z1, A1, c1, A2, c2, h, _⟩ := h.lit
 exact ⟨x1, y1, z1, A1, c1, A2, c2, h⟩
theorem nat_bind {I : Nat → Prop} (w : World) (hI : ∀ q, w.heap.size ≤ q → I q) (cn : Array Value) (hN : TmIs nob w natC cn) :
    Calls Try.prog 18 #[.int .i64 3, .agg cn, .agg cn] w fun e w' => ∃ x2 y2 z2 B1 d1 B2 d2, e = .returned (.agg #[.int .i64 3, .int .i64 0, .string ByteArray.empty, x2, y2, z2, .slice B1 0 d1, .slice B2 2 d2]) ∧ TmIs (DI I w') w' natP #[.int .i64 3, .int .i64 0, .string ByteArray.empty, x2, y2, z2, .slice B1 0 d1, .slice B2 2 d2] ∧ Below w.heap.size w w' := by
 refine (rbind_any 3 (by unfold InI; omega) natC natC cn cn nob w (fun _ f => f.elim) hN hN).mono ?_
 rintro e w' ⟨cs, rfl, h1, h2⟩
 have h3 : TmIs (DI I w') w' natP cs := h1.old (Old.refl _ _) (fun q hq => hq.elim (fun f => f.elim) fun h => ⟨h.2, hI q h.1⟩)
 obtain ⟨x2, y2, z2, B1, d1, B2, d2, rfl⟩ := natP_lit h3
 exact ⟨x2, y2, z2, B1, d1, B2, d2, rfl, h3, h2⟩
theorem nat_ctors {I : Nat → Prop} (w : World) (hI : ∀ q, w.heap.size ≤ q → I q) (x1 y1 z1 : Value) (A1 A2 : Option Addr) (c1 c2 : Nat) (x2 y2 z2 : Value) (B1 B2 : Option Addr) (d1 d2 : Nat) (hN : TmIs nob w natC #[.int .i64 7, .int .i64 0, .string natN, x1, y1, z1, .slice A1 0 c1, .slice A2 0 c2]) (hP : TmIs (DI I w) w natP #[.int .i64 3, .int .i64 0, .string ByteArray.empty, x2, y2, z2, .slice B1 0 d1, .slice B2 2 d2]) :
    CtorsAt (DI I (w.alloc (.cells #[.string { data := #[122] }, .int .i64 7, .int .i64 0, .string natN, x1, y1, z1, .slice A1 0 c1, .slice A2 0 c2, .string { data := #[115] }, .int .i64 3, .int .i64 0, .string ByteArray.empty, x2, y2, z2, .slice B1 0 d1, .slice B2 2 d2] 46))) (w.alloc (.cells #[.string { data := #[122] }, .int .i64 7, .int .i64 0, .string natN, x1, y1, z1, .slice A1 0 c1, .slice A2 0 c2, .string { data := #[115] }, .int .i64 3, .int .i64 0, .string ByteArray.empty, x2, y2, z2, .slice B1 0 d1, .slice B2 2 d2] 46)) natCs (some ⟨w.heap.size, 0, none⟩) := by
 have hb := Blk.new w 46 (#[.string { data := #[122] }, .int .i64 7, .int .i64 0, .string natN, x1, y1, z1, .slice A1 0 c1, .slice A2 0 c2] ++ #[.string { data := #[115] }, .int .i64 3, .int .i64 0, .string ByteArray.empty, x2, y2, z2, .slice B1 0 d1, .slice B2 2 d2])
 have hu : Upd nob w (w.alloc (.cells #[.string { data := #[122] }, .int .i64 7, .int .i64 0, .string natN, x1, y1, z1, .slice A1 0 c1, .slice A2 0 c2, .string { data := #[115] }, .int .i64 3, .int .i64 0, .string ByteArray.empty, x2, y2, z2, .slice B1 0 d1, .slice B2 2 d2] 46)) := (Upd.refl nob w).alloc _
 have hg : DI I (w.alloc (.cells #[.string { data := #[122] }, .int .i64 7, .int .i64 0, .string natN, x1, y1, z1, .slice A1 0 c1, .slice A2 0 c2, .string { data := #[115] }, .int .i64 3, .int .i64 0, .string ByteArray.empty, x2, y2, z2, .slice B1 0 d1, .slice B2 2 d2] 46)) w.heap.size := ⟨by simp, hI _ (Nat.le_refl _)⟩
 have hr1 : rowAt (w.alloc (.cells #[.string { data := #[122] }, .int .i64 7, .int .i64 0, .string natN, x1, y1, z1, .slice A1 0 c1, .slice A2 0 c2, .string { data := #[115] }, .int .i64 3, .int .i64 0, .string ByteArray.empty, x2, y2, z2, .slice B1 0 d1, .slice B2 2 d2] 46)) ((⟨w.heap.size, 0, none⟩ : Addr).add (0 * 9)) #[.string { data := #[122] }, .int .i64 7, .int .i64 0, .string natN, x1, y1, z1, .slice A1 0 c1, .slice A2 0 c2] := sub_row hb.rowAt _ _ fun j v hv => by
  have hj : j < (#[.string { data := #[122] }, .int .i64 7, .int .i64 0, .string natN, x1, y1, z1, .slice A1 0 c1, .slice A2 0 c2] : Array Value).size := (Array.getElem?_eq_some_iff.1 hv).1
  rw [Nat.zero_mul, Nat.zero_add, Array.getElem?_append_left hj]; exact hv
 have hr2 : rowAt (w.alloc (.cells #[.string { data := #[122] }, .int .i64 7, .int .i64 0, .string natN, x1, y1, z1, .slice A1 0 c1, .slice A2 0 c2, .string { data := #[115] }, .int .i64 3, .int .i64 0, .string ByteArray.empty, x2, y2, z2, .slice B1 0 d1, .slice B2 2 d2] 46)) ((⟨w.heap.size, 0, none⟩ : Addr).add (1 * 9)) #[.string { data := #[115] }, .int .i64 3, .int .i64 0, .string ByteArray.empty, x2, y2, z2, .slice B1 0 d1, .slice B2 2 d2] := sub_row hb.rowAt _ _ fun j v hv => by
  have h9 : (#[.string { data := #[122] }, .int .i64 7, .int .i64 0, .string natN, x1, y1, z1, .slice A1 0 c1, .slice A2 0 c2] : Array Value).size = 9 := rfl
  rw [Array.getElem?_append_right (by rw [h9]; omega), h9, Nat.one_mul, Nat.add_sub_cancel_left]; exact hv
 intro j x hj
 match j with
 | 0 =>
  have : x = ({ data := #[122] }, natC) := by simpa [natCs] using hj.symm
  subst this
  exact ⟨_, #[.int .i64 7, .int .i64 0, .string natN, x1, y1, z1, .slice A1 0 c1, .slice A2 0 c2], rfl, hg, hr1, hN.old (Old.of_upd hu fun _ f => f.elim) (fun _ f => f.elim)⟩
 | 1 =>
  have : x = ({ data := #[115] }, natP) := by simpa [natCs] using hj.symm
  subst this
  exact ⟨_, #[.int .i64 3, .int .i64 0, .string ByteArray.empty, x2, y2, z2, .slice B1 0 d1, .slice B2 2 d2], rfl, hg, hr2, hP.old (DI_old hu) (DI_up hu)⟩
 | j + 2 => simp [natCs] at hj
theorem natS_is (D : Nat → Prop) (w : World) : TmIs D w natS #[.int .i64 2, .int .i64 0, .string ByteArray.empty, .int .i64 1, .int .i64 0, .slice none 0 0, .slice none 0 0, .slice none 0 0] := by
 simp only [natS, TmIs]
 refine ⟨_, _, _, none, 0, none, 0, rfl, by unfold InI; omega, by unfold InI; omega, by simp, ?_, ⟨by simp, by simp⟩, by simp only [LvsAt], ⟨by simp, by simp⟩, by simp only [TmsAt]⟩
 simp only [LvIs]
 exact ⟨none, 0, rfl, by unfold InI; omega, by unfold InI; omega, ⟨by simp, by simp⟩, by simp only [LvsAt]⟩
theorem nat_shape {I : Nat → Prop} (w : World) (hI : ∀ q, w.heap.size ≤ q → I q) (h : Nat) (hC : CtorsAt (DI I w) w natCs (some ⟨h, 0, none⟩)) :
    Calls Try.prog 10 #[.agg #[.int .i64 3, .string natN, .int .i64 0, .int .i64 2, .int .i64 0, .string ByteArray.empty, .int .i64 1, .int .i64 0, .slice none 0 0, .slice none 0 0, .slice none 0 0, .int .i64 0, .int .i64 0, .string ByteArray.empty, .int .i64 0, .int .i64 0, .slice none 0 0, .slice none 0 0, .slice none 0 0, .int .i64 0, .slice (some ⟨h, 0, none⟩) 2 2]] w fun e w' => ∃ sc, e = .returned (.tuple #[.agg sc, .int .i64 0]) ∧ FR I w' sc ∧ Below w.heap.size w w' := by
 refine (tof_any 3 natN 0 0 natS natCs _ _ _ _ _ _ _ _ _ _ _ _ _ _ _ _ (some ⟨h, 0, none⟩) 2 (DI I w) w (DI_in I w) (natS_is _ _) (by decide) hC (by decide) (by decide) (by decide)).mono ?_
 rintro e w' ⟨cs, rfl, hs, hb⟩
 rw [nat_of] at hs
 have e2 : (tof 3 natN 0 0 natS natCs).2 = 0 := by rw [nat_of]
 rw [e2]
 obtain ⟨x, y, z, A, c, rfl, hl, hc⟩ := hs
 obtain ⟨a, cs1, hA, hD, hr, A2, d, hcs, _⟩ := hc 1 (1, [(0, 0)]) rfl
 obtain ⟨ab, ao, ac⟩ := a
 subst hA
 subst hcs
 refine ⟨_, rfl, ⟨x, y, z, ab, ao, ac, c, A2, d, rfl, ?_, ?_, by simpa [Addr.add] using hr 0 (.int .i64 1) rfl, by simpa [Addr.add] using hr 1 (.slice A2 1 d) rfl⟩, hb⟩
 · have h1 := hl.oneCell.2
   simp [Value.oneCell'] at h1 ⊢
   exact h1
 rcases hD with hD | hD
 · exact ⟨Nat.lt_of_lt_of_le hD.1 (Upd.of_below (S := nob) hb).size, hD.2⟩
 exact ⟨hD.2, hI _ hD.1⟩
set_option maxHeartbeats 16000000 in
theorem awake_any (w : World) : Calls Try.prog 9 #[] w fun e w' => e = .returned (.bool true) ∧ Below w.heap.size w w' := by
 have hz := tm_zero
 have hz2 := sh_zero
 go_enter Try.func9, Try.ntmps9
 go_wp2_with fail
 refine (rsort_any 1 0 none 0 0 w).mono ?_
 rintro e w1 ⟨rfl, hb1⟩
 have hu1 : Upd nob w w1 := Upd.of_below hb1
 go_wp2_with fail
 obtain ⟨W2, hW2⟩ : ∃ W2, w1.alloc (.cells #[.int .i64 2, .int .i64 0, .string ByteArray.empty, .int .i64 1, .int .i64 0, .slice none 0 0, .slice none 0 0, .slice none 0 0] 27) = W2 := ⟨_, rfl⟩
 have hu2 : Upd nob w1 W2 := by rw [← hW2]; exact (Upd.refl nob w1).alloc _
 have hb2 : Blk W2 w1.heap.size 27 #[.int .i64 2, .int .i64 0, .string ByteArray.empty, .int .i64 1, .int .i64 0, .slice none 0 0, .slice none 0 0, .slice none 0 0] := by rw [← hW2]; exact Blk.new w1 _ _
 rw [hW2]
 clear hW2
 have HB2 := Lib.hid hb2
 have HB1 := Lib.hid hb1
 clear hb2 hb1
 refine (rconst_any natN (by decide) [] none 0 nob W2 (fun _ f => f.elim) (by simp) (by simp only [LvsAt])).mono ?_
 rintro e w3 ⟨cn, rfl, hN, hb3⟩
 have hu3 : Upd nob W2 w3 := Upd.of_below hb3
 have hN' : TmIs nob w3 natC cn := hN
 obtain ⟨x1, y1, z1, A1, c1, A2, c2, rfl⟩ := natC_lit hN'
 have HN := Lib.hid hN'
 have HB3 := Lib.hid hb3
 have HS := Lib.hid (hN'.oneCell)
 clear hN hN' hb3
 go_wp2_with (first
  | ((with_reducible refine this_op (.store 27 (.tmp 2) (.tmp 7)) ?_); refine wpList_store_row rfl 27 (.tmp 2) (.tmp 7) rfl w3.heap.size _ rfl rfl 27 _ (Blk.new w3 _ _) tm_size rfl HS.out.2 ?_))
 obtain ⟨W4, hW4⟩ : ∃ W4, (w3.alloc (.cells #[.int .i64 0, .int .i64 0, .string ByteArray.empty, .int .i64 0, .int .i64 0, .slice none 0 0, .slice none 0 0, .slice none 0 0] 27)).setRow w3.heap.size #[.int .i64 7, .int .i64 0, .string natN, x1, y1, z1, .slice A1 0 c1, .slice A2 0 c2] = W4 := ⟨_, rfl⟩
 have hu4 : Upd nob w3 W4 := by rw [← hW4]; exact ((Upd.refl nob w3).alloc _).setRow (.inr (Nat.le_refl _)) _
 have hb4 : Blk W4 w3.heap.size 27 #[.int .i64 7, .int .i64 0, .string natN, x1, y1, z1, .slice A1 0 c1, .slice A2 0 c2] := by rw [← hW4]; exact (Blk.new w3 _ _).row _
 rw [hW4]
 clear hW4
 have hu04 : Upd nob w W4 := ((hu1.trans hu2).trans hu3).trans hu4
 have hb24 := (HB2.out.upd hu3 (fun f => f)).upd hu4 (fun f => f)
 have r1 := hb24.rowAt
 have r2 := hb4.rowAt
 have hlt1 := hb24.lt
 have hlt2 := hb4.lt
 have HN4 := Lib.hid (HN.out.old (D' := nob) (Old.of_upd hu4 fun _ f => f.elim) (fun _ f => f.elim))
 clear HN HB2 hb24 hb4 HB1 HB3
 refine wp_region_P (by kernel_rfl) ?_
 refine wpAny_of_E (fun X : World => ∀ p : Addr, p.block < W4.heap.size → X.cell? p = W4.cell? p) 15 _ _ _ _ ?_
 have hS : ∀ p : Addr, p.block < W4.heap.size → W4.drew.cell? p = W4.cell? p := fun _ _ => rfl
 refine eT 0 (.agg #[.int .i64 2, .int .i64 0, .string ByteArray.empty, .int .i64 1, .int .i64 0, .slice none 0 0, .slice none 0 0, .slice none 0 0]) [] rfl (by kernel_rfl) (by rfl) ?_ hS ?_
 · intro wx hx
   exact run_load_at 27 (.tmp 1) rfl ⟨w1.heap.size, 0, none⟩ rfl #[.int .i64 2, .int .i64 0, .string ByteArray.empty, .int .i64 1, .int .i64 0, .slice none 0 0, .slice none 0 0, .slice none 0 0] _ (row_on r1 hlt1 hx) Try.underlying27 rfl tm_size
 try simp only [tl]
 refine eT 1 (.agg #[.int .i64 7, .int .i64 0, .string natN, x1, y1, z1, .slice A1 0 c1, .slice A2 0 c2]) [] rfl (by kernel_rfl) (by rfl) ?_ hS ?_
 · intro wx hx
   exact run_load_at 27 (.tmp 2) rfl ⟨w3.heap.size, 0, none⟩ rfl #[.int .i64 7, .int .i64 0, .string natN, x1, y1, z1, .slice A1 0 c1, .slice A2 0 c2] _ (row_on r2 hlt2 hx) Try.underlying27 rfl tm_size
 try simp only [tl]
 refine eT 2 ?_ [] rfl (by kernel_rfl) (by rfl) ?_ hS ?_
 rotate_left; · intro wx hx; clear hx; go_simp; with_reducible rfl
 try simp only [tl]
 refine eT 3 (.agg #[.int .i64 7, .int .i64 0, .string natN, x1, y1, z1, .slice A1 0 c1, .slice A2 0 c2]) [] rfl (by kernel_rfl) (by rfl) ?_ hS ?_
 · intro wx hx
   exact run_load_at 27 (.tmp 2) rfl ⟨w3.heap.size, 0, none⟩ rfl #[.int .i64 7, .int .i64 0, .string natN, x1, y1, z1, .slice A1 0 c1, .slice A2 0 c2] _ (row_on r2 hlt2 hx) Try.underlying27 rfl tm_size
 try simp only [tl]
 refine eT 4 (.agg #[.int .i64 7, .int .i64 0, .string natN, x1, y1, z1, .slice A1 0 c1, .slice A2 0 c2]) [] rfl (by kernel_rfl) (by rfl) ?_ hS ?_
 · intro wx hx
   exact run_load_at 27 (.tmp 2) rfl ⟨w3.heap.size, 0, none⟩ rfl #[.int .i64 7, .int .i64 0, .string natN, x1, y1, z1, .slice A1 0 c1, .slice A2 0 c2] _ (row_on r2 hlt2 hx) Try.underlying27 rfl tm_size
 try simp only [tl]
 refine wpAnyE_br (i := 5) (j := 13) (by kernel_rfl) (by kernel_rfl) (by kernel_rfl) rfl rfl (by rfl) (by rfl) (fun K hK => ?_) (fun K hK => ?_)
 · go_simp
   refine (nat_bind (I := fun _ => True) W4.drew (fun _ _ => trivial) _ (HN4.out.old (D' := nob) (Old.of_upd ((Upd.refl nob W4).drew) fun _ f => f.elim) (fun _ f => f.elim))).mono ?_
   rintro e w5 ⟨x2, y2, z2, B1, d1, B2, d2, rfl, hP5, hb5⟩
   have hu5 : Upd nob W4.drew w5 := Upd.of_below hb5
   have hu45 : Upd nob W4 w5 := ((Upd.refl nob W4).drew).trans hu5
   refine hK _ _ (cells_of_upd hu45) ?_
   clear hK K; try simp only [tl]
   have hS : ∀ p : Addr, p.block < W4.heap.size → w5.cell? p = W4.cell? p := cells_of_upd hu45
   have HP5 := Lib.hid hP5
   clear hP5 hb5
   refine eT 6 ?_ [] rfl (by kernel_rfl) (by rfl) ?_ hS ?_
   rotate_left; · intro wx hx; clear hx; go_simp; with_reducible rfl
   try simp only [tl]
   refine wpAnyE_br (i := 7) (j := 13) (by kernel_rfl) (by kernel_rfl) (by kernel_rfl) rfl rfl (by rfl) (by rfl) (fun K hK => ?_) (fun K hK => ?_)
   · go_simp
     obtain ⟨w7, hw7⟩ : ∃ w7, w5.alloc (.cells #[.string { data := #[122] }, .int .i64 7, .int .i64 0, .string natN, x1, y1, z1, .slice A1 0 c1, .slice A2 0 c2, .string { data := #[115] }, .int .i64 3, .int .i64 0, .string ByteArray.empty, x2, y2, z2, .slice B1 0 d1, .slice B2 2 d2] 46) = w7 := ⟨_, rfl⟩
     have hu7 : Upd nob w5 w7 := by rw [← hw7]; exact (Upd.refl nob w5).alloc _
     have hC7 : CtorsAt (DI (fun _ => True) w7) w7 natCs (some ⟨w5.heap.size, 0, none⟩) := by
      rw [← hw7]
      exact nat_ctors w5 (fun _ _ => trivial) _ _ _ _ _ _ _ _ _ _ _ _ _ _ (HN4.out.old (D' := nob) (Old.of_upd (hu45) fun _ f => f.elim) (fun _ f => f.elim)) (HP5.out)
     rw [hw7]
     clear hw7
     have hu47 : Upd nob W4 w7 := (hu45).trans hu7
     refine hK _ _ (cells_of_upd hu47) ?_
     clear hK K; try simp only [tl]
     have hS : ∀ p : Addr, p.block < W4.heap.size → w7.cell? p = W4.cell? p := cells_of_upd hu47
     have HC7 := Lib.hid hC7
     clear hC7
     refine eT 8 ?_ [] rfl (by kernel_rfl) (by rfl) ?_ hS ?_
     rotate_left; · intro wx hx; clear hx; go_simp; with_reducible rfl
     try simp only [tl]
     refine wpAnyE_br (i := 9) (j := 13) (by kernel_rfl) (by kernel_rfl) (by kernel_rfl) rfl rfl (by rfl) (by rfl) (fun K hK => ?_) (fun K hK => ?_)
     · go_simp
       refine (nat_shape (I := fun _ => True) w7 (fun _ _ => trivial) _ (HC7.out)).mono ?_
       rintro e w9 ⟨sc, rfl, hF9, hb9⟩
       have hu9 : Upd nob w7 w9 := Upd.of_below hb9
       have hu49 : Upd nob W4 w9 := (hu47).trans hu9
       refine hK _ _ (cells_of_upd hu49) ?_
       clear hK K; try simp only [tl]
       have hS : ∀ p : Addr, p.block < W4.heap.size → w9.cell? p = W4.cell? p := cells_of_upd hu49
       have HF9 := Lib.hid hF9
       clear hF9 hb9
       refine eT 10 ?_ [] rfl (by kernel_rfl) (by rfl) ?_ hS ?_
       rotate_left; · intro wx hx; clear hx; go_simp; with_reducible rfl
       try simp only [tl]
       refine eT 11 ?_ [] rfl (by kernel_rfl) (by rfl) ?_ hS ?_
       rotate_left; · intro wx hx; clear hx; go_simp; with_reducible rfl
       try simp only [tl]
       refine eT 12 ?_ [] rfl (by kernel_rfl) (by rfl) ?_ hS ?_
       rotate_left; · intro wx hx; clear hx; go_simp; with_reducible rfl
       try simp only [tl]
       refine wpAnyE_one (i := 13) (by kernel_rfl) (by kernel_rfl) rfl (by rfl) fun K hK => ?_
       go_simp
       have hua4 : Upd nob w9 (w9.alloc (.cells #[.int .i64 0, .int .i64 0, .int .i64 0, .slice none 0 0, .slice none 0 0] 35)) := (Upd.refl nob w9).alloc _
       obtain ⟨wa4, hwa4⟩ : ∃ wa, w9.alloc (.cells #[.int .i64 0, .int .i64 0, .int .i64 0, .slice none 0 0, .slice none 0 0] 35) = wa := ⟨_, rfl⟩
       have hbga4 : Blk wa4 w9.heap.size 35 #[.int .i64 0, .int .i64 0, .int .i64 0, .slice none 0 0, .slice none 0 0] := by rw [← hwa4]; exact Blk.new w9 _ _
       have hsza4 : wa4.heap.size = w9.heap.size + 1 := by rw [← hwa4]; simp
       rw [hwa4] at hua4 ⊢
       clear hwa4
       have hu4a4 : Upd nob W4 wa4 := (hu49).trans hua4
       refine hK _ _ (cells_of_upd hu4a4) ?_
       clear hK K; try simp only [tl]
       have hS : ∀ p : Addr, p.block < W4.heap.size → wa4.cell? p = W4.cell? p := cells_of_upd hu4a4
       have HF9a := Lib.hid (HF9.out.upd hua4 (fun _ f => f.elim) (I' := fun q => q ≠ w9.heap.size) (fun q h => by have := h.1; omega))
       clear hsza4
       have hFF : FR (fun q => q ≠ w9.heap.size) wa4 sc := HF9a.out
       have hbG : Blk wa4 w9.heap.size 35 #[.int .i64 0, .int .i64 0, .int .i64 0, .slice none 0 0, .slice none 0 0] := hbga4
       have hgW : W4.heap.size ≤ w9.heap.size := (by have h1 : W4.heap.size ≤ w9.heap.size := (hu49).size; exact h1)
       obtain ⟨gg, hgg⟩ : ∃ gg, w9.heap.size = gg := ⟨_, rfl⟩
       rw [hgg] at hFF hbG hgW ⊢
       clear hgg
       obtain ⟨x, y, z, ab, ao, ac, c, b, d, rfl, hone, hDI, hq2, hq3⟩ := hFF
       refine wpAnyE_one (i := 14) (by kernel_rfl) (by kernel_rfl) rfl (by rfl) fun K hK => ?_
       refine owp_store_blk 35 (.tmp 3) (.tmp 19) rfl rfl gg _ rfl rfl 35 _ hbG sh_size rfl hone ?_
       have hSF : ∀ p : Addr, p.block < W4.heap.size → (wa4.setRow gg #[.int .i64 0, x, y, z, .slice (some ⟨ab, ao, ac⟩) 2 c]).cell? p = W4.cell? p := fun p hp => (((Upd.refl (fun q => q = gg) wa4).setRow (.inl rfl) _).cell (by have := (hu4a4).size; omega) (fun h => by have : p.block = gg := h; omega)).trans (hS p hp)
       refine hK _ _ hSF ?_
       clear hK K; try simp only [tl]
       refine wpAnyE_z (by kernel_rfl) rfl (by rfl) fun K hK => ?_
       go_simp
       refine hK _ _ ?_
       clear hK K; try simp only [tl]
       refine wpAny_done (by kernel_rfl) ?_ _
       refine NoPanic.normal ?_
       have hG := hbG.row #[.int .i64 0, x, y, z, .slice (some ⟨ab, ao, ac⟩) 2 c]
       obtain ⟨WF, hWF⟩ : ∃ WF, wa4.setRow gg #[.int .i64 0, x, y, z, .slice (some ⟨ab, ao, ac⟩) 2 c] = WF := ⟨_, rfl⟩
       have huF : Upd (fun q => q = gg) wa4 WF := by rw [← hWF]; exact (Upd.refl (fun q => q = gg) wa4).setRow (.inl rfl) _
       rw [hWF] at hG ⊢
       clear hWF
       have k2 : WF.cell? ⟨ab, ao + 2, none⟩ = some (.int .i64 1) := (huF.cell (p := ⟨ab, ao + 2, none⟩) hDI.1 (fun h => hDI.2 h)).trans hq2
       have k3 : WF.cell? ⟨ab, ao + 3, none⟩ = some (.slice b 1 d) := (huF.cell (p := ⟨ab, ao + 3, none⟩) hDI.1 (fun h => hDI.2 h)).trans hq3
       have k4 : WF.cell? ⟨gg, 4, none⟩ = some (.slice (some ⟨ab, ao, ac⟩) 2 c) := hG.cell 4
       have hbel : Below w.heap.size w WF := ((hu04.trans (hu4a4)).trans' huF (fun q hq h => by have : q = gg := h; have := hu04.size; omega)).below
       clear hG huF hq2 hq3 hDI hbG
       go_wp2_with fail
       go_ret
       exact ⟨rfl, hbel⟩
     go_simp
     have hua3 : Upd nob w7 (w7.alloc (.cells #[.int .i64 0, .int .i64 0, .int .i64 0, .slice none 0 0, .slice none 0 0] 35)) := (Upd.refl nob w7).alloc _
     obtain ⟨wa3, hwa3⟩ : ∃ wa, w7.alloc (.cells #[.int .i64 0, .int .i64 0, .int .i64 0, .slice none 0 0, .slice none 0 0] 35) = wa := ⟨_, rfl⟩
     have hbga3 : Blk wa3 w7.heap.size 35 #[.int .i64 0, .int .i64 0, .int .i64 0, .slice none 0 0, .slice none 0 0] := by rw [← hwa3]; exact Blk.new w7 _ _
     have hsza3 : wa3.heap.size = w7.heap.size + 1 := by rw [← hwa3]; simp
     rw [hwa3] at hua3 ⊢
     clear hwa3
     have hu4a3 : Upd nob W4 wa3 := (hu47).trans hua3
     refine hK _ _ (cells_of_upd hu4a3) ?_
     clear hK K; try simp only [tl]
     have hS : ∀ p : Addr, p.block < W4.heap.size → wa3.cell? p = W4.cell? p := cells_of_upd hu4a3
     have HC7a := Lib.hid (HC7.out.old (D' := DI (fun q => q ≠ w7.heap.size) wa3) (DI_old hua3) (fun q hq => ⟨by have := hq.1; omega, by have := hq.1; omega⟩))
     clear hsza3
     refine wpAnyE_one (i := 9) (by kernel_rfl) (by kernel_rfl) rfl (by rfl) fun K hK => ?_
     go_simp
     refine (nat_shape (I := fun q => q ≠ w7.heap.size) wa3 (ge_ne (hbga3).lt) _ (HC7a.out)).mono ?_
     rintro e w9 ⟨sc, rfl, hF9, hb9⟩
     have hu9 : Upd nob wa3 w9 := Upd.of_below hb9
     have hu49 : Upd nob W4 w9 := (hu4a3).trans hu9
     refine hK _ _ (cells_of_upd hu49) ?_
     clear hK K; try simp only [tl]
     have hS : ∀ p : Addr, p.block < W4.heap.size → w9.cell? p = W4.cell? p := cells_of_upd hu49
     have HF9 := Lib.hid hF9
     clear hF9 hb9
     have hbg9 := (hbga3).upd hu9 (fun f => f)
     refine eT 10 ?_ [] rfl (by kernel_rfl) (by rfl) ?_ hS ?_
     rotate_left; · intro wx hx; clear hx; go_simp; with_reducible rfl
     try simp only [tl]
     refine eT 11 ?_ [] rfl (by kernel_rfl) (by rfl) ?_ hS ?_
     rotate_left; · intro wx hx; clear hx; go_simp; with_reducible rfl
     try simp only [tl]
     refine eT 12 ?_ [] rfl (by kernel_rfl) (by rfl) ?_ hS ?_
     rotate_left; · intro wx hx; clear hx; go_simp; with_reducible rfl
     try simp only [tl]
     have hFF : FR (fun q => q ≠ w7.heap.size) w9 sc := HF9.out
     have hbG : Blk w9 w7.heap.size 35 #[.int .i64 0, .int .i64 0, .int .i64 0, .slice none 0 0, .slice none 0 0] := hbg9
     have hgW : W4.heap.size ≤ w7.heap.size := (by have h1 : W4.heap.size ≤ w7.heap.size := (hu47).size; exact h1)
     obtain ⟨gg, hgg⟩ : ∃ gg, w7.heap.size = gg := ⟨_, rfl⟩
     rw [hgg] at hFF hbG hgW ⊢
     clear hgg
     obtain ⟨x, y, z, ab, ao, ac, c, b, d, rfl, hone, hDI, hq2, hq3⟩ := hFF
     refine wpAnyE_one (i := 14) (by kernel_rfl) (by kernel_rfl) rfl (by rfl) fun K hK => ?_
     refine owp_store_blk 35 (.tmp 3) (.tmp 19) rfl rfl gg _ rfl rfl 35 _ hbG sh_size rfl hone ?_
     have hSF : ∀ p : Addr, p.block < W4.heap.size → (w9.setRow gg #[.int .i64 0, x, y, z, .slice (some ⟨ab, ao, ac⟩) 2 c]).cell? p = W4.cell? p := fun p hp => (((Upd.refl (fun q => q = gg) w9).setRow (.inl rfl) _).cell (by have := (hu49).size; omega) (fun h => by have : p.block = gg := h; omega)).trans (hS p hp)
     refine hK _ _ hSF ?_
     clear hK K; try simp only [tl]
     refine wpAnyE_z (by kernel_rfl) rfl (by rfl) fun K hK => ?_
     go_simp
     refine hK _ _ ?_
     clear hK K; try simp only [tl]
     refine wpAny_done (by kernel_rfl) ?_ _
     refine NoPanic.normal ?_
     have hG := hbG.row #[.int .i64 0, x, y, z, .slice (some ⟨ab, ao, ac⟩) 2 c]
     obtain ⟨WF, hWF⟩ : ∃ WF, w9.setRow gg #[.int .i64 0, x, y, z, .slice (some ⟨ab, ao, ac⟩) 2 c] = WF := ⟨_, rfl⟩
     have huF : Upd (fun q => q = gg) w9 WF := by rw [← hWF]; exact (Upd.refl (fun q => q = gg) w9).setRow (.inl rfl) _
     rw [hWF] at hG ⊢
     clear hWF
     have k2 : WF.cell? ⟨ab, ao + 2, none⟩ = some (.int .i64 1) := (huF.cell (p := ⟨ab, ao + 2, none⟩) hDI.1 (fun h => hDI.2 h)).trans hq2
     have k3 : WF.cell? ⟨ab, ao + 3, none⟩ = some (.slice b 1 d) := (huF.cell (p := ⟨ab, ao + 3, none⟩) hDI.1 (fun h => hDI.2 h)).trans hq3
     have k4 : WF.cell? ⟨gg, 4, none⟩ = some (.slice (some ⟨ab, ao, ac⟩) 2 c) := hG.cell 4
     have hbel : Below w.heap.size w WF := ((hu04.trans (hu49)).trans' huF (fun q hq h => by have : q = gg := h; have := hu04.size; omega)).below
     clear hG huF hq2 hq3 hDI hbG
     go_wp2_with fail
     go_ret
     exact ⟨rfl, hbel⟩
   go_simp
   have hua2 : Upd nob w5 (w5.alloc (.cells #[.int .i64 0, .int .i64 0, .int .i64 0, .slice none 0 0, .slice none 0 0] 35)) := (Upd.refl nob w5).alloc _
   obtain ⟨wa2, hwa2⟩ : ∃ wa, w5.alloc (.cells #[.int .i64 0, .int .i64 0, .int .i64 0, .slice none 0 0, .slice none 0 0] 35) = wa := ⟨_, rfl⟩
   have hbga2 : Blk wa2 w5.heap.size 35 #[.int .i64 0, .int .i64 0, .int .i64 0, .slice none 0 0, .slice none 0 0] := by rw [← hwa2]; exact Blk.new w5 _ _
   have hsza2 : wa2.heap.size = w5.heap.size + 1 := by rw [← hwa2]; simp
   rw [hwa2] at hua2 ⊢
   clear hwa2
   have hu4a2 : Upd nob W4 wa2 := (hu45).trans hua2
   refine hK _ _ (cells_of_upd hu4a2) ?_
   clear hK K; try simp only [tl]
   have hS : ∀ p : Addr, p.block < W4.heap.size → wa2.cell? p = W4.cell? p := cells_of_upd hu4a2
   have HP5a := Lib.hid (HP5.out.old (D' := DI (fun q => q ≠ w5.heap.size) wa2) (DI_old hua2) (fun q hq => ⟨by have := hq.1; omega, by have := hq.1; omega⟩))
   clear hsza2
   refine wpAnyE_one (i := 7) (by kernel_rfl) (by kernel_rfl) rfl (by rfl) fun K hK => ?_
   go_simp
   obtain ⟨w7, hw7⟩ : ∃ w7, wa2.alloc (.cells #[.string { data := #[122] }, .int .i64 7, .int .i64 0, .string natN, x1, y1, z1, .slice A1 0 c1, .slice A2 0 c2, .string { data := #[115] }, .int .i64 3, .int .i64 0, .string ByteArray.empty, x2, y2, z2, .slice B1 0 d1, .slice B2 2 d2] 46) = w7 := ⟨_, rfl⟩
   have hu7 : Upd nob wa2 w7 := by rw [← hw7]; exact (Upd.refl nob wa2).alloc _
   have hC7 : CtorsAt (DI (fun q => q ≠ w5.heap.size) w7) w7 natCs (some ⟨wa2.heap.size, 0, none⟩) := by
    rw [← hw7]
    exact nat_ctors wa2 (ge_ne (hbga2).lt) _ _ _ _ _ _ _ _ _ _ _ _ _ _ (HN4.out.old (D' := nob) (Old.of_upd (hu4a2) fun _ f => f.elim) (fun _ f => f.elim)) (HP5a.out)
   rw [hw7]
   clear hw7
   have hu47 : Upd nob W4 w7 := (hu4a2).trans hu7
   refine hK _ _ (cells_of_upd hu47) ?_
   clear hK K; try simp only [tl]
   have hS : ∀ p : Addr, p.block < W4.heap.size → w7.cell? p = W4.cell? p := cells_of_upd hu47
   have HC7 := Lib.hid hC7
   clear hC7
   have hbg7 := (hbga2).upd hu7 (fun f => f)
   refine eT 8 ?_ [] rfl (by kernel_rfl) (by rfl) ?_ hS ?_
   rotate_left; · intro wx hx; clear hx; go_simp; with_reducible rfl
   try simp only [tl]
   refine wpAnyE_one (i := 9) (by kernel_rfl) (by kernel_rfl) rfl (by rfl) fun K hK => ?_
   go_simp
   refine (nat_shape (I := fun q => q ≠ w5.heap.size) w7 (ge_ne (hbg7).lt) _ (HC7.out)).mono ?_
   rintro e w9 ⟨sc, rfl, hF9, hb9⟩
   have hu9 : Upd nob w7 w9 := Upd.of_below hb9
   have hu49 : Upd nob W4 w9 := (hu47).trans hu9
   refine hK _ _ (cells_of_upd hu49) ?_
   clear hK K; try simp only [tl]
   have hS : ∀ p : Addr, p.block < W4.heap.size → w9.cell? p = W4.cell? p := cells_of_upd hu49
   have HF9 := Lib.hid hF9
   clear hF9 hb9
   have hbg9 := (hbg7).upd hu9 (fun f => f)
   refine eT 10 ?_ [] rfl (by kernel_rfl) (by rfl) ?_ hS ?_
   rotate_left; · intro wx hx; clear hx; go_simp; with_reducible rfl
   try simp only [tl]
   refine eT 11 ?_ [] rfl (by kernel_rfl) (by rfl) ?_ hS ?_
   rotate_left; · intro wx hx; clear hx; go_simp; with_reducible rfl
   try simp only [tl]
   refine eT 12 ?_ [] rfl (by kernel_rfl) (by rfl) ?_ hS ?_
   rotate_left; · intro wx hx; clear hx; go_simp; with_reducible rfl
   try simp only [tl]
   have hFF : FR (fun q => q ≠ w5.heap.size) w9 sc := HF9.out
   have hbG : Blk w9 w5.heap.size 35 #[.int .i64 0, .int .i64 0, .int .i64 0, .slice none 0 0, .slice none 0 0] := hbg9
   have hgW : W4.heap.size ≤ w5.heap.size := (by have h1 : W4.heap.size ≤ w5.heap.size := (hu45).size; exact h1)
   obtain ⟨gg, hgg⟩ : ∃ gg, w5.heap.size = gg := ⟨_, rfl⟩
   rw [hgg] at hFF hbG hgW ⊢
   clear hgg
   obtain ⟨x, y, z, ab, ao, ac, c, b, d, rfl, hone, hDI, hq2, hq3⟩ := hFF
   refine wpAnyE_one (i := 14) (by kernel_rfl) (by kernel_rfl) rfl (by rfl) fun K hK => ?_
   refine owp_store_blk 35 (.tmp 3) (.tmp 19) rfl rfl gg _ rfl rfl 35 _ hbG sh_size rfl hone ?_
   have hSF : ∀ p : Addr, p.block < W4.heap.size → (w9.setRow gg #[.int .i64 0, x, y, z, .slice (some ⟨ab, ao, ac⟩) 2 c]).cell? p = W4.cell? p := fun p hp => (((Upd.refl (fun q => q = gg) w9).setRow (.inl rfl) _).cell (by have := (hu49).size; omega) (fun h => by have : p.block = gg := h; omega)).trans (hS p hp)
   refine hK _ _ hSF ?_
   clear hK K; try simp only [tl]
   refine wpAnyE_z (by kernel_rfl) rfl (by rfl) fun K hK => ?_
   go_simp
   refine hK _ _ ?_
   clear hK K; try simp only [tl]
   refine wpAny_done (by kernel_rfl) ?_ _
   refine NoPanic.normal ?_
   have hG := hbG.row #[.int .i64 0, x, y, z, .slice (some ⟨ab, ao, ac⟩) 2 c]
   obtain ⟨WF, hWF⟩ : ∃ WF, w9.setRow gg #[.int .i64 0, x, y, z, .slice (some ⟨ab, ao, ac⟩) 2 c] = WF := ⟨_, rfl⟩
   have huF : Upd (fun q => q = gg) w9 WF := by rw [← hWF]; exact (Upd.refl (fun q => q = gg) w9).setRow (.inl rfl) _
   rw [hWF] at hG ⊢
   clear hWF
   have k2 : WF.cell? ⟨ab, ao + 2, none⟩ = some (.int .i64 1) := (huF.cell (p := ⟨ab, ao + 2, none⟩) hDI.1 (fun h => hDI.2 h)).trans hq2
   have k3 : WF.cell? ⟨ab, ao + 3, none⟩ = some (.slice b 1 d) := (huF.cell (p := ⟨ab, ao + 3, none⟩) hDI.1 (fun h => hDI.2 h)).trans hq3
   have k4 : WF.cell? ⟨gg, 4, none⟩ = some (.slice (some ⟨ab, ao, ac⟩) 2 c) := hG.cell 4
   have hbel : Below w.heap.size w WF := ((hu04.trans (hu49)).trans' huF (fun q hq h => by have : q = gg := h; have := hu04.size; omega)).below
   clear hG huF hq2 hq3 hDI hbG
   go_wp2_with fail
   go_ret
   exact ⟨rfl, hbel⟩
 go_simp
 have hua1 : Upd nob W4.drew ((W4.alloc (.cells #[.int .i64 0, .int .i64 0, .int .i64 0, .slice none 0 0, .slice none 0 0] 35)).drew) := (Upd.refl nob W4.drew).alloc _
 obtain ⟨wa1, hwa1⟩ : ∃ wa, (W4.alloc (.cells #[.int .i64 0, .int .i64 0, .int .i64 0, .slice none 0 0, .slice none 0 0] 35)).drew = wa := ⟨_, rfl⟩
 have hbga1 : Blk wa1 W4.heap.size 35 #[.int .i64 0, .int .i64 0, .int .i64 0, .slice none 0 0, .slice none 0 0] := by rw [← hwa1]; exact Blk.new W4.drew _ _
 have hsza1 : wa1.heap.size = W4.drew.heap.size + 1 := by rw [← hwa1]; simp
 rw [hwa1] at hua1 ⊢
 clear hwa1
 have hu4a1 : Upd nob W4 wa1 := ((Upd.refl nob W4).drew).trans hua1
 refine hK _ _ (cells_of_upd hu4a1) ?_
 clear hK K; try simp only [tl]
 have hS : ∀ p : Addr, p.block < W4.heap.size → wa1.cell? p = W4.cell? p := cells_of_upd hu4a1
 clear hsza1
 refine wpAnyE_one (i := 5) (by kernel_rfl) (by kernel_rfl) rfl (by rfl) fun K hK => ?_
 go_simp
 refine (nat_bind (I := fun q => q ≠ W4.heap.size) wa1 (ge_ne (hbga1).lt) _ (HN4.out.old (D' := nob) (Old.of_upd (hu4a1) fun _ f => f.elim) (fun _ f => f.elim))).mono ?_
 rintro e w5 ⟨x2, y2, z2, B1, d1, B2, d2, rfl, hP5, hb5⟩
 have hu5 : Upd nob wa1 w5 := Upd.of_below hb5
 have hu45 : Upd nob W4 w5 := (hu4a1).trans hu5
 refine hK _ _ (cells_of_upd hu45) ?_
 clear hK K; try simp only [tl]
 have hS : ∀ p : Addr, p.block < W4.heap.size → w5.cell? p = W4.cell? p := cells_of_upd hu45
 have HP5 := Lib.hid hP5
 clear hP5 hb5
 have hbg5 := (hbga1).upd hu5 (fun f => f)
 refine eT 6 ?_ [] rfl (by kernel_rfl) (by rfl) ?_ hS ?_
 rotate_left; · intro wx hx; clear hx; go_simp; with_reducible rfl
 try simp only [tl]
 refine wpAnyE_one (i := 7) (by kernel_rfl) (by kernel_rfl) rfl (by rfl) fun K hK => ?_
 go_simp
 obtain ⟨w7, hw7⟩ : ∃ w7, w5.alloc (.cells #[.string { data := #[122] }, .int .i64 7, .int .i64 0, .string natN, x1, y1, z1, .slice A1 0 c1, .slice A2 0 c2, .string { data := #[115] }, .int .i64 3, .int .i64 0, .string ByteArray.empty, x2, y2, z2, .slice B1 0 d1, .slice B2 2 d2] 46) = w7 := ⟨_, rfl⟩
 have hu7 : Upd nob w5 w7 := by rw [← hw7]; exact (Upd.refl nob w5).alloc _
 have hC7 : CtorsAt (DI (fun q => q ≠ W4.heap.size) w7) w7 natCs (some ⟨w5.heap.size, 0, none⟩) := by
  rw [← hw7]
  exact nat_ctors w5 (ge_ne (hbg5).lt) _ _ _ _ _ _ _ _ _ _ _ _ _ _ (HN4.out.old (D' := nob) (Old.of_upd (hu45) fun _ f => f.elim) (fun _ f => f.elim)) (HP5.out)
 rw [hw7]
 clear hw7
 have hu47 : Upd nob W4 w7 := (hu45).trans hu7
 refine hK _ _ (cells_of_upd hu47) ?_
 clear hK K; try simp only [tl]
 have hS : ∀ p : Addr, p.block < W4.heap.size → w7.cell? p = W4.cell? p := cells_of_upd hu47
 have HC7 := Lib.hid hC7
 clear hC7
 have hbg7 := (hbg5).upd hu7 (fun f => f)
 refine eT 8 ?_ [] rfl (by kernel_rfl) (by rfl) ?_ hS ?_
 rotate_left; · intro wx hx; clear hx; go_simp; with_reducible rfl
 try simp only [tl]
 refine wpAnyE_one (i := 9) (by kernel_rfl) (by kernel_rfl) rfl (by rfl) fun K hK => ?_
 go_simp
 refine (nat_shape (I := fun q => q ≠ W4.heap.size) w7 (ge_ne (hbg7).lt) _ (HC7.out)).mono ?_
 rintro e w9 ⟨sc, rfl, hF9, hb9⟩
 have hu9 : Upd nob w7 w9 := Upd.of_below hb9
 have hu49 : Upd nob W4 w9 := (hu47).trans hu9
 refine hK _ _ (cells_of_upd hu49) ?_
 clear hK K; try simp only [tl]
 have hS : ∀ p : Addr, p.block < W4.heap.size → w9.cell? p = W4.cell? p := cells_of_upd hu49
 have HF9 := Lib.hid hF9
 clear hF9 hb9
 have hbg9 := (hbg7).upd hu9 (fun f => f)
 refine eT 10 ?_ [] rfl (by kernel_rfl) (by rfl) ?_ hS ?_
 rotate_left; · intro wx hx; clear hx; go_simp; with_reducible rfl
 try simp only [tl]
 refine eT 11 ?_ [] rfl (by kernel_rfl) (by rfl) ?_ hS ?_
 rotate_left; · intro wx hx; clear hx; go_simp; with_reducible rfl
 try simp only [tl]
 refine eT 12 ?_ [] rfl (by kernel_rfl) (by rfl) ?_ hS ?_
 rotate_left; · intro wx hx; clear hx; go_simp; with_reducible rfl
 try simp only [tl]
 have hFF : FR (fun q => q ≠ W4.heap.size) w9 sc := HF9.out
 have hbG : Blk w9 W4.heap.size 35 #[.int .i64 0, .int .i64 0, .int .i64 0, .slice none 0 0, .slice none 0 0] := hbg9
 have hgW : W4.heap.size ≤ W4.heap.size := (by have h1 : W4.heap.size ≤ W4.heap.size := ((Upd.refl nob W4).drew).size; exact h1)
 obtain ⟨x, y, z, ab, ao, ac, c, b, d, rfl, hone, hDI, hq2, hq3⟩ := hFF
 refine wpAnyE_one (i := 14) (by kernel_rfl) (by kernel_rfl) rfl (by rfl) fun K hK => ?_
 refine owp_store_blk 35 (.tmp 3) (.tmp 19) rfl rfl W4.heap.size _ rfl rfl 35 _ hbG sh_size rfl hone ?_
 have hSF : ∀ p : Addr, p.block < W4.heap.size → (w9.setRow W4.heap.size #[.int .i64 0, x, y, z, .slice (some ⟨ab, ao, ac⟩) 2 c]).cell? p = W4.cell? p := fun p hp => (((Upd.refl (fun q => q = W4.heap.size) w9).setRow (.inl rfl) _).cell (by have := (hu49).size; omega) (fun h => by have : p.block = W4.heap.size := h; omega)).trans (hS p hp)
 refine hK _ _ hSF ?_
 clear hK K; try simp only [tl]
 refine wpAnyE_z (by kernel_rfl) rfl (by rfl) fun K hK => ?_
 go_simp
 refine hK _ _ ?_
 clear hK K; try simp only [tl]
 refine wpAny_done (by kernel_rfl) ?_ _
 refine NoPanic.normal ?_
 have hG := hbG.row #[.int .i64 0, x, y, z, .slice (some ⟨ab, ao, ac⟩) 2 c]
 obtain ⟨WF, hWF⟩ : ∃ WF, w9.setRow W4.heap.size #[.int .i64 0, x, y, z, .slice (some ⟨ab, ao, ac⟩) 2 c] = WF := ⟨_, rfl⟩
 have huF : Upd (fun q => q = W4.heap.size) w9 WF := by rw [← hWF]; exact (Upd.refl (fun q => q = W4.heap.size) w9).setRow (.inl rfl) _
 rw [hWF] at hG ⊢
 clear hWF
 have k2 : WF.cell? ⟨ab, ao + 2, none⟩ = some (.int .i64 1) := (huF.cell (p := ⟨ab, ao + 2, none⟩) hDI.1 (fun h => hDI.2 h)).trans hq2
 have k3 : WF.cell? ⟨ab, ao + 3, none⟩ = some (.slice b 1 d) := (huF.cell (p := ⟨ab, ao + 3, none⟩) hDI.1 (fun h => hDI.2 h)).trans hq3
 have k4 : WF.cell? ⟨W4.heap.size, 4, none⟩ = some (.slice (some ⟨ab, ao, ac⟩) 2 c) := hG.cell 4
 have hbel : Below w.heap.size w WF := ((hu04.trans (hu49)).trans' huF (fun q hq h => by have : q = W4.heap.size := h; have := hu04.size; omega)).below
 clear hG huF hq2 hq3 hDI hbG
 go_wp2_with fail
 go_ret
 exact ⟨rfl, hbel⟩
end Go.Proofs.Ytiampoebdmflgaa
