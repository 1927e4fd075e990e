/- Texts put one behind the other: Ytmay, Ytop, Wfuel, YtopF, Wfueln, Post, Open, Openw, Openg. -/
import Derived.Test.YtiampoebdmflgaaGreatF11
import Derived.Test.YtiampoebdmflgaaGreatF3
import Derived.Test.YtiampoebdmflgaaGreatF8
import Derived.Test.YtiampoebdmflgaaGreatF9
import Derived.Test.YtiampoebdmflgaaGreatRows
import Derived.Test.YtiampoebdmflgaaGreatProg
import Derived.WalkKit
import Derived.ProofKit
import Derived.OpenShut
import Derived.Carry
import Derived.Test.YtiampoebdmflgaaGreatF2
import Derived.JoinedCond
import Derived.Lib.SmallJoins
import Derived.Deep.Slices
import Derived.Test.YtiampoebdmflgaaGreatF6
/- The reference's May of terms. -/
namespace Go.Proofs.YtiampoebdmflgaaGreat
open Go.RowKit
set_option linter.unusedVariables false
set_option maxRecDepth 100000
set_option maxHeartbeats 16000000
set_option linter.unusedSimpArgs false
mutual
def Tm.wf : Tm → Bool
 | .mk k _ _ lv ls ks => decide (0 ≤ tar k) && decide ((ks.length : Int) = tar k) && (decide (k ≠ 2) || lv.wf) && (decide (k ≠ 7) || Lv.wfs ls) && Tm.wfs ks
def Tm.wfs : List Tm → Bool
 | [] => true
 | t :: ts => Tm.wf t && Tm.wfs ts
end
mutual
def Tm.nodes : Tm → Nat
 | .mk _ _ _ _ _ ks => Tm.nodess ks + 1
def Tm.nodess : List Tm → Nat
 | [] => 0
 | t :: ts => Tm.nodes t + Tm.nodess ts
end
theorem twfs_app (a b : List Tm) : Tm.wfs (a ++ b) = (Tm.wfs a && Tm.wfs b) := by
 induction a with
 | nil => simp [Tm.wfs]
 | cons x a ih => simp [Tm.wfs, ih, Bool.and_assoc]
theorem tnodess_app (a b : List Tm) : Tm.nodess (a ++ b) = Tm.nodess a + Tm.nodess b := by
 induction a with
 | nil => simp [Tm.nodess]
 | cons x a ih => simp [Tm.nodess, ih]; omega
def TMayR (t : Tm) (nb : Nat) (n : Int) (w : World) (r : Int) (w' : World) : Prop := ∃ n' : Int, Blk w' nb 3 #[.int .i64 n'] ∧ Upd (fun q => q = nb) w w' ∧ 0 ≤ n' ∧ n' ≤ 1001 ∧ (r = 0 → t.wf = true ∧ n' = n + t.nodes ∧ n' ≤ 400)
def TMayC (t : Tm) : Prop := ∀ (cs : Array Value) (D : Nat → Prop) (w : World) (vars depth n : Int) (nb : Nat), Within D w → TmIs D w t cs → ¬ D nb → Blk w nb 3 #[.int .i64 n] → 0 ≤ n → n ≤ 1000 → 0 ≤ depth → depth ≤ 1000 →
 Calls Tryz.prog 32 #[.agg cs, .int .i64 vars, .int .i64 depth, .pointer (some ⟨nb, 0, none⟩)] w fun e w' => ∃ r : Int, e = .returned (.int .i64 r) ∧ TMayR t nb n w r w'
theorem rowL {w : World} {b : Nat} {t : TypeId} {v0 v1 v2 p q s v6 v7 : Value} (h : Blk w b t #[v0, v1, v2, p, q, s, v6, v7]) : rowAt w ⟨b, 3, none⟩ #[p, q, s] := by
 have e : (Addr.add ⟨b, 0, none⟩ 3) = ⟨b, 3, none⟩ := by unfold Addr.add; split <;> simp_all
 rw [← e]
 refine sub_row h.rowAt 3 _ fun j v hv => ?_
 match j, hv with
 | 0, hv => exact hv
 | 1, hv => exact hv
 | 2, hv => exact hv
 | j + 3, hv => simp at hv
theorem tmay_any (t : Tm) : TMayC t := by
 induction t using Tm.ind with
 | h k N nm lv ls ks ih =>
  intro cs D w vars depth n nb hD hl hnb hb hn0 hn1 hd0 hd1
  have hlt8 := hl.lit
  obtain ⟨x1, y1, z1, lA, lc, A, c, rfl, hk, hN, hnm, hlv, hls1, hls, hks1, hks⟩ := hlt8
  simp only [Tm.k, Tm.n, Tm.nm, Tm.lv, Tm.ls, Tm.ks] at hk hN hnm hlv hls1 hls hks1 hks hl ⊢
  obtain ⟨lp, lq, lB, lm, ld, he3⟩ := hlv.lit3
  simp only [Array.mk.injEq, List.cons.injEq, and_true] at he3
  obtain ⟨rfl, rfl, rfl⟩ := he3
  have hnl : nb < w.heap.size := hb.lt
  have hwr : wrap64 (n + 1) = n + 1 := by unfold wrap64; omega
  obtain ⟨W1, hW1⟩ : ∃ W, w.setCell ⟨nb, 0, none⟩ (.int .i64 (n + 1)) = W := ⟨_, rfl⟩
  have hu1 : Upd (fun q => q = nb) w W1 := by rw [← hW1]; exact (Upd.refl (fun q => q = nb) w).setCell (.inl rfl) _
  have hb1 : Blk W1 nb 3 #[.int .i64 (n + 1)] := by rw [← hW1]; exact hb.set 0 _
  have hs1 : W1.heap.size = w.heap.size := by rw [← hW1]; simp
  obtain ⟨W2, hW2⟩ : ∃ W, W1.alloc (.cells #[.int .i64 k, .int .i64 N, .string nm, .int .i64 lp, .int .i64 lq, .slice lB lm ld, .slice lA ls.length lc, .slice A ks.length c] 28) = W := ⟨_, rfl⟩
  have hu2 : Upd nob W1 W2 := by rw [← hW2]; exact (Upd.refl nob W1).alloc _
  have hb2 : Blk W2 w.heap.size 28 #[.int .i64 k, .int .i64 N, .string nm, .int .i64 lp, .int .i64 lq, .slice lB lm ld, .slice lA ls.length lc, .slice A ks.length c] := by rw [← hW2, ← hs1]; exact Blk.new W1 _ _
  have hb2n := hb1.upd hu2 (fun f => f)
  have hu02 : Upd (fun q => q = nb) w W2 := hu1.trans (hu2.mono (fun _ f => f.elim))
  have q0 : w.cell? ⟨nb, 0, none⟩ = some (.int .i64 n) := hb.cell 0
  have qf := hb.frozen 0
  have s0 : W2.cell? ⟨w.heap.size, 0, none⟩ = some (.int .i64 k) := hb2.cell 0
  have s1 : W2.cell? ⟨w.heap.size, 1, none⟩ = some (.int .i64 N) := hb2.cell 1
  have s2 : W2.cell? ⟨w.heap.size, 2, none⟩ = some (.string nm) := hb2.cell 2
  have s3 : W2.cell? ⟨w.heap.size, 3, none⟩ = some (.int .i64 lp) := hb2.cell 3
  have s4 : W2.cell? ⟨w.heap.size, 4, none⟩ = some (.int .i64 lq) := hb2.cell 4
  have s5 : W2.cell? ⟨w.heap.size, 5, none⟩ = some (.slice lB lm ld) := hb2.cell 5
  have s6 : W2.cell? ⟨w.heap.size, 6, none⟩ = some (.slice lA ls.length lc) := hb2.cell 6
  have s7 : W2.cell? ⟨w.heap.size, 7, none⟩ = some (.slice A ks.length c) := hb2.cell 7
  have sl : w.heap.size < W2.heap.size := hb2.lt
  have HB2N := Lib.hid hb2n
  have HB2 := Lib.hid hb2
  have HU02 := Lib.hid hu02
  have HW2 := Lib.hid (show (w.setCell ⟨nb, 0, none⟩ (.int .i64 (n + 1))).alloc (.cells #[.int .i64 k, .int .i64 N, .string nm, .int .i64 lp, .int .i64 lq, .slice lB lm ld, .slice lA ls.length lc, .slice A ks.length c] 28) = W2 by rw [hW1]; exact hW2)
  have q2 : ((w.setCell ⟨nb, 0, none⟩ (.int .i64 (n + 1))).alloc (.cells #[.int .i64 k, .int .i64 N, .string nm, .int .i64 lp, .int .i64 lq, .slice lB lm ld, .slice lA ls.length lc, .slice A ks.length c] 28)).cell? ⟨nb, 0, none⟩ = some (.int .i64 (n + 1)) := by rw [HW2.out]; exact hb2n.cell 0
  have hoD2 : Old D w W2 := Old.of_upd hu02 (fun q hq => ⟨fun h => by have h : q = nb := h; subst h; exact hnb hq, hD q hq⟩)
  have HKS := Lib.hid hks
  have HLS := Lib.hid (hls.old hoD2 (fun _ h => h))
  have HLV := Lib.hid (hlv.old hoD2 (fun _ h => h))
  clear hW1 hW2 hb1 hb2n hb2 hl hb hu1 hu2 hu02 hks hs1 hls hlv
  by_cases a1 : 64 < depth
  · have t1 : decide (64 < depth) = true := by simp [a1]
    clear s0 s1 s2 s3 s4 s5 s6 s7 sl
    go_enter Tryz.func32, Tryz.ntmps32
    go_wp2_with fail
    rw [HW2.out]
    go_ret
    exact ⟨2, rfl, n + 1, HB2N.out, HU02.out, by omega, by omega, fun h => by cases h⟩
  have t1 : decide (64 < depth) = false := by simp [a1]
  by_cases a2 : 400 < n + 1
  · have t2 : decide (400 < n + 1) = true := by simp [a2]
    clear s0 s1 s2 s3 s4 s5 s6 s7 sl
    go_enter Tryz.func32, Tryz.ntmps32
    go_wp2_with fail
    rw [HW2.out]
    go_ret
    exact ⟨2, rfl, n + 1, HB2N.out, HU02.out, by omega, by omega, fun h => by cases h⟩
  have t2 : decide (400 < n + 1) = false := by simp [a2]
  go_enter Tryz.func32, Tryz.ntmps32
  go_wp2_with fail
  rw [HW2.out]
  clear q0 qf q2
  by_cases b1 : tar k < 0
  · have t3 : decide (tar k < 0) = true := by simp [b1]
    refine wp_region_P (by kernel_rfl) ?_
    refine wpAny_of_S [] (fun _ X => X = W2.drew) _ _ _ _ ?_
    have hS : W2.drew = W2.drew := rfl
    refine sT 0 ?_ [] rfl (by kernel_rfl) (by rfl) ?_ hS ?_
    rotate_left
    · rintro wx ⟨L, hL, hun, hx⟩
      obtain rfl := hx
      have hx := True.intro
      clear hx hL hun
      go_simp
      with_reducible rfl
    try simp only [tl]
    refine sT 1 ?_ [] rfl (by kernel_rfl) (by rfl) ?_ hS ?_
    rotate_left
    · rintro wx ⟨L, hL, hun, hx⟩
      obtain rfl := hx
      have hx := True.intro
      have q : W2.drew.cell? ⟨w.heap.size, 0, none⟩ = some (.int .i64 k) := s0
      clear hx hL hun
      go_simp
      with_reducible rfl
    try simp only [tl]
    refine wpAnyS_one (i := 2) [] (by kernel_rfl) rfl (by rfl) fun K hK => ?_
    go_simp
    refine (rkids_any k W2.drew).mono ?_
    rintro e w' ⟨rfl, hw'⟩
    subst hw'
    refine hK _ _ rfl ?_
    clear hK K; try simp only [tl]
    refine sT 3 ?_ [] rfl (by kernel_rfl) (by rfl) ?_ hS ?_
    rotate_left
    · rintro wx ⟨L, hL, hun, hx⟩
      obtain rfl := hx
      have hx := True.intro
      clear hx hL hun
      go_simp
      with_reducible rfl
    try simp only [tl]
    refine sT 4 ?_ [] rfl (by kernel_rfl) (by rfl) ?_ hS ?_
    rotate_left
    · rintro wx ⟨L, hL, hun, hx⟩
      obtain rfl := hx
      have hx := True.intro
      clear hx hL hun
      go_simp
      with_reducible rfl
    try simp only [tl]
    refine wpAnyS_take (i := 5) (v := undef) [] rfl (by kernel_rfl) (fun _ _ _ h => h) (Or.inr ⟨by rfl, rfl⟩) hS ?_
    try simp only [tl]
    refine wpAnyS_take (i := 6) (v := undef) [] rfl (by kernel_rfl) (fun _ _ _ h => h) (Or.inr ⟨by rfl, rfl⟩) hS ?_
    try simp only [tl]
    refine wpAnyS_take (i := 7) (v := undef) [] rfl (by kernel_rfl) (fun _ _ _ h => h) (Or.inr ⟨by rfl, rfl⟩) hS ?_
    try simp only [tl]
    refine wpAnyS_take (i := 8) (v := undef) [] rfl (by kernel_rfl) (fun _ _ _ h => h) (Or.inr ⟨by rfl, rfl⟩) hS ?_
    try simp only [tl]
    refine wpAnyS_take (i := 9) (v := undef) [] rfl (by kernel_rfl) (fun _ _ _ h => h) (Or.inr ⟨by rfl, rfl⟩) hS ?_
    try simp only [tl]
    refine wpAnyS_take (i := 10) (v := undef) [] rfl (by kernel_rfl) (fun _ _ _ h => h) (Or.inr ⟨by rfl, rfl⟩) hS ?_
    try simp only [tl]
    refine wpAnyS_take (i := 11) (v := undef) [] rfl (by kernel_rfl) (fun _ _ _ h => h) (Or.inr ⟨by rfl, rfl⟩) hS ?_
    try simp only [tl]
    refine sT 12 ?_ [] rfl (by kernel_rfl) (by rfl) ?_ hS ?_
    rotate_left
    · rintro wx ⟨L, hL, hun, hx⟩
      obtain rfl := hx
      have hx := True.intro
      clear hx hL hun
      go_simp
      with_reducible rfl
    try simp only [tl]
    refine wpAnyS_one (i := 13) [] (by kernel_rfl) rfl (by rfl) fun K hK => ?_
    go_simp
    refine hK _ _ rfl ?_
    clear hK K; try simp only [tl]
    refine wpAnyS_done (by kernel_rfl) ?_
    refine NoPanic.normal ?_
    go_wp2_with fail
    go_ret
    exact ⟨1, rfl, n + 1, HB2N.out, HU02.out.drew, by omega, by omega, fun h => by cases h⟩
  have t3 : decide (tar k < 0) = false := by simp; omega
  by_cases b2 : (ks.length : Int) = tar k
  · have hlar : tar k = (ks.length : Int) := b2.symm
    have HBB := Lib.hid b2
    have HB1 := Lib.hid b1
    have t4 : decide ((ks.length : Int) < 0) = false := by simp
    clear b1 b2 t3
    refine wp_region_P (by kernel_rfl) ?_
    refine wpAny_of_S [] (fun _ X => X = W2.drew) _ _ _ _ ?_
    have hS : W2.drew = W2.drew := rfl
    refine sT 0 ?_ [] rfl (by kernel_rfl) (by rfl) ?_ hS ?_
    rotate_left
    · rintro wx ⟨L, hL, hun, hx⟩
      obtain rfl := hx
      have hx := True.intro
      clear hx hL hun
      go_simp
      with_reducible rfl
    try simp only [tl]
    refine sT 1 ?_ [] rfl (by kernel_rfl) (by rfl) ?_ hS ?_
    rotate_left
    · rintro wx ⟨L, hL, hun, hx⟩
      obtain rfl := hx
      have hx := True.intro
      have q : W2.drew.cell? ⟨w.heap.size, 0, none⟩ = some (.int .i64 k) := s0
      clear hx hL hun
      go_simp
      with_reducible rfl
    try simp only [tl]
    refine wpAnyS_one (i := 2) [] (by kernel_rfl) rfl (by rfl) fun K hK => ?_
    go_simp
    refine (rkids_any k W2.drew).mono ?_
    rintro e w' ⟨rfl, hw'⟩
    subst hw'
    refine hK _ _ rfl ?_
    clear hK K; try simp only [tl]
    refine sT 3 ?_ [] rfl (by kernel_rfl) (by rfl) ?_ hS ?_
    rotate_left
    · rintro wx ⟨L, hL, hun, hx⟩
      obtain rfl := hx
      have hx := True.intro
      clear hx hL hun
      go_simp
      with_reducible rfl
    try simp only [tl]
    refine sT 4 ?_ [] rfl (by kernel_rfl) (by rfl) ?_ hS ?_
    rotate_left
    · rintro wx ⟨L, hL, hun, hx⟩
      obtain rfl := hx
      have hx := True.intro
      clear hx hL hun
      go_simp
      with_reducible rfl
    try simp only [tl]
    refine sT 5 ?_ [] rfl (by kernel_rfl) (by rfl) ?_ hS ?_
    rotate_left
    · rintro wx ⟨L, hL, hun, hx⟩
      obtain rfl := hx
      have hx := True.intro
      clear hx hL hun
      go_simp
      with_reducible rfl
    try simp only [tl]
    refine sT 6 ?_ [] rfl (by kernel_rfl) (by rfl) ?_ hS ?_
    rotate_left
    · rintro wx ⟨L, hL, hun, hx⟩
      obtain rfl := hx
      have hx := True.intro
      have q : W2.drew.cell? ⟨w.heap.size, 7, none⟩ = some (.slice A ks.length c) := s7
      clear hx hL hun
      go_simp
      with_reducible rfl
    try simp only [tl]
    refine sT 7 ?_ [] rfl (by kernel_rfl) (by rfl) ?_ hS ?_
    rotate_left
    · rintro wx ⟨L, hL, hun, hx⟩
      obtain rfl := hx
      have hx := True.intro
      clear hx hL hun
      go_simp
      with_reducible rfl
    try simp only [tl]
    refine sT 8 ?_ [] rfl (by kernel_rfl) (by rfl) ?_ hS ?_
    rotate_left
    · rintro wx ⟨L, hL, hun, hx⟩
      obtain rfl := hx
      have hx := True.intro
      clear hx hL hun
      go_simp
      with_reducible rfl
    try simp only [tl]
    refine sT 9 ?_ [] rfl (by kernel_rfl) (by rfl) ?_ hS ?_
    rotate_left
    · rintro wx ⟨L, hL, hun, hx⟩
      obtain rfl := hx
      have hx := True.intro
      have q : W2.drew.cell? ⟨w.heap.size, 0, none⟩ = some (.int .i64 k) := s0
      clear hx hL hun
      go_simp
      with_reducible rfl
    try simp only [tl]
    refine wpAnyS_one (i := 10) [] (by kernel_rfl) rfl (by rfl) fun K hK => ?_
    go_simp
    refine (rkids_any k W2.drew).mono ?_
    rintro e w' ⟨rfl, hw'⟩
    subst hw'
    refine hK _ _ rfl ?_
    clear hK K; try simp only [tl]
    refine sT 11 ?_ [] rfl (by kernel_rfl) (by rfl) ?_ hS ?_
    rotate_left
    · rintro wx ⟨L, hL, hun, hx⟩
      obtain rfl := hx
      have hx := True.intro
      clear hx hL hun
      go_simp
      with_reducible rfl
    try simp only [tl]
    refine sT 12 ?_ [] rfl (by kernel_rfl) (by rfl) ?_ hS ?_
    rotate_left
    · rintro wx ⟨L, hL, hun, hx⟩
      obtain rfl := hx
      have hx := True.intro
      clear hx hL hun
      go_simp
      with_reducible rfl
    try simp only [tl]
    refine wpAnyS_one (i := 13) [] (by kernel_rfl) rfl (by rfl) fun K hK => ?_
    go_simp
    refine hK _ _ rfl ?_
    clear hK K; try simp only [tl]
    refine wpAnyS_done (by kernel_rfl) ?_
    refine NoPanic.normal ?_
    have S3 := Lib.hid (And.intro s3 (And.intro s4 s5))
    clear s3 s4 s5
    by_cases k2 : k = 2
    · subst k2
      clear hlar
      have r3 := rowL HB2.out
      go_wp2_with (first
       | ((with_reducible refine this_op (.load 25 (.tmp 61)) ?_); refine wpList_at rfl 25 (.tmp 61) rfl ⟨w.heap.size, 3, none⟩ rfl _ _ r3 Tryz.underlying25 rfl lv_size ?_))
      refine (lmay_top lv _ D W2.drew vars (fun q hq => by have := hD q hq; show q < W2.heap.size; omega) HLV.out.drew).mono ?_
      rintro e w3 ⟨r, rfl, hr, hu3⟩
      have hb3 : Blk w3 nb 3 #[.int .i64 (n + 1)] := HB2N.out.upd ((Upd.refl nob W2).drew.trans hu3) (fun f => f)
      have hu03 : Upd (fun q => q = nb) w w3 := HU02.out.trans (((Upd.refl nob W2).drew.trans hu3).mono (fun _ f => f.elim))
      have HR := Lib.hid hr
      clear hr
      go_wp2_with fail
      go_ret
      refine ⟨_, rfl, n + 1, hb3, hu03, by omega, by omega, fun h => ⟨?_, ?_, by omega⟩⟩
      · have h1 := HBB.out
        have h2 : ks = [] := by
         have e : tar 2 = 0 := rfl
         rw [e] at h1
         exact List.length_eq_zero_iff.1 (by omega)
        subst h2
        simp [Tm.wf, Tm.wfs, HR.out h]
        exact ⟨by decide, by decide⟩
      have h1 := HBB.out
      have h2 : ks = [] := by
       have e : tar 2 = 0 := rfl
       rw [e] at h1
       exact List.length_eq_zero_iff.1 (by omega)
      subst h2
      simp [Tm.nodes, Tm.nodess]
    have k22 : decide (k = 2) = false := by simp [k2]
    by_cases k7 : k = 7
    · subst k7
      have hk0 : ks = [] := by
       have h1 := HBB.out
       have e : tar 7 = 0 := rfl
       rw [e] at h1
       exact List.length_eq_zero_iff.1 (by omega)
      subst hk0
      clear hlar k22
      go_wp2_with fail
      refine (name_any nm W2.drew hnm).mono ?_
      rintro e w3 ⟨⟨b, rfl⟩, hw3⟩
      subst hw3
      cases b with
      | false =>
       go_wp2_with fail
       go_ret
       exact ⟨8, rfl, n + 1, HB2N.out, HU02.out.drew, by omega, by omega, fun h => by cases h⟩
      | true =>
       by_cases l6 : 6 < ls.length
       · have t6 : decide ((6 : Int) < ls.length) = true := by simp; omega
         go_wp2_with fail
         go_ret
         exact ⟨2, rfl, n + 1, HB2N.out, HU02.out.drew, by omega, by omega, fun h => by cases h⟩
       have t6 : decide ((6 : Int) < ls.length) = false := by simp; omega
       go_wp2_with fail
       obtain ⟨M, hM⟩ : ∃ M, ls.length = M := ⟨_, rfl⟩
       have HM := Lib.hid hM
       rw [hM] at hls1 t6 l6 ⊢
       clear hM
       go_loopg [80] M (fun q v80 wr => ∃ (j : Nat), j + q = M ∧ v80 = .int .i64 j ∧ Upd nob W2.drew wr ∧ Lv.wfs (ls.take j) = true)
       case atStart => exact ⟨0, by omega, rfl, Upd.refl _ _, by simp [Lv.wfs]⟩
       case round =>
        obtain ⟨j, hj, rfl, hur, hwf⟩ := hrel
        have hrl : W2.heap.size ≤ wr.heap.size := hur.size
        have hDr : Within D wr := fun q hq => by have := hD q hq; omega
        have hu2r : Upd nob W2 wr := (Upd.refl nob W2).drew.trans hur
        have hdW : Within D W2 := fun q hq => by have := hD q hq; omega
        by_cases hlt : j < M
        · have t5 : decide ((j : Int) < M) = true := by simp [hlt]
          have hjl : j < ls.length := by have := HM.out; omega
          obtain ⟨a, ccs, hA, hab, hrow, hll⟩ := (HLS.out.old (hdW.old hu2r) (fun _ h => h)).at_ (List.getElem?_eq_getElem hjl)
          rw [Nat.zero_add] at hrow
          have HLL := Lib.hid hll
          obtain ⟨p, q, B, m, d, rfl⟩ := hll.lit3
          have HA := Lib.hid hA
          clear hA hll
          go_wp2_with (first
           | ((with_reducible refine this_op (.indexAddr 23 (.tmp 78) (.tmp 80)) ?_); refine wpList_index_at rfl 23 (.tmp 78) (.tmp 80) rfl _ a _ _ rfl HA.out j rfl hlt 25 Tryz.underlying23 3 lv_size ?_)
           | ((with_reducible refine this_op (.load 25 (.tmp 82)) ?_); refine wpList_at rfl 25 (.tmp 82) rfl (a.add (j * 3)) rfl _ _ hrow Tryz.underlying25 rfl lv_size ?_)
           | ((with_reducible refine this_op (.store 25 (.tmp 10) (.tmp 83)) ?_); refine wpList_store_row rfl 25 (.tmp 10) (.tmp 83) rfl wr.heap.size _ rfl rfl 25 _ (Blk.new wr _ _) lv_size rfl (by simp [Value.oneCell']) ?_
              obtain ⟨W4, hW4⟩ : ∃ W, (wr.alloc (.cells #[.int .i64 0, .int .i64 0, .slice none 0 0] 25)).setRow wr.heap.size #[.int .i64 p, .int .i64 q, .slice B m d] = W := ⟨_, rfl⟩
              have hu4 : Upd nob wr W4 := by rw [← hW4]; exact ((Upd.refl nob wr).alloc _).setRow (.inr (Nat.le_refl _)) _
              have hb4 : Blk W4 wr.heap.size 25 #[.int .i64 p, .int .i64 q, .slice B m d] := by rw [← hW4]; exact (Blk.new wr _ _).row _
              rw [hW4]
              clear hW4
              have hz4 : wr.heap.size + 1 ≤ W4.heap.size := hb4.lt
              have r4 := hb4.rowAt
              clear hb4)
           | ((with_reducible refine this_op (.load 25 (.tmp 10)) ?_); refine wpList_at rfl 25 (.tmp 10) rfl ⟨wr.heap.size, 0, none⟩ rfl _ _ r4 Tryz.underlying25 rfl lv_size ?_))
          refine (lmay_top ls[j] _ D W4 vars (fun q hq => by have := hDr q hq; omega) (HLL.out.old (hDr.old hu4) (fun _ h => h))).mono ?_
          rintro e w5 ⟨r, rfl, hr5, hu5⟩
          have HR5 := Lib.hid hr5
          clear hr5 r4
          by_cases hr0 : r = 0
          · have h := HR5.out hr0
            subst hr0
            go_wp2_with fail
            go_roundg (gk - 1)
            case measure => omega
            case rel =>
             refine ⟨j + 1, by omega, by go_num, (hur.trans hu4).trans hu5, ?_⟩
             rw [List.take_succ_eq_append_getElem hjl, wfs_app, hwf]; simp [Lv.wfs, h]
          have t6 : decide (r = 0) = false := by simp [hr0]
          go_wp2_with fail
          go_ret
          have hu05 := (hu2r.trans hu4).trans hu5
          exact ⟨_, rfl, n + 1, HB2N.out.upd hu05 (fun f => f), HU02.out.trans (hu05.mono (fun _ f => f.elim)), by omega, by omega, fun h => absurd h hr0⟩
        have t5 : decide ((j : Int) < M) = false := by simp; omega
        have hjM : ls.take j = ls := by rw [List.take_of_length_le]; have := HM.out; omega
        rw [hjM] at hwf
        have c7 : wr.cell? ⟨w.heap.size, 7, none⟩ = some (.slice A ([] : List Tm).length c) := (hu2r.cell (p := ⟨w.heap.size, 7, none⟩) sl (fun f => f)).trans s7
        have cl : w.heap.size < wr.heap.size := by omega
        go_wp2_with fail
        refine wp_loop_once ?_
        go_wp2_with fail
        go_ret
        refine ⟨_, rfl, n + 1, HB2N.out.upd hu2r (fun f => f), HU02.out.trans (hu2r.mono (fun _ f => f.elim)), by omega, by omega, fun _ => ⟨?_, ?_, by omega⟩⟩
        · simp [Tm.wf, Tm.wfs, hwf]
          exact ⟨by decide, by decide⟩
        simp [Tm.nodes, Tm.nodess]
    have k77 : decide (k = 7) = false := by simp [k7]
    go_wp2_with fail
    all_goals first
     | (go_ret; exact ⟨_, rfl, n + 1, HB2N.out, HU02.out.drew, by omega, by omega, fun h => absurd h (by decide)⟩)
     | skip
    all_goals
     obtain ⟨M, hM⟩ : ∃ M, ks.length = M := ⟨_, rfl⟩
     have HM := Lib.hid hM
     have hdd : wrap64 (depth + 1) = depth + 1 := by unfold wrap64; omega
     have HK := Lib.hid (And.intro k2 k7)
     try clear hlar
     try clear t4
     rw [hM] at hks1 ⊢
     clear hM k2 k7 k22 k77
     go_loopg [94] M (fun q v94 wr => ∃ (j : Nat) (nn : Int), j + q = M ∧ v94 = .int .i64 j ∧ Blk wr nb 3 #[.int .i64 nn] ∧ Upd (fun q => q = nb) w wr ∧ 0 ≤ nn ∧ nn ≤ 400 ∧ Tm.wfs (ks.take j) = true ∧ nn = n + 1 + Tm.nodess (ks.take j) ∧ w.heap.size + 1 ≤ wr.heap.size)
     case atStart => exact ⟨0, n + 1, by omega, rfl, HB2N.out, HU02.out.drew, by omega, by omega, by simp [Tm.wfs], by simp [Tm.nodess], sl⟩
     case round =>
      obtain ⟨j, nn, hj, rfl, hbr, hur, hn2, hn3, hwf, hnd, hsz⟩ := hrel
      have HBR := Lib.hid hbr
      have hrl := hbr.lt
      have hoD : Old D w wr := Old.of_upd hur (fun q hq => ⟨fun h => by have h : q = nb := h; subst h; exact hnb hq, hD q hq⟩)
      clear hbr
      by_cases hlt : j < M
      · have t5 : decide ((j : Int) < M) = true := by simp [hlt]
        have hz := tm_zero
        have hjl : j < ks.length := by have := HM.out; omega
        obtain ⟨a, ccs, hA, hab, hrow, hll⟩ := (HKS.out.old hoD (fun _ h => h)).at_ (List.getElem?_eq_getElem hjl)
        rw [Nat.zero_add] at hrow
        obtain ⟨x, hx⟩ : ∃ x, ks[j] = x := ⟨_, rfl⟩
        rw [hx] at hll
        have HX := Lib.hid hx
        have HLL := Lib.hid hll
        have HON := Lib.hid hll.oneCell.2
        obtain ⟨xp, xq, xB, xm, xd, xE, xc, xE', xc', rfl⟩ := hll.lit8
        have HA := Lib.hid hA
        clear hA hll hx
        go_wp2_with (first
         | ((with_reducible refine this_op (.indexAddr 26 (.tmp 92) (.tmp 94)) ?_); refine wpList_index_at rfl 26 (.tmp 92) (.tmp 94) rfl _ a _ _ rfl HA.out j rfl hlt 28 Tryz.underlying26 8 tm_size ?_)
         | ((with_reducible refine this_op (.load 28 (.tmp 96)) ?_); refine wpList_at rfl 28 (.tmp 96) rfl (a.add (j * 8)) rfl _ _ hrow Tryz.underlying28 rfl tm_size ?_)
         | ((with_reducible refine this_op (.store 28 (.tmp 13) (.tmp 97)) ?_); refine wpList_store_row rfl 28 (.tmp 13) (.tmp 97) rfl wr.heap.size _ rfl rfl 28 _ (Blk.new wr _ _) tm_size rfl HON.out ?_
            obtain ⟨W4, hW4⟩ : ∃ W, (wr.alloc (.cells #[.int .i64 0, .int .i64 0, .string ByteArray.empty, .int .i64 0, .int .i64 0, .slice none 0 0, .slice none 0 0, .slice none 0 0] 28)).setRow wr.heap.size #[.int .i64 x.k, .int .i64 x.n, .string x.nm, .int .i64 xp, .int .i64 xq, .slice xB xm xd, .slice xE x.ls.length xc, .slice xE' x.ks.length xc'] = W := ⟨_, rfl⟩
            have hu4 : Upd nob wr W4 := by rw [← hW4]; exact ((Upd.refl nob wr).alloc _).setRow (.inr (Nat.le_refl _)) _
            have hb4 : Blk W4 wr.heap.size 28 #[.int .i64 x.k, .int .i64 x.n, .string x.nm, .int .i64 xp, .int .i64 xq, .slice xB xm xd, .slice xE x.ls.length xc, .slice xE' x.ks.length xc'] := by rw [← hW4]; exact (Blk.new wr _ _).row _
            rw [hW4]
            clear hW4
            have hz4 : wr.heap.size + 1 ≤ W4.heap.size := hb4.lt
            have r4 := hb4.rowAt
            have HB4 := Lib.hid (HBR.out.upd hu4 (fun f => f))
            clear hb4)
         | ((with_reducible refine this_op (.load 28 (.tmp 13)) ?_); refine wpList_at rfl 28 (.tmp 13) rfl ⟨wr.heap.size, 0, none⟩ rfl _ _ r4 Tryz.underlying28 rfl tm_size ?_))
        have hin : x ∈ ks := by rw [← HX.out]; exact List.getElem_mem _
        refine (ih x hin _ D W4 vars (depth + 1) nn nb (fun q hq => by have := hD q hq; omega) (HLL.out.old (Old.of_upd hu4 (fun q hq => ⟨fun f => f, by have := hD q hq; omega⟩)) (fun _ h => h)) hnb HB4.out hn2 (by omega) (by omega) (by omega)).mono ?_
        rintro e w5 ⟨r, rfl, n5, hb5, hu5, h50, h51, h5r⟩
        have hur5 : Upd (fun q => q = nb) w w5 := (hur.trans (hu4.mono (fun _ f => f.elim))).trans hu5
        have HB5 := Lib.hid hb5
        have H5R := Lib.hid h5r
        clear hb5 r4 h5r
        by_cases hr0 : r = 0
        · have h := H5R.out hr0
          subst hr0
          go_wp2_with fail
          go_roundg (gk - 1)
          case measure => omega
          case rel =>
           refine ⟨j + 1, n5, by omega, by go_num, HB5.out, hur5, by omega, h.2.2, ?_, ?_, by have := hu4.size; have := hu5.size; omega⟩
           · rw [List.take_succ_eq_append_getElem hjl, twfs_app, hwf, HX.out]; simp [Tm.wfs, h.1]
           rw [List.take_succ_eq_append_getElem hjl, tnodess_app, HX.out]; have := h.2.1; have e : Tm.nodess [x] = Tm.nodes x := by simp [Tm.nodess]
           omega
        have t6 : decide (r = 0) = false := by simp [hr0]
        go_wp2_with fail
        go_ret
        exact ⟨_, rfl, n5, HB5.out, hur5, by omega, by omega, fun h => absurd h hr0⟩
      have t5 : decide ((j : Int) < M) = false := by simp; omega
      have hjM : ks.take j = ks := by rw [List.take_of_length_le]; have := HM.out; omega
      rw [hjM] at hwf hnd
      go_wp2_with fail
      go_ret
      refine ⟨_, rfl, nn, HBR.out, hur, by omega, by omega, fun _ => ⟨?_, ?_, hn3⟩⟩
      · have h1 := HBB.out
        have h2 := HB1.out
        have h3 := HK.out
        rw [Tm.wf, hwf]
        simp [h3.1, h3.2]
        omega
      rw [Tm.nodes]
      omega
  have t4 : ((ks.length : Int) != tar k) = true := by simp [b2]
  refine wp_region_P (by kernel_rfl) ?_
  refine wpAny_of_S [] (fun _ X => X = W2.drew) _ _ _ _ ?_
  have hS : W2.drew = W2.drew := rfl
  refine sT 0 ?_ [] rfl (by kernel_rfl) (by rfl) ?_ hS ?_
  rotate_left
  · rintro wx ⟨L, hL, hun, hx⟩
    obtain rfl := hx
    have hx := True.intro
    clear hx hL hun
    go_simp
    with_reducible rfl
  try simp only [tl]
  refine sT 1 ?_ [] rfl (by kernel_rfl) (by rfl) ?_ hS ?_
  rotate_left
  · rintro wx ⟨L, hL, hun, hx⟩
    obtain rfl := hx
    have hx := True.intro
    have q : W2.drew.cell? ⟨w.heap.size, 0, none⟩ = some (.int .i64 k) := s0
    clear hx hL hun
    go_simp
    with_reducible rfl
  try simp only [tl]
  refine wpAnyS_one (i := 2) [] (by kernel_rfl) rfl (by rfl) fun K hK => ?_
  go_simp
  refine (rkids_any k W2.drew).mono ?_
  rintro e w' ⟨rfl, hw'⟩
  subst hw'
  refine hK _ _ rfl ?_
  clear hK K; try simp only [tl]
  refine sT 3 ?_ [] rfl (by kernel_rfl) (by rfl) ?_ hS ?_
  rotate_left
  · rintro wx ⟨L, hL, hun, hx⟩
    obtain rfl := hx
    have hx := True.intro
    clear hx hL hun
    go_simp
    with_reducible rfl
  try simp only [tl]
  refine sT 4 ?_ [] rfl (by kernel_rfl) (by rfl) ?_ hS ?_
  rotate_left
  · rintro wx ⟨L, hL, hun, hx⟩
    obtain rfl := hx
    have hx := True.intro
    clear hx hL hun
    go_simp
    with_reducible rfl
  try simp only [tl]
  refine sT 5 ?_ [] rfl (by kernel_rfl) (by rfl) ?_ hS ?_
  rotate_left
  · rintro wx ⟨L, hL, hun, hx⟩
    obtain rfl := hx
    have hx := True.intro
    clear hx hL hun
    go_simp
    with_reducible rfl
  try simp only [tl]
  refine sT 6 ?_ [] rfl (by kernel_rfl) (by rfl) ?_ hS ?_
  rotate_left
  · rintro wx ⟨L, hL, hun, hx⟩
    obtain rfl := hx
    have hx := True.intro
    have q : W2.drew.cell? ⟨w.heap.size, 7, none⟩ = some (.slice A ks.length c) := s7
    clear hx hL hun
    go_simp
    with_reducible rfl
  try simp only [tl]
  refine sT 7 ?_ [] rfl (by kernel_rfl) (by rfl) ?_ hS ?_
  rotate_left
  · rintro wx ⟨L, hL, hun, hx⟩
    obtain rfl := hx
    have hx := True.intro
    clear hx hL hun
    go_simp
    with_reducible rfl
  try simp only [tl]
  refine sT 8 ?_ [] rfl (by kernel_rfl) (by rfl) ?_ hS ?_
  rotate_left
  · rintro wx ⟨L, hL, hun, hx⟩
    obtain rfl := hx
    have hx := True.intro
    clear hx hL hun
    go_simp
    with_reducible rfl
  try simp only [tl]
  refine sT 9 ?_ [] rfl (by kernel_rfl) (by rfl) ?_ hS ?_
  rotate_left
  · rintro wx ⟨L, hL, hun, hx⟩
    obtain rfl := hx
    have hx := True.intro
    have q : W2.drew.cell? ⟨w.heap.size, 0, none⟩ = some (.int .i64 k) := s0
    clear hx hL hun
    go_simp
    with_reducible rfl
  try simp only [tl]
  refine wpAnyS_one (i := 10) [] (by kernel_rfl) rfl (by rfl) fun K hK => ?_
  go_simp
  refine (rkids_any k W2.drew).mono ?_
  rintro e w' ⟨rfl, hw'⟩
  subst hw'
  refine hK _ _ rfl ?_
  clear hK K; try simp only [tl]
  refine sT 11 ?_ [] rfl (by kernel_rfl) (by rfl) ?_ hS ?_
  rotate_left
  · rintro wx ⟨L, hL, hun, hx⟩
    obtain rfl := hx
    have hx := True.intro
    clear hx hL hun
    go_simp
    with_reducible rfl
  try simp only [tl]
  refine sT 12 ?_ [] rfl (by kernel_rfl) (by rfl) ?_ hS ?_
  rotate_left
  · rintro wx ⟨L, hL, hun, hx⟩
    obtain rfl := hx
    have hx := True.intro
    clear hx hL hun
    go_simp
    with_reducible rfl
  try simp only [tl]
  refine wpAnyS_one (i := 13) [] (by kernel_rfl) rfl (by rfl) fun K hK => ?_
  go_simp
  refine hK _ _ rfl ?_
  clear hK K; try simp only [tl]
  refine wpAnyS_done (by kernel_rfl) ?_
  refine NoPanic.normal ?_
  go_wp2_with fail
  go_ret
  exact ⟨1, rfl, n + 1, HB2N.out, HU02.out.drew, by omega, by omega, fun h => by cases h⟩
end Go.Proofs.YtiampoebdmflgaaGreat
/- The reference's May of a term, from without. -/
namespace Go.Proofs.YtiampoebdmflgaaGreat
open Go.RowKit
set_option linter.unusedVariables false
set_option maxRecDepth 100000
set_option maxHeartbeats 2000000
set_option linter.unusedSimpArgs false
theorem tmay_top (t : Tm) (cs : Array Value) (D : Nat → Prop) (w : World) (vars : Int) (hD : Within D w) (ht : TmIs D w t cs) :
    Calls Tryz.prog 9 #[.agg cs, .int .i64 vars] w fun e w' => ∃ r : Int, e = .returned (.int .i64 r) ∧ (r = 0 → t.wf = true ∧ t.nodes ≤ 400) ∧ Upd nob w w' := by
 have hone := ht.oneCell
 obtain ⟨W1, hW1⟩ : ∃ W, (w.alloc (.cells cs 28)).alloc (.cells #[.int .i64 0] 3) = W := ⟨_, rfl⟩
 have hu1 : Upd nob w W1 := by rw [← hW1]; exact ((Upd.refl nob w).alloc _).alloc _
 have hb1 : Blk W1 w.heap.size 28 cs := by rw [← hW1]; exact (Blk.new w _ _).alloc _
 have hb2 : Blk W1 (w.heap.size + 1) 3 #[.int .i64 0] := by
  rw [← hW1]
  have h := Blk.new (w.alloc (.cells cs 28)) 3 #[.int .i64 0]
  rw [World.size_alloc] at h
  exact h
 have HL1 := Lib.hid (ht.old (hD.old hu1) (fun _ h => h))
 obtain ⟨yp, yq, yB, ym, yd, yE, yx, yE', yx', rfl⟩ := ht.lit8
 have r0 := hb1.rowAt
 have HB2 := Lib.hid hb2
 rw [← hW1] at r0
 have HW1 := Lib.hid hW1
 clear hW1 hb1 hb2 ht
 go_enter Tryz.func9, Tryz.ntmps9
 go_wp2_with (first
  | ((with_reducible refine this_op (.load 28 (.tmp 2)) ?_); refine wpList_at rfl 28 (.tmp 2) rfl ⟨w.heap.size, 0, none⟩ rfl _ _ r0 Tryz.underlying28 rfl tm_size ?_))
 rw [HW1.out]
 refine (tmay_any t _ D W1 vars 1 0 (w.heap.size + 1) (hD.up hu1) HL1.out (fun h => by have := hD _ h; omega) HB2.out (by omega) (by omega) (by omega) (by omega)).mono ?_
 rintro e w2 ⟨r, rfl, n', hb, hu, _, _, hr⟩
 have HR := Lib.hid hr
 clear hr
 go_wp2_with fail
 go_ret
 exact ⟨r, rfl, fun h => ⟨(HR.out h).1, by have := HR.out h; omega⟩, hu1.trans' hu (fun q hq h => by have h : q = w.heap.size + 1 := h; omega)⟩
end Go.Proofs.YtiampoebdmflgaaGreat
/- whnf's model and its fuel: what comes out with some comes out with more, and as much is spent; with less there is none. -/
namespace Go.Proofs.YtiampoebdmflgaaGreat
open Go.RowKit
set_option linter.unusedVariables false
set_option maxRecDepth 100000
set_option maxHeartbeats 1000000
def Fueled (f : Nat → Option WRes) : Prop := ∀ F u e left, f F = some (u, e, left) → left ≤ F ∧ (e = 5 → left = 0 ∧ u = tmz ∧ ∀ F', F' ≤ F → f F' = some (tmz, 5, 0)) ∧
 (e ≠ 5 → (∀ F', F - left ≤ F' → f F' = some (u, e, F' - (F - left))) ∧ ∀ F', F' < F - left → f F' = some (tmz, 5, 0))
def FueledS (f : Nat → Option (Nat × Nx × Int)) : Prop := ∀ F f1 nx e, f F = some (f1, nx, e) → f1 ≤ F ∧ (e = 5 → f1 = 0 ∧ nx = none ∧ ∀ F', F' ≤ F → f F' = some (0, none, 5)) ∧
 (e ≠ 5 → (∀ F', F - f1 ≤ F' → f F' = some (F' - (F - f1), nx, e)) ∧ ∀ F', F' < F - f1 → f F' = some (0, none, 5))
theorem fueled_const {nx : Nx} : FueledS (fun F => some (F, nx, 0)) := fun F f1 nx' e h => by
 simp only [Option.some.injEq, Prod.mk.injEq] at h
 obtain ⟨rfl, rfl, rfl⟩ := h
 refine ⟨Nat.le_refl _, fun h => absurd h (by decide), fun _ => ⟨fun F' _ => ?_, fun F' h => absurd h (by omega)⟩⟩
 rw [show F' - (F - F) = F' by omega]
theorem fueled_none : FueledS (fun _ => none) := fun F f1 nx e h => by cases h
theorem wiota_fueled {G : List Glb} {rec : Nat → Tm → Option WRes} (hr : ∀ x, Fueled (fun f => rec f x)) (g : Glb) (h : Tm) (args : List Tm) : FueledS (fun F => wiota G rec F g h args) := by
 unfold wiota
 by_cases hm : wmajor g.params g.minors g.indices args.length < 0
 · simp only [hm, if_true]; exact fueled_const
 simp only [hm, if_false]
 cases ha : args[(wmajor g.params g.minors g.indices args.length).toNat]? with
 | none => exact fueled_none
 | some a =>
  simp only
  intro F f1 nx e hF
  cases hq : rec F a with
  | none => simp only [hq] at hF; cases hF
  | some r =>
   obtain ⟨u, e1, left⟩ := r
   simp only [hq] at hF
   obtain ⟨h1, h2, h3⟩ := hr a F u e1 left hq
   by_cases he : e1 ≠ 0
   · rw [if_pos he] at hF
     simp only [Option.some.injEq, Prod.mk.injEq] at hF
     obtain ⟨rfl, rfl, rfl⟩ := hF
     refine ⟨h1, fun h5 => ?_, fun h5 => ⟨fun F' hF' => ?_, fun F' hF' => ?_⟩⟩
     · obtain ⟨k1, k2, k3⟩ := h2 h5
       refine ⟨k1, rfl, fun F' hF' => ?_⟩
       have := k3 F' hF'
       simp only at this
       simp only [this]
       rfl
     · have := (h3 h5).1 F' hF'
       simp only at this
       simp only [this, if_pos he]
     have := (h3 h5).2 F' hF'
     simp only at this
     simp only [this]
     rfl
   rw [if_neg he] at hF
   simp only [Option.some.injEq, Prod.mk.injEq] at hF
   obtain ⟨rfl, rfl, rfl⟩ := hF
   have he0 : e1 = 0 := by omega
   subst he0
   refine ⟨h1, fun h5 => absurd h5 (by decide), fun h5 => ⟨fun F' hF' => ?_, fun F' hF' => ?_⟩⟩
   · have := (h3 h5).1 F' hF'
     simp only at this
     simp only [this]
     rfl
   have := (h3 h5).2 F' hF'
   simp only at this
   simp only [this]
   rfl
theorem wstep_fueled {G : List Glb} {rec : Nat → Tm → Option WRes} (hr : ∀ x, Fueled (fun f => rec f x)) (t : Tm) : FueledS (fun F => wstep G rec F t) := by
 unfold wstep
 simp only
 split
 · split
   · exact fueled_const
   exact fueled_none
 split
 · split
   · exact fueled_const
   exact fueled_none
 split
 · exact fueled_const
 split
 · exact fueled_const
 split
 · exact fueled_const
 split
 · exact fueled_const
 split
 · exact wiota_fueled hr _ _ _
 exact fueled_const
theorem wloop_fueled {G : List Glb} : ∀ (n : Nat) (t : Tm), Fueled (fun f => wloop G n f t)
 | 0, t => fun F u e left h => by cases h
 | n + 1, t => by
  have ih := wloop_fueled (G := G) n
  have hrec : ∀ x, Fueled (fun f => if wfits x = true then wloop G n f x else some (tmz, 6, f)) := fun x => by
   by_cases hx : wfits x = true
   · simp only [hx, if_true]; exact ih x
   simp only [hx]
   intro F u e left h
   simp only [Bool.false_eq_true, if_false, Option.some.injEq, Prod.mk.injEq] at h ⊢
   obtain ⟨rfl, rfl, rfl⟩ := h
   exact ⟨Nat.le_refl _, fun h => absurd h (by decide), fun _ => ⟨fun F' _ => ⟨rfl, rfl, by omega⟩, fun F' h => absurd h (by omega)⟩⟩
  have hs := wstep_fueled (G := G) (rec := fun f x => if wfits x = true then wloop G n f x else some (tmz, 6, f)) hrec t
  intro F u e left h
  simp only [wloop] at h ⊢
  cases hq : wstep G (fun f x => if wfits x = true then wloop G n f x else some (tmz, 6, f)) F t with
  | none => rw [hq] at h; cases h
  | some r =>
   obtain ⟨f1, nx, e1⟩ := r
   rw [hq] at h
   simp only at h
   obtain ⟨s1, s2, s3⟩ := hs F f1 nx e1 hq
   simp only at s2 s3
   by_cases he : e1 ≠ 0
   · rw [if_pos he] at h
     simp only [Option.some.injEq, Prod.mk.injEq] at h
     obtain ⟨rfl, rfl, rfl⟩ := h
     refine ⟨s1, fun h5 => ?_, fun h5 => ⟨fun F' hF' => ?_, fun F' hF' => ?_⟩⟩
     · obtain ⟨k1, _, k3⟩ := s2 h5
       refine ⟨k1, rfl, fun F' hF' => ?_⟩
       rw [k3 F' hF']; rfl
     · rw [(s3 h5).1 F' hF']
       simp only [if_pos he]
     rw [(s3 h5).2 F' hF']; rfl
   rw [if_neg he] at h
   have he0 : e1 = 0 := by omega
   subst he0
   obtain ⟨t1, t2⟩ := s3 (by decide)
   cases nx with
   | none =>
    simp only [Option.some.injEq, Prod.mk.injEq] at h
    obtain ⟨rfl, rfl, rfl⟩ := h
    refine ⟨s1, fun h5 => absurd h5 (by decide), fun _ => ⟨fun F' hF' => ?_, fun F' hF' => ?_⟩⟩
    · rw [t1 F' hF']; rfl
    rw [t2 F' hF']; rfl
   | some x =>
    obtain ⟨t', ok⟩ := x
    simp only at h
    by_cases h0 : f1 = 0
    · rw [if_pos h0] at h
      simp only [Option.some.injEq, Prod.mk.injEq] at h
      obtain ⟨rfl, rfl, rfl⟩ := h
      subst h0
      refine ⟨Nat.zero_le _, fun _ => ⟨rfl, rfl, fun F' hF' => ?_⟩, fun h5 => absurd rfl h5⟩
      by_cases hc : F' < F - 0
      · rw [t2 F' hc]; rfl
      rw [t1 F' (by omega)]
      have : F' - (F - 0) = 0 := by omega
      simp only [this]
      rfl
    rw [if_neg h0] at h
    cases ok with
    | false =>
     simp only [Bool.false_eq_true, if_false, Option.some.injEq, Prod.mk.injEq] at h
     obtain ⟨rfl, rfl, rfl⟩ := h
     refine ⟨by omega, fun h5 => absurd h5 (by decide), fun _ => ⟨fun F' hF' => ?_, fun F' hF' => ?_⟩⟩
     · rw [t1 F' (by omega)]
       have : F' - (F - f1) ≠ 0 := by omega
       simp only [this, if_false, Bool.false_eq_true]
       simp
       omega
     by_cases hc : F' < F - f1
     · rw [t2 F' hc]; rfl
     rw [t1 F' (by omega)]
     have : F' - (F - f1) = 0 := by omega
     simp only [this]
     rfl
    | true =>
     simp only [if_true] at h
     obtain ⟨v1, v2, v3⟩ := ih t' (f1 - 1) u e left h
     simp only at v2 v3
     refine ⟨by omega, fun h5 => ?_, fun h5 => ⟨fun F' hF' => ?_, fun F' hF' => ?_⟩⟩
     · obtain ⟨k1, k2, k3⟩ := v2 h5
       refine ⟨k1, k2, fun F' hF' => ?_⟩
       by_cases hc : F' < F - f1
       · rw [t2 F' hc]; rfl
       rw [t1 F' (by omega)]
       by_cases hz : F' - (F - f1) = 0
       · simp only [hz]; rfl
       simp only [hz, if_false, if_true]
       have := k3 (F' - (F - f1) - 1) (by omega)
       simpa using this
     · rw [t1 F' (by omega)]
       have hz : F' - (F - f1) ≠ 0 := by omega
       have := (v3 h5).1 (F' - (F - f1) - 1) (by omega)
       have e2 : F' - (F - f1) - 1 - (f1 - 1 - left) = F' - (F - left) := by omega
       rw [e2] at this
       simpa [hz] using this
     by_cases hc : F' < F - f1
     · rw [t2 F' hc]; rfl
     rw [t1 F' (by omega)]
     by_cases hz : F' - (F - f1) = 0
     · simp only [hz]; rfl
     have := (v3 h5).2 (F' - (F - f1) - 1) (by omega)
     simpa [hz] using this
theorem wwhnf_fueled {G : List Glb} (n : Nat) (t : Tm) : Fueled (fun f => wwhnf G n f t) := by
 unfold wwhnf
 by_cases hx : wfits t = true
 · simp only [hx, if_true]; exact wloop_fueled n t
 simp only [hx]
 intro F u e left h
 simp only [Bool.false_eq_true, if_false, Option.some.injEq, Prod.mk.injEq] at h ⊢
 obtain ⟨rfl, rfl, rfl⟩ := h
 exact ⟨Nat.le_refl _, fun h => absurd h (by decide), fun _ => ⟨fun F' _ => ⟨rfl, rfl, by omega⟩, fun F' h => absurd h (by omega)⟩⟩
end Go.Proofs.YtiampoebdmflgaaGreat
/- What WhnfFuel needs, together. -/
/- WhnfFuel walked. -/
namespace Go.Proofs.YtiampoebdmflgaaGreat
open Go.RowKit
set_option linter.unusedVariables false
set_option maxRecDepth 100000
set_option maxHeartbeats 4000000
set_option linter.unusedSimpArgs false
theorem there_up {w w' : World} {S : Nat → Prop} (hu : Upd S w w') : ∀ q, There w q → There w' q := fun _ h => Nat.lt_of_lt_of_le h hu.size
theorem there_grow {w w' : World} {S : Nat → Prop} (hu : Upd S w w') : ∀ q, grow (There w) w w' q → There w' q := fun q h => h.elim (fun h => Nat.lt_of_lt_of_le h hu.size) (fun h => h.2)
theorem wfuel_nat {F : Nat} (h : F ≤ 1000000) : (wfuel (F : Int)).toNat = F := by unfold wfuel; omega
theorem more_nat (more : Int) : ∃ M : Nat, wrap64 ((IntKind.u64.wrap more).tmod 1000) = (M : Int) ∧ M ≤ 999 := by
 have h : 0 ≤ IntKind.u64.wrap more := by
  simp [IntKind.wrap, IntKind.signed, IntKind.bits]
  omega
 obtain ⟨u, hu⟩ : ∃ u, IntKind.u64.wrap more = u := ⟨_, rfl⟩
 rw [hu] at h ⊢
 have h1 : u.tmod 1000 = u % 1000 := Int.tmod_eq_emod_of_nonneg h
 rw [h1]
 refine ⟨(u % 1000).toNat, ?_, by omega⟩
 unfold wrap64; omega
theorem whnffuel_any (l : List Glb) (t : Tm) (fuel more : Int) (A : Option Addr) (c : Nat) (cs : Array Value) (w : World) (hl : RAt glR (There w) w l A) (hlc : l.length ≤ c) (ht : TmIs (There w) w t cs) :
    Calls Tryz.prog 3 #[.slice A l.length c, .agg cs, .int .i64 fuel, .int .i64 more] w fun e w' => e = .returned (.bool true) ∧ Below w.heap.size w w' := by
 have hz := tm_zero
 obtain ⟨yp, yq, yB, ym, yd, yE, yx, yE', yx', rfl⟩ := ht.lit8
 obtain ⟨n, hn⟩ : ∃ n, l.length = n := ⟨_, rfl⟩
 have HN := Lib.hid hn
 obtain ⟨W1, hW1⟩ : ∃ W, w.alloc (.cells #[.int .i64 t.k, .int .i64 t.n, .string t.nm, .int .i64 yp, .int .i64 yq, .slice yB ym yd, .slice yE t.ls.length yx, .slice yE' t.ks.length yx'] 28) = W := ⟨_, rfl⟩
 have hu1 : Upd nob w W1 := by rw [← hW1]; exact (Upd.refl nob w).alloc _
 have hb1 : Blk W1 w.heap.size 28 #[.int .i64 t.k, .int .i64 t.n, .string t.nm, .int .i64 yp, .int .i64 yq, .slice yB ym yd, .slice yE t.ls.length yx, .slice yE' t.ks.length yx'] := by rw [← hW1]; exact Blk.new w _ _
 have HL := Lib.hid (hl.old ((There_in w).old hu1) (there_up hu1))
 have HT := Lib.hid (ht.old ((There_in w).old hu1) (there_up hu1))
 have HB1 := Lib.hid hb1
 have HW1 := Lib.hid hW1
 rw [hn] at hlc ⊢
 clear hl ht hn hW1 hb1
 obtain ⟨F, hF⟩ : ∃ F : Nat, max 0 (min fuel 3000) = (F : Int) := ⟨(max 0 (min fuel 3000)).toNat, by omega⟩
 have hF3 : F ≤ 3000 := by omega
 obtain ⟨M, hM, hM9⟩ := more_nat more
 go_enter Tryz.func3, Tryz.ntmps3
 go_wp2_with fail
 rw [HW1.out]
 have hcall := light10_any l A c (There W1) W1 (There_in W1) HL.out
 rw [HN.out] at hcall
 refine hcall.mono ?_
 clear hcall
 rintro e w2 ⟨rfl, hu2⟩
 have hu02 := hu1.trans hu2
 cases hw2 : wlight 0 l with
 | false =>
  go_wp2_with fail
  refine (awake10_any w2).mono ?_
  rintro e w3 ⟨rfl, hb3⟩
  go_wp2_with fail
  go_ret
  exact ⟨rfl, (hu02.trans (Upd.of_below hb3)).below⟩
 | true =>
  have hn30 : n ≤ 30 := by
   have := HN.out
   rcases wlight_len 0 l hw2 with h | h
   · omega
   rw [h] at this; simp at this; omega
  clear hw2
  have hb2 := HB1.out.upd hu2 (fun f => f)
  have HT2 := Lib.hid (HT.out.old ((There_in W1).old hu2) (there_up hu2))
  have HL2 := Lib.hid (HL.out.old ((There_in W1).old hu2) (there_up hu2))
  have k0 : w2.cell? ⟨w.heap.size, 0, none⟩ = some (.int .i64 t.k) := hb2.cell 0
  have k1 : w2.cell? ⟨w.heap.size, 1, none⟩ = some (.int .i64 t.n) := hb2.cell 1
  have k2 : w2.cell? ⟨w.heap.size, 2, none⟩ = some (.string t.nm) := hb2.cell 2
  have k3 : w2.cell? ⟨w.heap.size, 3, none⟩ = some (.int .i64 yp) := hb2.cell 3
  have k4 : w2.cell? ⟨w.heap.size, 4, none⟩ = some (.int .i64 yq) := hb2.cell 4
  have k5 : w2.cell? ⟨w.heap.size, 5, none⟩ = some (.slice yB ym yd) := hb2.cell 5
  have k6 : w2.cell? ⟨w.heap.size, 6, none⟩ = some (.slice yE t.ls.length yx) := hb2.cell 6
  have k7 : w2.cell? ⟨w.heap.size, 7, none⟩ = some (.slice yE' t.ks.length yx') := hb2.cell 7
  have kl : w.heap.size < w2.heap.size := hb2.lt
  have HB2 := Lib.hid hb2
  clear hb2 HB1 HT HL
  go_wp2_with fail
  refine (tmay_top t _ (There w2) w2 6 (There_in w2) HT2.out).mono ?_
  rintro e w3 ⟨r, rfl, hr, hu3⟩
  have hu03 := hu02.trans hu3
  clear hr k0 k1 k2 k3 k4 k5 k6 k7 kl
  by_cases hr0 : r = 0
  · subst hr0
    have HB3 := Lib.hid (HB2.out.upd hu3 (fun f => f))
    have HT3 := Lib.hid (HT2.out.old ((There_in w2).old hu3) (there_up hu3))
    have HL3 := Lib.hid (HL2.out.old ((There_in w2).old hu3) (there_up hu3))
    clear HB2 HT2 HL2
    go_wp2_with fail
    refine (little_any fuel w3).mono ?_
    rintro e w3' ⟨rfl, hw3⟩
    subst hw3
    go_wp2_with fail
    have hcall := new_any l A c (There w3) w3 (There_in w3) HL3.out (by have := HN.out; omega) (by have := HN.out; omega)
    rw [HN.out] at hcall
    refine hcall.mono ?_
    clear hcall
    rintro e w4 ⟨eb, rfl, he4, hu4⟩
    have hu04 := hu03.trans hu4
    obtain ⟨G, hG⟩ : ∃ G, gwith [] l = G := ⟨_, rfl⟩
    rw [hG] at he4
    have HE4 := Lib.hid (he4.old (Old.refl _ _) (there_grow hu4))
    have HT4 := Lib.hid (HT3.out.old ((There_in w3).old hu4) (there_up hu4))
    have hb4 := HB3.out.upd hu4 (fun f => f)
    have HB4 := Lib.hid hb4
    have k0 : w4.cell? ⟨w.heap.size, 0, none⟩ = some (.int .i64 t.k) := hb4.cell 0
    have k1 : w4.cell? ⟨w.heap.size, 1, none⟩ = some (.int .i64 t.n) := hb4.cell 1
    have k2 : w4.cell? ⟨w.heap.size, 2, none⟩ = some (.string t.nm) := hb4.cell 2
    have k3 : w4.cell? ⟨w.heap.size, 3, none⟩ = some (.int .i64 yp) := hb4.cell 3
    have k4 : w4.cell? ⟨w.heap.size, 4, none⟩ = some (.int .i64 yq) := hb4.cell 4
    have k5 : w4.cell? ⟨w.heap.size, 5, none⟩ = some (.slice yB ym yd) := hb4.cell 5
    have k6 : w4.cell? ⟨w.heap.size, 6, none⟩ = some (.slice yE t.ls.length yx) := hb4.cell 6
    have k7 : w4.cell? ⟨w.heap.size, 7, none⟩ = some (.slice yE' t.ks.length yx') := hb4.cell 7
    have kl : w.heap.size < w4.heap.size := hb4.lt
    clear he4 hG hb4 HB3 HT3 HL3
    go_wp2_with fail
    refine (whnf_top G _ F t (There w4) w4 _ (There_in w4) (.inr ⟨eb, rfl, HE4.out⟩) HT4.out).mono ?_
    rintro e w5 ⟨n1, u, err, left, ucs, hw1, rfl, hut, hu5, hle⟩
    rw [wfuel_nat (by omega)] at hw1 hle
    have hu05 := hu04.trans hu5
    have HU5 := Lib.hid (hut.old (Old.refl _ _) (there_grow hu5))
    have HO5 := Lib.hid hut.oneCell.2
    obtain ⟨up, uq, uB, um, ud, uE, ux, uE', ux', rfl⟩ := hut.lit8
    have HE5 := Lib.hid (HE4.out.old ((There_in w4).old hu5) (there_up hu5))
    have HT5 := Lib.hid (HT4.out.old ((There_in w4).old hu5) (there_up hu5))
    have HB5 := Lib.hid (HB4.out.upd hu5 (fun f => f))
    have HW1H := Lib.hid hw1
    clear hut hw1 HE4 HT4 HB4 k0 k1 k2 k3 k4 k5 k6 k7 kl
    by_cases e5 : err = 5
    · subst e5
      have hl0 : left = 0 := ((wwhnf_fueled n1 t F u 5 left HW1H.out).2.1 rfl).1
      subst hl0
      go_wp2_with (first
       | ((with_reducible refine this_op (.store 28 (.tmp 10) (.tmp 46)) ?_); refine wpList_store_row rfl 28 (.tmp 10) (.tmp 46) rfl w5.heap.size _ rfl rfl 28 _ (Blk.new w5 _ _) tm_size rfl HO5.out ?_
          obtain ⟨W6, hW6⟩ : ∃ W, (w5.alloc (.cells #[.int .i64 0, .int .i64 0, .string ByteArray.empty, .int .i64 0, .int .i64 0, .slice none 0 0, .slice none 0 0, .slice none 0 0] 28)).setRow w5.heap.size #[.int .i64 u.k, .int .i64 u.n, .string u.nm, .int .i64 up, .int .i64 uq, .slice uB um ud, .slice uE u.ls.length ux, .slice uE' u.ks.length ux'] = W := ⟨_, rfl⟩
          have hu6 : Upd nob w5 W6 := by rw [← hW6]; exact ((Upd.refl nob w5).alloc _).setRow (.inr (Nat.le_refl _)) _
          have hbx : Blk W6 w5.heap.size 28 #[.int .i64 u.k, .int .i64 u.n, .string u.nm, .int .i64 up, .int .i64 uq, .slice uB um ud, .slice uE u.ls.length ux, .slice uE' u.ks.length ux'] := by rw [← hW6]; exact (Blk.new w5 _ _).row _
          rw [hW6]
          clear hW6
          have HX6 := Lib.hid hbx
          have HE6 := Lib.hid (HE5.out.old ((There_in w5).old hu6) (there_up hu6))
          have HT6 := Lib.hid (HT5.out.old ((There_in w5).old hu6) (there_up hu6))
          have HB6 := Lib.hid (HB5.out.upd hu6 (fun f => f))
          have HU6 := Lib.hid (HU5.out.old ((There_in w5).old hu6) (there_up hu6))
          have hb6 := HB6.out
          have k0 : W6.cell? ⟨w.heap.size, 0, none⟩ = some (.int .i64 t.k) := hb6.cell 0
          have k1 : W6.cell? ⟨w.heap.size, 1, none⟩ = some (.int .i64 t.n) := hb6.cell 1
          have k2 : W6.cell? ⟨w.heap.size, 2, none⟩ = some (.string t.nm) := hb6.cell 2
          have k3 : W6.cell? ⟨w.heap.size, 3, none⟩ = some (.int .i64 yp) := hb6.cell 3
          have k4 : W6.cell? ⟨w.heap.size, 4, none⟩ = some (.int .i64 yq) := hb6.cell 4
          have k5 : W6.cell? ⟨w.heap.size, 5, none⟩ = some (.slice yB ym yd) := hb6.cell 5
          have k6 : W6.cell? ⟨w.heap.size, 6, none⟩ = some (.slice yE t.ls.length yx) := hb6.cell 6
          have k7 : W6.cell? ⟨w.heap.size, 7, none⟩ = some (.slice yE' t.ks.length yx') := hb6.cell 7
          have kl : w.heap.size < W6.heap.size := hb6.lt
          clear hb6 hbx))
      refine (awake10_any W6).mono ?_
      rintro e w7 ⟨rfl, hb7⟩
      go_wp2_with fail
      go_ret
      exact ⟨rfl, ((hu05.trans hu6).trans (Upd.of_below hb7)).below⟩
    have e5' : decide (err = 5) = false := by simp [e5]
    obtain ⟨k1, k2⟩ := (wwhnf_fueled n1 t F u err left HW1H.out).2.2 e5
    simp only at k1 k2
    have hmore := k1 (F + M) (by omega)
    have hmm : F + M - (F - left) = left + M := by omega
    rw [hmm] at hmore
    have HMO := Lib.hid hmore
    have HK2 := Lib.hid k2
    have hadd : wrap64 ((F : Int) + (M : Int)) = ((F + M : Nat) : Int) := by unfold wrap64; omega
    clear k1 k2 hmore
    by_cases e0 : err = 0
    · subst e0
      go_wp2_with (first
       | ((with_reducible refine this_op (.store 28 (.tmp 10) (.tmp 46)) ?_); refine wpList_store_row rfl 28 (.tmp 10) (.tmp 46) rfl w5.heap.size _ rfl rfl 28 _ (Blk.new w5 _ _) tm_size rfl HO5.out ?_
          obtain ⟨W6, hW6⟩ : ∃ W, (w5.alloc (.cells #[.int .i64 0, .int .i64 0, .string ByteArray.empty, .int .i64 0, .int .i64 0, .slice none 0 0, .slice none 0 0, .slice none 0 0] 28)).setRow w5.heap.size #[.int .i64 u.k, .int .i64 u.n, .string u.nm, .int .i64 up, .int .i64 uq, .slice uB um ud, .slice uE u.ls.length ux, .slice uE' u.ks.length ux'] = W := ⟨_, rfl⟩
          have hu6 : Upd nob w5 W6 := by rw [← hW6]; exact ((Upd.refl nob w5).alloc _).setRow (.inr (Nat.le_refl _)) _
          have hbx : Blk W6 w5.heap.size 28 #[.int .i64 u.k, .int .i64 u.n, .string u.nm, .int .i64 up, .int .i64 uq, .slice uB um ud, .slice uE u.ls.length ux, .slice uE' u.ks.length ux'] := by rw [← hW6]; exact (Blk.new w5 _ _).row _
          rw [hW6]
          clear hW6
          have HX6 := Lib.hid hbx
          have HE6 := Lib.hid (HE5.out.old ((There_in w5).old hu6) (there_up hu6))
          have HT6 := Lib.hid (HT5.out.old ((There_in w5).old hu6) (there_up hu6))
          have HB6 := Lib.hid (HB5.out.upd hu6 (fun f => f))
          have HU6 := Lib.hid (HU5.out.old ((There_in w5).old hu6) (there_up hu6))
          have hb6 := HB6.out
          have k0 : W6.cell? ⟨w.heap.size, 0, none⟩ = some (.int .i64 t.k) := hb6.cell 0
          have k1 : W6.cell? ⟨w.heap.size, 1, none⟩ = some (.int .i64 t.n) := hb6.cell 1
          have k2 : W6.cell? ⟨w.heap.size, 2, none⟩ = some (.string t.nm) := hb6.cell 2
          have k3 : W6.cell? ⟨w.heap.size, 3, none⟩ = some (.int .i64 yp) := hb6.cell 3
          have k4 : W6.cell? ⟨w.heap.size, 4, none⟩ = some (.int .i64 yq) := hb6.cell 4
          have k5 : W6.cell? ⟨w.heap.size, 5, none⟩ = some (.slice yB ym yd) := hb6.cell 5
          have k6 : W6.cell? ⟨w.heap.size, 6, none⟩ = some (.slice yE t.ls.length yx) := hb6.cell 6
          have k7 : W6.cell? ⟨w.heap.size, 7, none⟩ = some (.slice yE' t.ks.length yx') := hb6.cell 7
          have kl : w.heap.size < W6.heap.size := hb6.lt
          clear hb6 hbx))
      refine (whnf_top G _ ((F + M : Nat) : Int) t (There W6) W6 _ (There_in W6) (.inr ⟨eb, rfl, HE6.out⟩) HT6.out).mono ?_
      rintro e w7 ⟨n2, v, err2, left2, vcs, hw2, rfl, hvt, hu7, hle2⟩
      rw [wfuel_nat (by omega)] at hw2
      have he := wwhnf_one hw2 HMO.out
      simp only [Prod.mk.injEq] at he
      obtain ⟨rfl, rfl, he3⟩ := he
      obtain rfl : left2 = left + M := he3
      have hu07 := (hu05.trans hu6).trans hu7
      have HV7 := Lib.hid (hvt.old (Old.refl _ _) (there_grow hu7))
      have HO7 := Lib.hid hvt.oneCell.2
      obtain ⟨vp, vq, vB, vm, vd, vE, vx, vE', vx', rfl⟩ := hvt.lit8
      have HE7 := Lib.hid (HE6.out.old ((There_in W6).old hu7) (there_up hu7))
      have HT7 := Lib.hid (HT6.out.old ((There_in W6).old hu7) (there_up hu7))
      have HB7 := Lib.hid (HB6.out.upd hu7 (fun f => f))
      have HU7 := Lib.hid (HU6.out.old ((There_in W6).old hu7) (there_up hu7))
      have HX7 := Lib.hid (HX6.out.upd hu7 (fun f => f))
      clear hvt hw2 hle2 HE6 HT6 HB6 HU6 HX6 k0 k1 k2 k3 k4 k5 k6 k7 kl
      have hsub : ((left : Int) + (M : Int) - (left : Int) != (M : Int)) = false := by simp; omega
      go_wp2_with (first
       | ((with_reducible refine this_op (.store 28 (.tmp 16) (.tmp 81)) ?_); refine wpList_store_row rfl 28 (.tmp 16) (.tmp 81) rfl w7.heap.size _ rfl rfl 28 _ (Blk.new w7 _ _) tm_size rfl HO7.out ?_
          obtain ⟨W8, hW8⟩ : ∃ W, (w7.alloc (.cells #[.int .i64 0, .int .i64 0, .string ByteArray.empty, .int .i64 0, .int .i64 0, .slice none 0 0, .slice none 0 0, .slice none 0 0] 28)).setRow w7.heap.size #[.int .i64 v.k, .int .i64 v.n, .string v.nm, .int .i64 vp, .int .i64 vq, .slice vB vm vd, .slice vE v.ls.length vx, .slice vE' v.ks.length vx'] = W := ⟨_, rfl⟩
          have hu8 : Upd nob w7 W8 := by rw [← hW8]; exact ((Upd.refl nob w7).alloc _).setRow (.inr (Nat.le_refl _)) _
          have hbx : Blk W8 w7.heap.size 28 #[.int .i64 v.k, .int .i64 v.n, .string v.nm, .int .i64 vp, .int .i64 vq, .slice vB vm vd, .slice vE v.ls.length vx, .slice vE' v.ks.length vx'] := by rw [← hW8]; exact (Blk.new w7 _ _).row _
          rw [hW8]
          clear hW8
          have HX8 := Lib.hid (HX7.out.upd hu8 (fun f => f))
          have HE8 := Lib.hid (HE7.out.old ((There_in w7).old hu8) (there_up hu8))
          have HT8 := Lib.hid (HT7.out.old ((There_in w7).old hu8) (there_up hu8))
          have HB8 := Lib.hid (HB7.out.upd hu8 (fun f => f))
          have HU8 := Lib.hid (HU7.out.old ((There_in w7).old hu8) (there_up hu8))
          have HV8 := Lib.hid (HV7.out.old ((There_in w7).old hu8) (there_up hu8))
          have HU08 := Lib.hid (hu07.trans hu8)
          have hx8 := HX8.out
          have g0 : W8.cell? ⟨w5.heap.size, 0, none⟩ = some (.int .i64 v.k) := hx8.cell 0
          have g1 : W8.cell? ⟨w5.heap.size, 1, none⟩ = some (.int .i64 v.n) := hx8.cell 1
          have g2 : W8.cell? ⟨w5.heap.size, 2, none⟩ = some (.string v.nm) := hx8.cell 2
          have g3 : W8.cell? ⟨w5.heap.size, 3, none⟩ = some (.int .i64 up) := hx8.cell 3
          have g4 : W8.cell? ⟨w5.heap.size, 4, none⟩ = some (.int .i64 uq) := hx8.cell 4
          have g5 : W8.cell? ⟨w5.heap.size, 5, none⟩ = some (.slice uB um ud) := hx8.cell 5
          have g6 : W8.cell? ⟨w5.heap.size, 6, none⟩ = some (.slice uE v.ls.length ux) := hx8.cell 6
          have g7 : W8.cell? ⟨w5.heap.size, 7, none⟩ = some (.slice uE' v.ks.length ux') := hx8.cell 7
          have gl : w5.heap.size < W8.heap.size := hx8.lt
          have h0 : W8.cell? ⟨w7.heap.size, 0, none⟩ = some (.int .i64 v.k) := hbx.cell 0
          have h1 : W8.cell? ⟨w7.heap.size, 1, none⟩ = some (.int .i64 v.n) := hbx.cell 1
          have h2 : W8.cell? ⟨w7.heap.size, 2, none⟩ = some (.string v.nm) := hbx.cell 2
          have h3 : W8.cell? ⟨w7.heap.size, 3, none⟩ = some (.int .i64 vp) := hbx.cell 3
          have h4 : W8.cell? ⟨w7.heap.size, 4, none⟩ = some (.int .i64 vq) := hbx.cell 4
          have h5 : W8.cell? ⟨w7.heap.size, 5, none⟩ = some (.slice vB vm vd) := hbx.cell 5
          have h6 : W8.cell? ⟨w7.heap.size, 6, none⟩ = some (.slice vE v.ls.length vx) := hbx.cell 6
          have h7 : W8.cell? ⟨w7.heap.size, 7, none⟩ = some (.slice vE' v.ks.length vx') := hbx.cell 7
          have hl : w7.heap.size < W8.heap.size := hbx.lt
          clear hx8 hbx))
      refine (rSame_any v v _ _ (There W8) W8 (There_in W8) HU8.out HV8.out).mono ?_
      rintro e w9 ⟨rfl, hb9⟩
      have hu9 : Upd nob W8 w9 := Upd.of_below hb9
      have hu09 : Upd nob w w9 := HU08.out.trans hu9
      have HB9 := Lib.hid (HB8.out.upd hu9 (fun f => f))
      have HX9 := Lib.hid (HX8.out.upd hu9 (fun f => f))
      have HT9 := Lib.hid (HT8.out.old ((There_in W8).old hu9) (there_up hu9))
      have HE9 := Lib.hid (HE8.out.old ((There_in W8).old hu9) (there_up hu9))
      have HU9 := Lib.hid (HU8.out.old ((There_in W8).old hu9) (there_up hu9))
      clear g0 g1 g2 g3 g4 g5 g6 g7 gl h0 h1 h2 h3 h4 h5 h6 h7 hl
      cases hS : rSame v v with
      | true =>
       have hb9' := HB9.out
       have k0 : w9.cell? ⟨w.heap.size, 0, none⟩ = some (.int .i64 t.k) := hb9'.cell 0
       have k1 : w9.cell? ⟨w.heap.size, 1, none⟩ = some (.int .i64 t.n) := hb9'.cell 1
       have k2 : w9.cell? ⟨w.heap.size, 2, none⟩ = some (.string t.nm) := hb9'.cell 2
       have k3 : w9.cell? ⟨w.heap.size, 3, none⟩ = some (.int .i64 yp) := hb9'.cell 3
       have k4 : w9.cell? ⟨w.heap.size, 4, none⟩ = some (.int .i64 yq) := hb9'.cell 4
       have k5 : w9.cell? ⟨w.heap.size, 5, none⟩ = some (.slice yB ym yd) := hb9'.cell 5
       have k6 : w9.cell? ⟨w.heap.size, 6, none⟩ = some (.slice yE t.ls.length yx) := hb9'.cell 6
       have k7 : w9.cell? ⟨w.heap.size, 7, none⟩ = some (.slice yE' t.ks.length yx') := hb9'.cell 7
       have kl : w.heap.size < w9.heap.size := hb9'.lt
       clear hb9'
       by_cases hsp : left < F
       · have HSP := Lib.hid hsp
         go_wp2_with fail
         refine (whnf_top G _ ((F : Int) - (left : Int) - 1) t (There w9) w9 _ (There_in w9) (.inr ⟨eb, rfl, HE9.out⟩) HT9.out).mono ?_
         rintro e w20 ⟨n3, v3, err3, left3, v3cs, hw3, rfl, hvt3, hu20, hle3⟩
         have hqF : F - left - 1 < F - left := by have := HSP.out; omega
         have hwq : (wfuel ((F : Int) - (left : Int) - 1)).toNat = F - left - 1 := by have := HSP.out; unfold wfuel; omega
         rw [hwq] at hw3
         have he := wwhnf_one hw3 (HK2.out _ hqF)
         simp only [Prod.mk.injEq] at he
         obtain ⟨rfl, rfl, he3⟩ := he
         obtain rfl : left3 = 0 := he3
         have HO20 := Lib.hid hvt3.oneCell.2
         obtain ⟨rp, rq, rB, rm, rd, rE, rx, rE', rx', rfl⟩ := hvt3.lit8
         clear hvt3 hw3 hle3 hqF hwq
         go_wp2_with (first
          | ((with_reducible refine this_op (.store 28 (.tmp 20) (.tmp 115)) ?_); refine wpList_store_row rfl 28 (.tmp 20) (.tmp 115) rfl w20.heap.size _ rfl rfl 28 _ (Blk.new w20 _ _) tm_size rfl HO20.out ?_
             obtain ⟨W21, hW21⟩ : ∃ W, (w20.alloc (.cells #[.int .i64 0, .int .i64 0, .string ByteArray.empty, .int .i64 0, .int .i64 0, .slice none 0 0, .slice none 0 0, .slice none 0 0] 28)).setRow w20.heap.size #[.int .i64 tmz.k, .int .i64 tmz.n, .string tmz.nm, .int .i64 rp, .int .i64 rq, .slice rB rm rd, .slice rE tmz.ls.length rx, .slice rE' tmz.ks.length rx'] = W := ⟨_, rfl⟩
             have hu21 : Upd nob w20 W21 := by rw [← hW21]; exact ((Upd.refl nob w20).alloc _).setRow (.inr (Nat.le_refl _)) _
             have hbx : Blk W21 w20.heap.size 28 #[.int .i64 tmz.k, .int .i64 tmz.n, .string tmz.nm, .int .i64 rp, .int .i64 rq, .slice rB rm rd, .slice rE tmz.ls.length rx, .slice rE' tmz.ks.length rx'] := by rw [← hW21]; exact (Blk.new w20 _ _).row _
             rw [hW21]
             clear hW21
             clear hbx))
         refine (awake10_any W21).mono ?_
         rintro e w22 ⟨rfl, hb22⟩
         go_wp2_with fail
         go_ret
         exact ⟨rfl, (((hu09.trans hu20).trans hu21).trans (Upd.of_below hb22)).below⟩
       go_wp2_with fail
       refine (awake10_any w9).mono ?_
       rintro e w20 ⟨rfl, hb20⟩
       go_wp2_with fail
       go_ret
       exact ⟨rfl, (hu09.trans (Upd.of_below hb20)).below⟩
      | false =>
       have hx9 := HX9.out
       have x0 : w9.cell? ⟨w5.heap.size, 0, none⟩ = some (.int .i64 v.k) := hx9.cell 0
       have x1 : w9.cell? ⟨w5.heap.size, 1, none⟩ = some (.int .i64 v.n) := hx9.cell 1
       have x2 : w9.cell? ⟨w5.heap.size, 2, none⟩ = some (.string v.nm) := hx9.cell 2
       have x3 : w9.cell? ⟨w5.heap.size, 3, none⟩ = some (.int .i64 up) := hx9.cell 3
       have x4 : w9.cell? ⟨w5.heap.size, 4, none⟩ = some (.int .i64 uq) := hx9.cell 4
       have x5 : w9.cell? ⟨w5.heap.size, 5, none⟩ = some (.slice uB um ud) := hx9.cell 5
       have x6 : w9.cell? ⟨w5.heap.size, 6, none⟩ = some (.slice uE v.ls.length ux) := hx9.cell 6
       have x7 : w9.cell? ⟨w5.heap.size, 7, none⟩ = some (.slice uE' v.ks.length ux') := hx9.cell 7
       have xl : w5.heap.size < w9.heap.size := hx9.lt
       clear hx9
       go_wp2_with fail
       refine (rSame_any v v _ _ (There w9) w9 (There_in w9) HU9.out HU9.out).mono ?_
       rintro e w10 ⟨rfl, hb10⟩
       have hu10 : Upd nob w9 w10 := Upd.of_below hb10
       have hu010 : Upd nob w w10 := hu09.trans hu10
       rw [hS]
       have HB10 := Lib.hid (HB9.out.upd hu10 (fun f => f))
       have HT10 := Lib.hid (HT9.out.old ((There_in w9).old hu10) (there_up hu10))
       have HE10 := Lib.hid (HE9.out.old ((There_in w9).old hu10) (there_up hu10))
       clear x0 x1 x2 x3 x4 x5 x6 x7 xl
       have hb10' := HB10.out
       have k0 : w10.cell? ⟨w.heap.size, 0, none⟩ = some (.int .i64 t.k) := hb10'.cell 0
       have k1 : w10.cell? ⟨w.heap.size, 1, none⟩ = some (.int .i64 t.n) := hb10'.cell 1
       have k2 : w10.cell? ⟨w.heap.size, 2, none⟩ = some (.string t.nm) := hb10'.cell 2
       have k3 : w10.cell? ⟨w.heap.size, 3, none⟩ = some (.int .i64 yp) := hb10'.cell 3
       have k4 : w10.cell? ⟨w.heap.size, 4, none⟩ = some (.int .i64 yq) := hb10'.cell 4
       have k5 : w10.cell? ⟨w.heap.size, 5, none⟩ = some (.slice yB ym yd) := hb10'.cell 5
       have k6 : w10.cell? ⟨w.heap.size, 6, none⟩ = some (.slice yE t.ls.length yx) := hb10'.cell 6
       have k7 : w10.cell? ⟨w.heap.size, 7, none⟩ = some (.slice yE' t.ks.length yx') := hb10'.cell 7
       have kl : w.heap.size < w10.heap.size := hb10'.lt
       clear hb10'
       by_cases hsp : left < F
       · have HSP := Lib.hid hsp
         go_wp2_with fail
         refine (whnf_top G _ ((F : Int) - (left : Int) - 1) t (There w10) w10 _ (There_in w10) (.inr ⟨eb, rfl, HE10.out⟩) HT10.out).mono ?_
         rintro e w20 ⟨n3, v3, err3, left3, v3cs, hw3, rfl, hvt3, hu20, hle3⟩
         have hqF : F - left - 1 < F - left := by have := HSP.out; omega
         have hwq : (wfuel ((F : Int) - (left : Int) - 1)).toNat = F - left - 1 := by have := HSP.out; unfold wfuel; omega
         rw [hwq] at hw3
         have he := wwhnf_one hw3 (HK2.out _ hqF)
         simp only [Prod.mk.injEq] at he
         obtain ⟨rfl, rfl, he3⟩ := he
         obtain rfl : left3 = 0 := he3
         have HO20 := Lib.hid hvt3.oneCell.2
         obtain ⟨rp, rq, rB, rm, rd, rE, rx, rE', rx', rfl⟩ := hvt3.lit8
         clear hvt3 hw3 hle3 hqF hwq
         go_wp2_with (first
          | ((with_reducible refine this_op (.store 28 (.tmp 20) (.tmp 115)) ?_); refine wpList_store_row rfl 28 (.tmp 20) (.tmp 115) rfl w20.heap.size _ rfl rfl 28 _ (Blk.new w20 _ _) tm_size rfl HO20.out ?_
             obtain ⟨W21, hW21⟩ : ∃ W, (w20.alloc (.cells #[.int .i64 0, .int .i64 0, .string ByteArray.empty, .int .i64 0, .int .i64 0, .slice none 0 0, .slice none 0 0, .slice none 0 0] 28)).setRow w20.heap.size #[.int .i64 tmz.k, .int .i64 tmz.n, .string tmz.nm, .int .i64 rp, .int .i64 rq, .slice rB rm rd, .slice rE tmz.ls.length rx, .slice rE' tmz.ks.length rx'] = W := ⟨_, rfl⟩
             have hu21 : Upd nob w20 W21 := by rw [← hW21]; exact ((Upd.refl nob w20).alloc _).setRow (.inr (Nat.le_refl _)) _
             have hbx : Blk W21 w20.heap.size 28 #[.int .i64 tmz.k, .int .i64 tmz.n, .string tmz.nm, .int .i64 rp, .int .i64 rq, .slice rB rm rd, .slice rE tmz.ls.length rx, .slice rE' tmz.ks.length rx'] := by rw [← hW21]; exact (Blk.new w20 _ _).row _
             rw [hW21]
             clear hW21
             clear hbx))
         refine (awake10_any W21).mono ?_
         rintro e w22 ⟨rfl, hb22⟩
         go_wp2_with fail
         go_ret
         exact ⟨rfl, (((hu010.trans hu20).trans hu21).trans (Upd.of_below hb22)).below⟩
       go_wp2_with fail
       refine (awake10_any w10).mono ?_
       rintro e w20 ⟨rfl, hb20⟩
       go_wp2_with fail
       go_ret
       exact ⟨rfl, (hu010.trans (Upd.of_below hb20)).below⟩
    have e0' : decide (err = 0) = false := by simp [e0]
    go_wp2_with (first
     | ((with_reducible refine this_op (.store 28 (.tmp 10) (.tmp 46)) ?_); refine wpList_store_row rfl 28 (.tmp 10) (.tmp 46) rfl w5.heap.size _ rfl rfl 28 _ (Blk.new w5 _ _) tm_size rfl HO5.out ?_
        obtain ⟨W6, hW6⟩ : ∃ W, (w5.alloc (.cells #[.int .i64 0, .int .i64 0, .string ByteArray.empty, .int .i64 0, .int .i64 0, .slice none 0 0, .slice none 0 0, .slice none 0 0] 28)).setRow w5.heap.size #[.int .i64 u.k, .int .i64 u.n, .string u.nm, .int .i64 up, .int .i64 uq, .slice uB um ud, .slice uE u.ls.length ux, .slice uE' u.ks.length ux'] = W := ⟨_, rfl⟩
        have hu6 : Upd nob w5 W6 := by rw [← hW6]; exact ((Upd.refl nob w5).alloc _).setRow (.inr (Nat.le_refl _)) _
        have hbx : Blk W6 w5.heap.size 28 #[.int .i64 u.k, .int .i64 u.n, .string u.nm, .int .i64 up, .int .i64 uq, .slice uB um ud, .slice uE u.ls.length ux, .slice uE' u.ks.length ux'] := by rw [← hW6]; exact (Blk.new w5 _ _).row _
        rw [hW6]
        clear hW6
        have HX6 := Lib.hid hbx
        have HE6 := Lib.hid (HE5.out.old ((There_in w5).old hu6) (there_up hu6))
        have HT6 := Lib.hid (HT5.out.old ((There_in w5).old hu6) (there_up hu6))
        have HB6 := Lib.hid (HB5.out.upd hu6 (fun f => f))
        have HU6 := Lib.hid (HU5.out.old ((There_in w5).old hu6) (there_up hu6))
        have hb6 := HB6.out
        have k0 : W6.cell? ⟨w.heap.size, 0, none⟩ = some (.int .i64 t.k) := hb6.cell 0
        have k1 : W6.cell? ⟨w.heap.size, 1, none⟩ = some (.int .i64 t.n) := hb6.cell 1
        have k2 : W6.cell? ⟨w.heap.size, 2, none⟩ = some (.string t.nm) := hb6.cell 2
        have k3 : W6.cell? ⟨w.heap.size, 3, none⟩ = some (.int .i64 yp) := hb6.cell 3
        have k4 : W6.cell? ⟨w.heap.size, 4, none⟩ = some (.int .i64 yq) := hb6.cell 4
        have k5 : W6.cell? ⟨w.heap.size, 5, none⟩ = some (.slice yB ym yd) := hb6.cell 5
        have k6 : W6.cell? ⟨w.heap.size, 6, none⟩ = some (.slice yE t.ls.length yx) := hb6.cell 6
        have k7 : W6.cell? ⟨w.heap.size, 7, none⟩ = some (.slice yE' t.ks.length yx') := hb6.cell 7
        have kl : w.heap.size < W6.heap.size := hb6.lt
        clear hb6 hbx))
    refine (whnf_top G _ ((F + M : Nat) : Int) t (There W6) W6 _ (There_in W6) (.inr ⟨eb, rfl, HE6.out⟩) HT6.out).mono ?_
    rintro e w7 ⟨n2, v, err2, left2, vcs, hw2, rfl, hvt, hu7, hle2⟩
    rw [wfuel_nat (by omega)] at hw2
    have he := wwhnf_one hw2 HMO.out
    simp only [Prod.mk.injEq] at he
    obtain ⟨rfl, rfl, he3⟩ := he
    have HO7 := Lib.hid hvt.oneCell.2
    obtain ⟨vp, vq, vB, vm, vd, vE, vx, vE', vx', rfl⟩ := hvt.lit8
    clear hvt hw2 hle2 he3
    go_wp2_with (first
     | ((with_reducible refine this_op (.store 28 (.tmp 13) (.tmp 65)) ?_); refine wpList_store_row rfl 28 (.tmp 13) (.tmp 65) rfl w7.heap.size _ rfl rfl 28 _ (Blk.new w7 _ _) tm_size rfl HO7.out ?_
        obtain ⟨W8, hW8⟩ : ∃ W, (w7.alloc (.cells #[.int .i64 0, .int .i64 0, .string ByteArray.empty, .int .i64 0, .int .i64 0, .slice none 0 0, .slice none 0 0, .slice none 0 0] 28)).setRow w7.heap.size #[.int .i64 v.k, .int .i64 v.n, .string v.nm, .int .i64 vp, .int .i64 vq, .slice vB vm vd, .slice vE v.ls.length vx, .slice vE' v.ks.length vx'] = W := ⟨_, rfl⟩
        have hu8 : Upd nob w7 W8 := by rw [← hW8]; exact ((Upd.refl nob w7).alloc _).setRow (.inr (Nat.le_refl _)) _
        have hbx : Blk W8 w7.heap.size 28 #[.int .i64 v.k, .int .i64 v.n, .string v.nm, .int .i64 vp, .int .i64 vq, .slice vB vm vd, .slice vE v.ls.length vx, .slice vE' v.ks.length vx'] := by rw [← hW8]; exact (Blk.new w7 _ _).row _
        rw [hW8]
        clear hW8
        clear hbx))
    refine (awake10_any W8).mono ?_
    rintro e w9 ⟨rfl, hb9⟩
    go_wp2_with fail
    go_ret
    exact ⟨rfl, ((((hu05.trans hu6).trans hu7).trans hu8).trans (Upd.of_below hb9)).below⟩
  have t1 : decide (r = 0) = false := by simp [hr0]
  go_wp2_with fail
  refine (awake10_any w3).mono ?_
  rintro e w4 ⟨rfl, hb4⟩
  go_wp2_with fail
  go_ret
  exact ⟨rfl, (hu03.trans (Upd.of_below hb4)).below⟩
end Go.Proofs.YtiampoebdmflgaaGreat
/- The row's last step from 'Below', whatever the arguments read. -/
namespace Go.Proofs.YtiampoebdmflgaaGreat
open Go.ChangeShapes Go.WideShapes Go.ChangeAt Go.RowKit
set_option linter.unusedVariables false
variable {H : Type} {enc : TypeId × Value → H} {P : Program}
theorem all_stay (hl : laidOutB P = true) {W W' : World} {sp : Nat → Bool} : ∀ {ts : List TypeId} {vs : List Value} {ds : List (DataW H)} {ps : List MemPlace}, DataW.TrodAll enc P W 0 (fun _ => true) true ts vs ds ps →
    (∀ t ∈ ts, P.readableRec t = true ∧ t < P.types.size) → (∀ p ∈ ps, W.sameAt W' p) → (∀ p ∈ ps, sp p.block = true) → DataW.TrodAll enc P W' 0 sp true ts vs ds ps
 | [], _, _, _, h, _, _, _ => by
  obtain ⟨rfl, rfl, rfl⟩ := trodAll_nil h
  exact trodAll_mk0
 | t :: ts, _, _, _, h, hr, hs, hp => by
  obtain ⟨v, vs, d, ds, p, q, rfl, rfl, rfl, h1, h2⟩ := trodAll_cons h
  exact trodAll_cons_mk (WideElems.Trod_stays hl (hr t (by simp)).1 (hr t (by simp)).2 h1 (fun x hx => hs x (by simp [hx])) (fun x hx => hp x (by simp [hx])))
   (all_stay hl h2 (fun u hu => hr u (by simp [hu])) (fun x hx => hs x (by simp [hx])) (fun x hx => hp x (by simp [hx])))
theorem post_keep {f : Func} {s : ChangeSpec} {apart fresh handsOn again : Bool} {W W' : World} {args : Array Value} {v : Value} {ds : List (DataW H)} {before : List MemPlace}
    (hl : laidOutB P = true) (hW : DataW.Whole enc P f.params.toList s.vars apart W args.toList ds [] before)
    (hA : DataW.TrodAll enc P W 0 (fun _ => true) true f.params.toList args.toList ds before)
    (hr : ∀ t ∈ f.params.toList, P.readableRec t = true ∧ t < P.types.size)
    (hres : ∀ (b : Nat) (sp : Nat → Bool) (hd : Bool), DataW.TrodAll enc P W' b sp hd f.resultTypes.toList (v.resultList f.resultTypes.size) (s.fn H (ds ++ [])).results [])
    (hargs : (s.fn H (ds ++ [])).args = ds) (hvars : s.vars = []) (hvars2 : (s.fn H (ds ++ [])).vars = [])
    (hb : Below W.heap.size W W')
    (hok : ∀ (j : Nat) (t : TypeId) (r : Value), f.resultTypes[j]? = some t → (v.resultList f.resultTypes.size)[j]? = some r → Value.okWide P W' .any 0 t r) :
    s.post enc P f apart fresh handsOn again W args v W' := by
 have hold : ∀ p ∈ before, (fun b => decide (b < W.heap.size)) p.block = true := fun p hp => by simpa using hW.lt p hp
 have hsame : ∀ p ∈ before, W.sameAt W' p := fun p hp => hb.same (hW.lt p hp)
 have hargs' : ∀ sp : Nat → Bool, (∀ p ∈ before, sp p.block = true) → DataW.TrodAll enc P W' 0 sp true f.params.toList args.toList (s.fn H (ds ++ [])).args before := fun sp hsp => by
  rw [hargs]; exact all_stay hl hA hr hsame hsp
 have hv : ∀ sp : Nat → Bool, DataW.TrodVars enc P W' sp s.vars (s.fn H (ds ++ [])).vars [] := fun sp => by rw [hvars, hvars2]; rfl
 refine ⟨ds, [], before, [], before, [], hW, hres _ _ _, hargs' _ hold, hv _, hb.frame _, fun _ => ?_⟩
 have hlt : ∀ p ∈ before, p.block < W.heap.size := fun p hp => hW.lt p hp
 obtain ⟨p, q, hA1, hV1, hpq, hz, hn⟩ := hW
 refine ⟨hok, _, _, ([] ++ before) ++ [], ⟨[] ++ before, [], trodAll_append (hargs' _ (fun _ _ => rfl)) (hres _ _ _), hv _, rfl, ?_, ?_⟩, ?_⟩
 · intro b off hp
   have hm := hp
   simp only [List.nil_append, List.append_nil] at hm
   rw [World.frozen?_of_block (w := W) (hb.block b (hlt _ hm))]
   exact hz b off hm
 · intro ha
   simpa using hn ha
 intro p hp _
 simpa using hp
end Go.Proofs.YtiampoebdmflgaaGreat
/- What an argument reads as: levels, terms, constructors, and how great they are where the bulk is bounded. -/
namespace Go.Proofs.YtiampoebdmflgaaGreat
open Go.ChangeShapes Go.WideShapes Go.ChangeAt Go.RowKit Go.Joins Go.Deep
set_option linter.unusedVariables false
set_option linter.unusedVariables false
set_option maxRecDepth 100000
mutual
def Lv.wt : Lv → Nat
 | .mk _ _ ks => Lv.wts ks + 1
def Lv.wts : List Lv → Nat
 | [] => 0
 | l :: ls => l.wt + Lv.wts ls
end
mutual
def Tm.wt : Tm → Nat
 | .mk _ _ nm lv ls ks => nm.size + lv.wt + Lv.wts ls + Tm.wts ks + 1
def Tm.wts : List Tm → Nat
 | [] => 0
 | l :: ls => l.wt + Tm.wts ls
end
theorem Lv.wts_sum : ∀ l : List Lv, Lv.wts l = (l.map Lv.wt).sum
 | [] => rfl
 | x :: l => by simp only [Lv.wts, List.map_cons, List.sum_cons, Lv.wts_sum l]
theorem Tm.wts_sum : ∀ l : List Tm, Tm.wts l = (l.map Tm.wt).sum
 | [] => rfl
 | x :: l => by simp only [Tm.wts, List.map_cons, List.sum_cons, Tm.wts_sum l]
namespace bulks
theorem one_le {H : Type} (d : DataW H) : 1 ≤ Rows.uptoBulk d := by
 cases d with
 | lit l => cases l <;> simp [Rows.uptoBulk]
 | nil => simp [Rows.uptoBulk]
 | ptr d => simp [Rows.uptoBulk]
 | slice elems spare => simp [Rows.uptoBulk]
 | agg parts => simp [Rows.uptoBulk]
 | iface t d => simp [Rows.uptoBulk]
 | map entries => simp [Rows.uptoBulk]
 | held h => simp [Rows.uptoBulk]
end bulks
theorem list_of {α : Type} {P : Nat → α → Prop} : ∀ n : Nat, (∀ i, i < n → ∃ x, P i x) → ∃ l : List α, l.length = n ∧ ∀ i (h : i < l.length), P i l[i]
 | 0, _ => ⟨[], rfl, fun i h => absurd h (by simp)⟩
 | n + 1, h => by
  obtain ⟨l, hl, hp⟩ := list_of n (fun i hi => h i (by omega))
  obtain ⟨x, hx⟩ := h n (by omega)
  refine ⟨l ++ [x], by simp [hl], fun i hi => ?_⟩
  by_cases hin : i < l.length
  · rw [List.getElem_append_left hin]; exact hp i hin
  have : i = n := by simp at hi; omega
  subst this
  rw [List.getElem_append_right (by omega)]
  simp [hl]; exact hx
theorem bulk_sum {α H : Type} (f : α → Nat) : ∀ (l : List α) (ds : List (DataW H)), l.length = ds.length → (∀ i (h : i < l.length) (k : i < ds.length), f l[i] ≤ Rows.uptoBulk ds[i]) → (l.map f).sum ≤ Rows.uptoBulkAll ds
 | [], [], _, _ => by simp
 | [], _ :: _, h, _ => by cases h
 | _ :: _, [], h, _ => by cases h
 | x :: l, d :: ds, h, k => by
  have h1 := k 0 (by simp) (by simp)
  have h2 := bulk_sum f l ds (by simpa using h) (fun i h k' => by have := k (i + 1) (by simpa using h) (by simpa using k'); simpa using this)
  simp only [List.map_cons, List.sum_cons, Rows.uptoBulkAll]
  simp only [List.getElem_cons_zero] at h1
  omega
theorem bulk_mem {H : Type} : ∀ {ds : List (DataW H)} {i : Nat} {d : DataW H}, ds[i]? = some d → Rows.uptoBulk d ≤ Rows.uptoBulkAll ds
 | [], i, d, h => by simp at h
 | x :: ds, 0, d, h => by
  simp only [List.getElem?_cons_zero, Option.some.injEq] at h
  subst h; simp only [Rows.uptoBulkAll]; omega
 | x :: ds, i + 1, d, h => by
  have := bulk_mem (ds := ds) (i := i) (d := d) (by simpa using h)
  simp only [Rows.uptoBulkAll]; omega
section
variable {H : Type} {enc : TypeId × Value → H} {w : World} {sp : Nat → Bool} {held : Bool}
theorem open_row {α : Type} {R : α → Array Value → Prop} {f : α → Nat} {t e : TypeId} {k fuel : Nat} {c : Value} {d : DataW H} {ps : List MemPlace} (ht : Tryz.prog.underlying t = some (.slice e)) (hc : Tryz.prog.cellsOf e = k) (hk : 0 < k)
    (hel : ∀ n cs d ps, n < fuel → DataW.trod enc Tryz.prog w 0 sp held n e cs = some (d, ps) → Rows.uptoBulk d ≤ 1048576 → ∃ x, R x cs.toArray ∧ f x ≤ Rows.uptoBulk d)
    (h : DataW.trod enc Tryz.prog w 0 sp held fuel t [c] = some (d, ps)) (hb : Rows.uptoBulk d ≤ 1048576) :
    ∃ A cap, ∃ l : List α, c = .slice A l.length cap ∧ l.length ≤ cap ∧ l.length ≤ 1048576 ∧ (∀ j x, l[j]? = some x → ∃ a cs, A = some a ∧ There w a.block ∧ rowAt w (a.add (j * k)) cs ∧ R x cs) ∧ (l.map f).sum + 1 ≤ Rows.uptoBulk d ∧ (∀ x, x ∈ l → f x ≤ Rows.uptoBulk d) := by
 rcases DataW.trod_slice ht h with ⟨h1, h2⟩ | ⟨a, len, cap, elems, rest, n, hn, hcs, hx, _, hl, hm, hlen, hall, _⟩
 · simp only [List.cons.injEq, and_true] at h1
   simp only [Prod.mk.injEq] at h2
   obtain ⟨rfl, rfl⟩ := h2
   exact ⟨none, 0, [], h1, by simp, by simp, fun j x hj => by simp at hj, by simp [Rows.uptoBulk], fun x hx => by cases hx⟩
 simp only [List.cons.injEq, and_true] at hcs
 simp only [Prod.mk.injEq] at hx
 obtain ⟨rfl, _⟩ := hx
 subst hlen
 simp only [Rows.uptoBulk] at hb ⊢
 obtain ⟨l, hll, hlp⟩ := list_of (P := fun i (x : α) => (∃ cs, There w a.block ∧ rowAt w (a.add (i * k)) cs ∧ R x cs) ∧ ∀ (h : i < (elems.map (·.1)).length), f x ≤ Rows.uptoBulk (elems.map (·.1))[i]) elems.length (fun i hi => by
  have h1 := hall i hi
  rw [List.getElem?_eq_getElem hi] at h1
  obtain ⟨cs, h2, h3⟩ := Option.bind_eq_some_iff.1 h1
  rw [hc] at h2
  obtain ⟨_, h4, h5⟩ := World.cells?_some h2
  have h6 : (elems.map (·.1))[i]? = some elems[i].1 := by rw [List.getElem?_map, List.getElem?_eq_getElem hi]; rfl
  obtain ⟨x, h7, h8⟩ := hel n cs elems[i].1 elems[i].2 (by omega) h3 (by have := bulk_mem h6; omega)
  refine ⟨x, ⟨cs.toArray, ?_, fun j v hv => ?_, h7⟩, fun hh => ?_⟩
  · have h9 := h5 0 hk
    rw [List.getElem?_eq_getElem (by omega)] at h9
    have := cell_there h9
    rwa [Addr_add_block, Addr_add_block] at this
  · have hj : j < cs.length := by have := (Array.getElem?_eq_some_iff.1 hv).1; simpa using this
    rw [h5 j (by omega), ← hv]; simp
  simpa using h8)
 have hs := bulk_sum f l (elems.map (·.1)) (by simp [hll]) (fun i h k => (hlp i h).2 k)
 refine ⟨some a, cap, l, by rw [hll]; exact hcs, by rw [hll]; exact hl, ?_, fun j x hj => ?_, by omega, fun x hx => ?_⟩
 · have : elems.length ≤ Rows.uptoBulkAll (elems.map (·.1)) := by
     have := bulk_sum (fun _ : DataW H × List MemPlace => 1) elems (elems.map (·.1)) (by simp) (fun i h k => bulks.one_le _)
     have e : ∀ l : List (DataW H × List MemPlace), (l.map fun _ => 1).sum = l.length := by intro l; induction l with | nil => rfl | cons x l ih => simp only [List.map_cons, List.sum_cons, ih, List.length_cons]; omega
     rwa [e] at this
   omega
 · obtain ⟨hj1, rfl⟩ := List.getElem?_eq_some_iff.1 hj
   obtain ⟨cs, h1, h2, h3⟩ := (hlp j hj1).1
   exact ⟨a, cs, rfl, h1, h2, h3⟩
 obtain ⟨i, hi, rfl⟩ := List.getElem_of_mem hx
 have h1 := (hlp i hi).2 (by simp; omega)
 have h2 := List.getElem?_eq_getElem (l := elems.map (·.1)) (i := i) (by simp; omega)
 have := bulk_mem h2
 omega
theorem trods3 {P : Program} {t : TypeId} {f0 f1 f2 : Field} {fuel : Nat} {cs : List Value} {x : DataW H × List MemPlace} (ht : P.underlying t = some (.struct #[f0, f1, f2])) (h : DataW.trod enc P w 0 sp held fuel t cs = some x) :
    ∃ y0 y1 y2 n, fuel = n + 1 ∧ x.1 = .agg [y0.1, y1.1, y2.1] ∧ cs.length = P.cellsOf t ∧ DataW.trod enc P w 0 sp held n f0.type ((cs.drop f0.offset).take (P.cellsOf f0.type)) = some y0 ∧ DataW.trod enc P w 0 sp held n f1.type ((cs.drop f1.offset).take (P.cellsOf f1.type)) = some y1 ∧ DataW.trod enc P w 0 sp held n f2.type ((cs.drop f2.offset).take (P.cellsOf f2.type)) = some y2 := by
 obtain ⟨xs, n, hn, rfl, hl, hlen, hf⟩ := DataW.trod_struct ht h
 match xs, hlen with
 | [y0, y1, y2], _ => exact ⟨y0, y1, y2, n, hn, by simp, hl, by simpa using hf 0 f0 rfl, by simpa using hf 1 f1 rfl, by simpa using hf 2 f2 rfl⟩
theorem trods6 {P : Program} {t : TypeId} {f0 f1 f2 f3 f4 f5 : Field} {fuel : Nat} {cs : List Value} {x : DataW H × List MemPlace} (ht : P.underlying t = some (.struct #[f0, f1, f2, f3, f4, f5])) (h : DataW.trod enc P w 0 sp held fuel t cs = some x) :
    ∃ y0 y1 y2 y3 y4 y5 n, fuel = n + 1 ∧ x.1 = .agg [y0.1, y1.1, y2.1, y3.1, y4.1, y5.1] ∧ cs.length = P.cellsOf t ∧ DataW.trod enc P w 0 sp held n f0.type ((cs.drop f0.offset).take (P.cellsOf f0.type)) = some y0 ∧ DataW.trod enc P w 0 sp held n f1.type ((cs.drop f1.offset).take (P.cellsOf f1.type)) = some y1 ∧ DataW.trod enc P w 0 sp held n f2.type ((cs.drop f2.offset).take (P.cellsOf f2.type)) = some y2 ∧ DataW.trod enc P w 0 sp held n f3.type ((cs.drop f3.offset).take (P.cellsOf f3.type)) = some y3 ∧ DataW.trod enc P w 0 sp held n f4.type ((cs.drop f4.offset).take (P.cellsOf f4.type)) = some y4 ∧ DataW.trod enc P w 0 sp held n f5.type ((cs.drop f5.offset).take (P.cellsOf f5.type)) = some y5 := by
 obtain ⟨xs, n, hn, rfl, hl, hlen, hf⟩ := DataW.trod_struct ht h
 match xs, hlen with
 | [y0, y1, y2, y3, y4, y5], _ => exact ⟨y0, y1, y2, y3, y4, y5, n, hn, by simp, hl, by simpa using hf 0 f0 rfl, by simpa using hf 1 f1 rfl, by simpa using hf 2 f2 rfl, by simpa using hf 3 f3 rfl, by simpa using hf 4 f4 rfl, by simpa using hf 5 f5 rfl⟩
theorem trods12 {P : Program} {t : TypeId} {f0 f1 f2 f3 f4 f5 f6 f7 f8 f9 f10 f11 : Field} {fuel : Nat} {cs : List Value} {x : DataW H × List MemPlace} (ht : P.underlying t = some (.struct #[f0, f1, f2, f3, f4, f5, f6, f7, f8, f9, f10, f11])) (h : DataW.trod enc P w 0 sp held fuel t cs = some x) :
    ∃ y0 y1 y2 y3 y4 y5 y6 y7 y8 y9 y10 y11 n, fuel = n + 1 ∧ x.1 = .agg [y0.1, y1.1, y2.1, y3.1, y4.1, y5.1, y6.1, y7.1, y8.1, y9.1, y10.1, y11.1] ∧ cs.length = P.cellsOf t ∧ DataW.trod enc P w 0 sp held n f0.type ((cs.drop f0.offset).take (P.cellsOf f0.type)) = some y0 ∧ DataW.trod enc P w 0 sp held n f1.type ((cs.drop f1.offset).take (P.cellsOf f1.type)) = some y1 ∧ DataW.trod enc P w 0 sp held n f2.type ((cs.drop f2.offset).take (P.cellsOf f2.type)) = some y2 ∧ DataW.trod enc P w 0 sp held n f3.type ((cs.drop f3.offset).take (P.cellsOf f3.type)) = some y3 ∧ DataW.trod enc P w 0 sp held n f4.type ((cs.drop f4.offset).take (P.cellsOf f4.type)) = some y4 ∧ DataW.trod enc P w 0 sp held n f5.type ((cs.drop f5.offset).take (P.cellsOf f5.type)) = some y5 ∧ DataW.trod enc P w 0 sp held n f6.type ((cs.drop f6.offset).take (P.cellsOf f6.type)) = some y6 ∧ DataW.trod enc P w 0 sp held n f7.type ((cs.drop f7.offset).take (P.cellsOf f7.type)) = some y7 ∧ DataW.trod enc P w 0 sp held n f8.type ((cs.drop f8.offset).take (P.cellsOf f8.type)) = some y8 ∧ DataW.trod enc P w 0 sp held n f9.type ((cs.drop f9.offset).take (P.cellsOf f9.type)) = some y9 ∧ DataW.trod enc P w 0 sp held n f10.type ((cs.drop f10.offset).take (P.cellsOf f10.type)) = some y10 ∧ DataW.trod enc P w 0 sp held n f11.type ((cs.drop f11.offset).take (P.cellsOf f11.type)) = some y11 := by
 obtain ⟨xs, n, hn, rfl, hl, hlen, hf⟩ := DataW.trod_struct ht h
 match xs, hlen with
 | [y0, y1, y2, y3, y4, y5, y6, y7, y8, y9, y10, y11], _ => exact ⟨y0, y1, y2, y3, y4, y5, y6, y7, y8, y9, y10, y11, n, hn, by simp, hl, by simpa using hf 0 f0 rfl, by simpa using hf 1 f1 rfl, by simpa using hf 2 f2 rfl, by simpa using hf 3 f3 rfl, by simpa using hf 4 f4 rfl, by simpa using hf 5 f5 rfl, by simpa using hf 6 f6 rfl, by simpa using hf 7 f7 rfl, by simpa using hf 8 f8 rfl, by simpa using hf 9 f9 rfl, by simpa using hf 10 f10 rfl, by simpa using hf 11 f11 rfl⟩
theorem cells_lv : Tryz.prog.cellsOf 25 = 3 := by kernel_rfl
theorem cells_tm : Tryz.prog.cellsOf 28 = 8 := by kernel_rfl
theorem cells_int : Tryz.prog.cellsOf 3 = 1 := by kernel_rfl
theorem cells_str : Tryz.prog.cellsOf 9 = 1 := by kernel_rfl
theorem cells_lvs : Tryz.prog.cellsOf 23 = 1 := by kernel_rfl
theorem cells_tms : Tryz.prog.cellsOf 26 = 1 := by kernel_rfl
theorem list3 {α : Type} {l : List α} (h : l.length = 3) : ∃ a b c, l = [a, b, c] := by
 match l, h with
 | [a, b, c], _ => exact ⟨a, b, c, rfl⟩
theorem list8 {α : Type} {l : List α} (h : l.length = 8) : ∃ a b c d e f g i, l = [a, b, c, d, e, f, g, i] := by
 match l, h with
 | [a, b, c, d, e, f, g, i], _ => exact ⟨a, b, c, d, e, f, g, i, rfl⟩
theorem int_in {z : Int} (h : (Lit.int .i64 z).wf = true) : InI z := by
 simp [Lit.wf, IntKind.min, IntKind.max, IntKind.signed, IntKind.bits] at h
 exact h
theorem open_lv : ∀ (fuel : Nat) (cs : List Value) (d : DataW H) (ps : List MemPlace), DataW.trod enc Tryz.prog w 0 sp held fuel 25 cs = some (d, ps) → Rows.uptoBulk d ≤ 1048576 →
    ∃ l, LvIs (There w) w l cs.toArray ∧ l.wt ≤ Rows.uptoBulk d := by
 intro fuel
 induction fuel using Nat.strongRecOn with
 | ind fuel ih =>
  intro cs d ps h hb
  obtain ⟨y0, y1, y2, n, rfl, hx, hl, g0, g1, g2⟩ := trods3 Tryz.underlying25 h
  rw [cells_lv] at hl
  obtain ⟨c0, c1, c2, rfl⟩ := list3 hl
  subst hx
  simp only [cells_int, cells_lvs, List.drop_zero, List.drop_succ_cons, List.take_succ_cons, List.take_zero] at g0 g1 g2
  obtain ⟨z0, q0, _, v0⟩ := DataW.trod_int Tryz.underlying3 g0
  obtain ⟨z1, q1, _, v1⟩ := DataW.trod_int Tryz.underlying3 g1
  simp only [List.cons.injEq, and_true] at q0 q1
  subst q0 q1
  simp only [Rows.uptoBulk, Rows.uptoBulkAll] at hb ⊢
  obtain ⟨A, cap, l, rfl, e1, e2, e3, e4, _⟩ := open_row (R := fun l cs => LvIs (There w) w l cs) (f := Lv.wt) Tryz.underlying23 cells_lv (by decide) (fun m cs d ps hm h hb => ih m (by omega) cs d ps h hb) g2 (by omega)
  refine ⟨.mk z0 z1 l, ?_, ?_⟩
  · simp only [LvIs]
    refine ⟨A, cap, rfl, int_in v0, int_in v1, ⟨by omega, e1⟩, LvsAt.mk fun j x hj => ?_⟩
    obtain ⟨a, cs, h1, h2, h3, h4⟩ := e3 j x hj
    exact ⟨a, cs, h1, h2, by rw [Nat.zero_add]; exact h3, h4⟩
  simp only [Lv.wt, Lv.wts_sum]; omega
theorem open_tm : ∀ (fuel : Nat) (cs : List Value) (d : DataW H) (ps : List MemPlace), DataW.trod enc Tryz.prog w 0 sp held fuel 28 cs = some (d, ps) → Rows.uptoBulk d ≤ 1048576 →
    ∃ t, TmIs (There w) w t cs.toArray ∧ t.wt ≤ Rows.uptoBulk d := by
 intro fuel
 induction fuel using Nat.strongRecOn with
 | ind fuel ih =>
  intro cs d ps h hb
  obtain ⟨y0, y1, y2, y3, y4, y5, n, rfl, hx, hl, g0, g1, g2, g3, g4, g5⟩ := trods6 Tryz.underlying28 h
  rw [cells_tm] at hl
  obtain ⟨c0, c1, c2, c3, c4, c5, c6, c7, rfl⟩ := list8 hl
  subst hx
  simp only [cells_int, cells_str, cells_lv, cells_lvs, cells_tms, List.drop_zero, List.drop_succ_cons, List.take_succ_cons, List.take_zero] at g0 g1 g2 g3 g4 g5
  obtain ⟨z0, q0, _, v0⟩ := DataW.trod_int Tryz.underlying3 g0
  obtain ⟨z1, q1, _, v1⟩ := DataW.trod_int Tryz.underlying3 g1
  obtain ⟨s, q2, x2, v2⟩ := DataW.trod_string Tryz.underlying9 g2
  simp only [List.cons.injEq, and_true] at q0 q1 q2
  subst q0 q1 q2
  subst x2
  simp only [Rows.uptoBulk, Rows.uptoBulkAll] at hb ⊢
  have es : s.data.toList.length = s.size := by rw [Array.length_toList]; rfl
  rw [es] at hb ⊢
  obtain ⟨lv, hlv, wlv⟩ := open_lv n _ _ _ g3 (by omega)
  obtain ⟨A, cap, l, rfl, e1, e2, e3, e4, _⟩ := open_row (R := fun l cs => LvIs (There w) w l cs) (f := Lv.wt) Tryz.underlying23 cells_lv (by decide) (fun m cs d ps hm h hb => open_lv m cs d ps h hb) g4 (by omega)
  obtain ⟨A', cap', l', rfl, e1', e2', e3', e4', _⟩ := open_row (R := fun l cs => TmIs (There w) w l cs) (f := Tm.wt) Tryz.underlying26 cells_tm (by decide) (fun m cs d ps hm h hb => ih m (by omega) cs d ps h hb) g5 (by omega)
  refine ⟨.mk z0 z1 s lv l l', ?_, ?_⟩
  · simp only [TmIs]
    refine ⟨c3, c4, c5, A, cap, A', cap', rfl, int_in v0, int_in v1, by simp only [maxLen] at v2; omega, hlv, ⟨by omega, e1⟩, LvsAt.mk fun j x hj => ?_, ⟨by omega, e1'⟩, TmsAt.mk fun j x hj => ?_⟩
    · obtain ⟨a, cs, h1, h2, h3, h4⟩ := e3 j x hj
      exact ⟨a, cs, h1, h2, by rw [Nat.zero_add]; exact h3, h4⟩
    obtain ⟨a, cs, h1, h2, h3, h4⟩ := e3' j x hj
    exact ⟨a, cs, h1, h2, by rw [Nat.zero_add]; exact h3, h4⟩
  simp only [Tm.wt, Lv.wts_sum, Tm.wts_sum]; omega
end
end Go.Proofs.YtiampoebdmflgaaGreat
/- Arguments opened: a term. -/
namespace Go.Proofs.YtiampoebdmflgaaGreat
open Go.ChangeShapes Go.WideShapes Go.ChangeAt Go.RowKit
set_option linter.unusedVariables false
set_option maxRecDepth 100000
set_option linter.unusedSimpArgs false
section
variable {H : Type} {enc : TypeId × Value → H} {w : World} {sp : Nat → Bool} {held : Bool}
theorem open_tmV {r : Reach} {b0 : Nat} {v : Value} {d : DataW H} {ps : List MemPlace} (hval : Value.okWide Tryz.prog w r b0 28 v) (hd : DataW.Trod enc Tryz.prog w 0 sp held 28 v d ps) (hb : Rows.uptoBulk d ≤ 1048576) :
    ∃ (t : Tm) (cs : Array Value), v = .agg cs ∧ TmIs (There w) w t cs ∧ t.wt ≤ Rows.uptoBulk d := by
 obtain ⟨cs, rfl, hsz⟩ := okWide_struct Tryz.underlying28 hval
 obtain ⟨fuel, hf⟩ := hd
 obtain ⟨t, h1, h2⟩ := open_tm fuel _ _ _ hf hb
 exact ⟨t, cs, rfl, by simpa [Value.cells] using h1, h2⟩
end
end Go.Proofs.YtiampoebdmflgaaGreat
/- Arguments opened: globals. -/
namespace Go.Proofs.YtiampoebdmflgaaGreat
open Go.ChangeShapes Go.WideShapes Go.ChangeAt Go.RowKit
set_option linter.unusedVariables false
set_option maxRecDepth 100000
set_option linter.unusedSimpArgs false
theorem cells_ru : Tryz.prog.cellsOf 132 = 10 := by kernel_rfl
theorem cells_gl : Tryz.prog.cellsOf 50 = 26 := by kernel_rfl
theorem cells_strs : Tryz.prog.cellsOf 47 = 1 := by kernel_rfl
theorem cells_rus : Tryz.prog.cellsOf 48 = 1 := by kernel_rfl
theorem list10 {α : Type} {l : List α} (h : l.length = 10) : ∃ a b c0 c1 c2 c3 c4 c5 c6 c7, l = [a, b, c0, c1, c2, c3, c4, c5, c6, c7] := by
 match l, h with
 | [a, b, c0, c1, c2, c3, c4, c5, c6, c7], _ => exact ⟨_, _, _, _, _, _, _, _, _, _, rfl⟩
theorem list26 {α : Type} {l : List α} (h : l.length = 26) : ∃ k nm vs a0 a1 a2 a3 a4 a5 a6 a7 b0 b1 b2 b3 b4 b5 b6 b7 ind pa ix fs cts mi rus, l = [k, nm, vs, a0, a1, a2, a3, a4, a5, a6, a7, b0, b1, b2, b3, b4, b5, b6, b7, ind, pa, ix, fs, cts, mi, rus] := by
 match l, h with
 | [k, nm, vs, a0, a1, a2, a3, a4, a5, a6, a7, b0, b1, b2, b3, b4, b5, b6, b7, ind, pa, ix, fs, cts, mi, rus], _ => exact ⟨_, _, _, _, _, _, _, _, _, _, _, _, _, _, _, _, _, _, _, _, _, _, _, _, _, _, rfl⟩
section
variable {H : Type} {enc : TypeId × Value → H} {w : World} {sp : Nat → Bool} {held : Bool}
theorem open_str1 (n : Nat) (cs : List Value) (d : DataW H) (ps : List MemPlace) (h : DataW.trod enc Tryz.prog w 0 sp held n 9 cs = some (d, ps)) (_hb : Rows.uptoBulk d ≤ 1048576) :
    ∃ x : ByteArray, strR.is (There w) w x cs.toArray ∧ (fun _ : ByteArray => 0) x ≤ Rows.uptoBulk d := by
 obtain ⟨s, q2, x2, v2⟩ := DataW.trod_string Tryz.underlying9 h
 subst q2
 exact ⟨s, rfl, Nat.zero_le _⟩
theorem open_ru (n : Nat) (cs : List Value) (d : DataW H) (ps : List MemPlace) (h : DataW.trod enc Tryz.prog w 0 sp held n 132 cs = some (d, ps)) (hb : Rows.uptoBulk d ≤ 1048576) :
    ∃ x : Rul, RuIs (There w) w x cs.toArray ∧ (fun _ : Rul => 0) x ≤ Rows.uptoBulk d := by
 obtain ⟨y0, y1, y2, n, rfl, hx, hl, g0, g1, g2⟩ := trods3 Tryz.underlying132 h
 rw [cells_ru] at hl
 obtain ⟨a, b, c0, c1, c2, c3, c4, c5, c6, c7, rfl⟩ := list10 hl
 simp only at hx
 subst hx
 simp only [cells_str, cells_int, cells_tm, List.drop_zero, List.drop_succ_cons, List.take_succ_cons, List.take_zero] at g0 g1 g2
 obtain ⟨s, q0, x0, v0⟩ := DataW.trod_string Tryz.underlying9 g0
 obtain ⟨z, q1, _, v1⟩ := DataW.trod_int Tryz.underlying3 g1
 simp only [List.cons.injEq, and_true] at q0 q1
 subst q0 q1
 subst x0
 simp only [Rows.uptoBulk, Rows.uptoBulkAll] at hb ⊢
 have es : s.data.toList.length = s.size := by rw [Array.length_toList]; rfl
 rw [es] at hb
 obtain ⟨t, ht, wt⟩ := open_tm n _ _ _ g2 (by omega)
 exact ⟨⟨s, z, t⟩, ⟨_, rfl, int_in v1, by show s.size ≤ _; omega, ht⟩, Nat.zero_le _⟩
theorem open_gl (n : Nat) (cs : List Value) (d : DataW H) (ps : List MemPlace) (h : DataW.trod enc Tryz.prog w 0 sp held n 50 cs = some (d, ps)) (hb : Rows.uptoBulk d ≤ 1048576) :
    ∃ x : Glb, GlIs (There w) w x cs.toArray ∧ (fun _ : Glb => 0) x ≤ Rows.uptoBulk d := by
 obtain ⟨y0, y1, y2, y3, y4, y5, y6, y7, y8, y9, y10, y11, n, rfl, hx, hl, g0, g1, g2, g3, g4, g5, g6, g7, g8, g9, g10, g11⟩ := trods12 Tryz.underlying50 h
 rw [cells_gl] at hl
 obtain ⟨c0, c1, c2, c3, c4, c5, c6, c7, c8, c9, c10, c11, c12, c13, c14, c15, c16, c17, c18, c19, c20, c21, c22, c23, c24, c25, rfl⟩ := list26 hl
 simp only at hx
 subst hx
 simp only [cells_str, cells_int, cells_tm, cells_strs, cells_rus, List.drop_zero, List.drop_succ_cons, List.take_succ_cons, List.take_zero] at g0 g1 g2 g3 g4 g5 g6 g7 g8 g9 g10 g11
 obtain ⟨z0, q0, _, v0⟩ := DataW.trod_int Tryz.underlying3 g0
 obtain ⟨s1, q1, x1, v1⟩ := DataW.trod_string Tryz.underlying9 g1
 obtain ⟨z2, q2, _, v2⟩ := DataW.trod_int Tryz.underlying3 g2
 obtain ⟨s5, q5, x5, v5⟩ := DataW.trod_string Tryz.underlying9 g5
 obtain ⟨z6, q6, _, v6⟩ := DataW.trod_int Tryz.underlying3 g6
 obtain ⟨z7, q7, _, v7⟩ := DataW.trod_int Tryz.underlying3 g7
 obtain ⟨z8, q8, _, v8⟩ := DataW.trod_int Tryz.underlying3 g8
 obtain ⟨z10, q10, _, v10⟩ := DataW.trod_int Tryz.underlying3 g10
 simp only [List.cons.injEq, and_true] at q0 q1 q2 q5 q6 q7 q8 q10
 subst q0 q1 q2 q5 q6 q7 q8 q10
 subst x1 x5
 simp only [Rows.uptoBulk, Rows.uptoBulkAll] at hb ⊢
 have es : ∀ s : ByteArray, s.data.toList.length = s.size := fun s => by rw [Array.length_toList]; rfl
 rw [es, es] at hb
 obtain ⟨ty, hty, _⟩ := open_tm n _ _ _ g3 (by omega)
 obtain ⟨vl, hvl, _⟩ := open_tm n _ _ _ g4 (by omega)
 obtain ⟨A, cap, l, rfl, e1, e2, e3, _, _⟩ := open_row (R := fun (x : ByteArray) cs => strR.is (There w) w x cs) (f := fun _ => 0) Tryz.underlying47 cells_str (by decide) (fun m cs d ps _ h hb => open_str1 m cs d ps h hb) g9 (by omega)
 obtain ⟨A', cap', l', rfl, e1', e2', e3', _, _⟩ := open_row (R := fun (x : Rul) cs => RuIs (There w) w x cs) (f := fun _ => 0) Tryz.underlying48 cells_ru (by decide) (fun m cs d ps _ h hb => open_ru m cs d ps h hb) g11 (by omega)
 exact ⟨⟨z0, s1, z2, ty, vl, s5, z6, z7, z8, l, z10, l'⟩, ⟨_, _, _, _, _, _, _, _, _, _, _, _, _, _, _, _, A, cap, A', cap', rfl, ⟨int_in v0, int_in v2, int_in v6, int_in v7, int_in v8, int_in v10⟩, ⟨by show s1.size ≤ _; omega, by show s5.size ≤ _; omega⟩, hty, hvl, strs_rat.2 e3, ⟨by show l.length * 16 ≤ _; omega, e1⟩, e3', ⟨by show l'.length * 144 ≤ _; omega, e1'⟩⟩, Nat.zero_le _⟩
theorem open_globals {r : Reach} {b0 : Nat} {v : Value} {d : DataW H} {ps : List MemPlace} (_hval : Value.okWide Tryz.prog w r b0 22 v) (hd : DataW.Trod enc Tryz.prog w 0 sp held 22 v d ps) (hb : Rows.uptoBulk d ≤ 1048576) :
    ∃ (l : List Glb) (A : Option Addr) (c : Nat), v = .slice A l.length c ∧ RAt glR (There w) w l A ∧ l.length ≤ c ∧ l.length ≤ 1048576 := by
 obtain ⟨a, n, c, rfl⟩ := okWide_slice Tryz.underlying22 _hval
 obtain ⟨fuel, hf⟩ := hd
 obtain ⟨A, cap, l, h1, e1, e2, e3, _, _⟩ := open_row (c := .slice a n c) (R := fun (x : Glb) cs => GlIs (There w) w x cs) (f := fun _ => 0) Tryz.underlying22 cells_gl (by decide) (fun m cs d ps _ h hb => open_gl m cs d ps h hb) hf hb
 exact ⟨l, A, cap, h1, e3, e1, e2⟩
end
end Go.Proofs.YtiampoebdmflgaaGreat
