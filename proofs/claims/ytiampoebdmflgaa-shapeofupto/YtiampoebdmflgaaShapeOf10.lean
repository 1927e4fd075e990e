/- Texts put one behind the other: Tlaw, Slaw, Olaw, Dlaw, Awk0, Awk, Open, Opend, Small, Shapeof, Post. -/
import Derived.Test.YtiampoebdmflgaaShapeOf9
import Derived.Test.YtiampoebdmflgaaShapeOf6
import Derived.Test.YtiampoebdmflgaaShapeOf4
import Derived.Test.YtiampoebdmflgaaShapeOf7
import Derived.Test.YtiampoebdmflgaaShapeOf3
import Derived.Test.YtiampoebdmflgaaShapeOf8
import Derived.Test.YtiampoebdmflgaaShapeOf5
import Derived.Test.YtiampoebdmflgaaRows
import Derived.Test.YtiampoebdmflgaaShapeOf2
import Derived.WalkKit
import Derived.ProofKit
import Derived.OpenShut
import Derived.JoinedCond
import Derived.Lib.SmallJoins
import Derived.Deep.Slices
import Derived.Test.YtiampoebdmflgaaProg
import Derived.Carry

/- Plain law: the program's terms and the reference's: great. -/
namespace Go.Proofs.Ytiampoebdmflgaa
open Go.RowKit
set_option linter.unusedVariables false
set_option maxHeartbeats 1000000
set_option maxRecDepth 100000
theorem rcnts_c : ∀ (i : Nat) (l : List Tm) (d c : Nat), (rcnts i l d c).1 = true → c ≤ 20000 ∧ (rcnts i l d c).2 ≤ 20000
 | 0, _, _, c, h => by rw [rcnts] at h ⊢; have : c ≤ 20000 := by simpa using h
                       exact ⟨this, this⟩
 | _ + 1, [], _, c, h => by rw [rcnts] at h ⊢; have : c ≤ 20000 := by simpa using h
                            exact ⟨this, this⟩
 | i + 1, t :: l, d, c, h => by
  rw [rcnts] at h ⊢
  by_cases h1 : 20000 < c
  · rw [if_pos h1] at h; cases h
  · rw [if_neg h1] at h ⊢
    by_cases h2 : (rcnt t (d + 1) c).1 = true
    · rw [if_pos h2] at h ⊢
      exact ⟨by omega, (rcnts_c i l d _ h).2⟩
    · rw [if_neg h2] at h; cases h
theorem nk_leaf {k : Int} {m : Nat} (h : rlf k m = true) : nk k m = 0 := by
 unfold rlf at h
 unfold nk
 have hb := tar_le k
 by_cases h1 : (m : Int) < tar k
 · rw [if_pos h1]
 · rw [if_neg h1]
   have : tar k < 0 := by simpa [h1] using h
   omega
theorem nk_node {k : Int} {m : Nat} (h : rlf k m = false) : nk k m = (tar k).toNat := by
 unfold rlf at h
 unfold nk
 rw [if_neg]
 simp at h
 omega
theorem wrap20 {c : Nat} (h : c ≤ 20001) : wrap64 ((c : Int) + 1) = ((c + 1 : Nat) : Int) := by unfold wrap64; omega
mutual
theorem cnt_same : ∀ (t : Tm) (d c : Nat) (b e : Int), c ≤ 20000 →
    ((tfold mStep t d b ((c : Int), e)).1 = true → (rcnt t d c).1 = true ∧ (tfold mStep t d b ((c : Int), e)).2.1 = ((rcnt t d c).2 : Int) ∧ (rcnt t d c).2 ≤ 20000) ∧
    ((rcnt t d c).1 = true → (rcnt t d c).2 ≤ 20000 → (tfold mStep t d b ((c : Int), e)).1 = true)
 | .mk k n nm lv ls ks, d, c, b, e, hc => by
  have hw := wrap20 (c := c) (by omega)
  have hdd : ((d : Int) + 1) = ((d + 1 : Nat) : Int) := by omega
  rw [tfold, rcnt]
  have hs1 : (mStep ((c : Int), e) (.mk k n nm lv ls ks) (d : Int) b).1 = (decide (c + 1 ≤ 20000) && decide (d ≤ 2000)) := by
   show (decide (wrap64 ((c : Int) + 1) ≤ 20000) && decide ((d : Int) ≤ 2000)) = _
   have a1 : decide (((c + 1 : Nat) : Int) ≤ 20000) = decide (c + 1 ≤ 20000) := decide_eq_decide.2 (by omega)
   have a2 : decide ((d : Int) ≤ 2000) = decide (d ≤ 2000) := decide_eq_decide.2 (by omega)
   rw [hw, a1, a2]
  have hs2 : (mStep ((c : Int), e) (.mk k n nm lv ls ks) (d : Int) b).2 = (((c + 1 : Nat) : Int), max e (d : Int)) := by
   show (wrap64 ((c : Int) + 1), max e (d : Int)) = _
   rw [hw]
  rw [hs1, hs2, hdd]
  by_cases h1 : c + 1 ≤ 20000 ∧ d ≤ 2000
  · obtain ⟨h1, h2⟩ := h1
    have e1 : (decide (c + 1 ≤ 20000) && decide (d ≤ 2000)) = true := by simp [h1, h2]
    rw [if_pos e1, if_neg (by omega)]
    cases hl : rlf k ks.length with
    | true =>
     rw [if_pos rfl, nk_leaf hl]
     have ht := tfolds_end mStep k 0 ks ((d + 1 : Nat) : Int) b (((c + 1 : Nat) : Int), max e (d : Int))
     rw [List.drop_zero] at ht
     rw [ht]
     exact ⟨fun _ => ⟨rfl, rfl, h1⟩, fun _ _ => rfl⟩
    | false =>
     rw [if_neg (by decide), nk_node hl]
     obtain ⟨g1, g2⟩ := cnts_same ks k (tar k).toNat 0 d (c + 1) b (max e (d : Int)) h1
     rw [Nat.sub_zero] at g1 g2
     exact ⟨g1, fun h _ => g2 h⟩
  · have e1 : (decide (c + 1 ≤ 20000) && decide (d ≤ 2000)) = false := by
      by_cases h2 : c + 1 ≤ 20000
      · have h3 : ¬ d ≤ 2000 := fun h => h1 ⟨h2, h⟩
        simp [h3]
      · simp [h2]
    rw [e1, if_neg (by decide)]
    refine ⟨fun h => (by cases h), fun h h9 => ?_⟩
    by_cases h2 : 2000 < d
    · rw [if_pos h2] at h; cases h
    · rw [if_neg h2] at h h9
      exfalso
      have h3 : ¬ c + 1 ≤ 20000 := fun h4 => h1 ⟨h4, by omega⟩
      cases hl : rlf k ks.length with
      | true => rw [hl, if_pos rfl] at h9; simp only at h9; omega
      | false =>
       rw [hl, if_neg (by decide)] at h
       have := (rcnts_c _ _ _ _ h).1
       omega
theorem cnts_same : ∀ (l : List Tm) (k : Int) (N i d c : Nat) (b e : Int), c ≤ 20000 →
    ((tfolds mStep k N l i ((d + 1 : Nat) : Int) b ((c : Int), e)).1 = true → (rcnts (N - i) l d c).1 = true ∧ (tfolds mStep k N l i ((d + 1 : Nat) : Int) b ((c : Int), e)).2.1 = ((rcnts (N - i) l d c).2 : Int) ∧ (rcnts (N - i) l d c).2 ≤ 20000) ∧
    ((rcnts (N - i) l d c).1 = true → (tfolds mStep k N l i ((d + 1 : Nat) : Int) b ((c : Int), e)).1 = true)
 | [], k, N, i, d, c, b, e, hc => by
  rw [tfolds]
  have hr : rcnts (N - i) [] d c = (true, c) := by
   cases N - i with
   | zero => rw [rcnts, decide_eq_true hc]
   | succ m => rw [rcnts, decide_eq_true hc]
  rw [hr]
  exact ⟨fun _ => ⟨rfl, rfl, hc⟩, fun _ => rfl⟩
 | t :: l, k, N, i, d, c, b, e, hc => by
  rw [tfolds]
  by_cases hi : i < N
  · obtain ⟨m, hm⟩ : ∃ m, N - i = m + 1 := ⟨N - i - 1, by omega⟩
    have hm2 : N - (i + 1) = m := by omega
    have hnc : ¬ 20000 < c := by omega
    rw [if_pos hi, hm, rcnts, if_neg hnc]
    obtain ⟨g1, g2⟩ := cnt_same t (d + 1) c (b + bnd k i) e hc
    by_cases hf : (tfold mStep t ((d + 1 : Nat) : Int) (b + bnd k i) ((c : Int), e)).1 = true
    · obtain ⟨r1, r2, r3⟩ := g1 hf
      rw [if_pos hf, if_pos r1]
      obtain ⟨s1, hs1⟩ : ∃ s, (tfold mStep t ((d + 1 : Nat) : Int) (b + bnd k i) ((c : Int), e)).2 = s := ⟨_, rfl⟩
      obtain ⟨sa, sb⟩ := s1
      rw [hs1] at r2 ⊢
      simp only at r2
      subst r2
      have := cnts_same l k N (i + 1) d (rcnt t (d + 1) c).2 b sb r3
      rw [hm2] at this
      exact this
    · rw [if_neg hf]
      refine ⟨fun h => (by cases h), fun h => ?_⟩
      by_cases hr : (rcnt t (d + 1) c).1 = true
      · rw [if_pos hr] at h
        exact absurd (g2 hr (rcnts_c _ _ _ _ h).1) hf
      · rw [if_neg hr] at h; cases h
  · have h0 : N - i = 0 := by omega
    rw [if_neg hi, h0, rcnts, decide_eq_true hc]
    exact ⟨fun _ => ⟨rfl, rfl, hc⟩, fun _ => rfl⟩
end
theorem rcnt_root {t : Tm} (h : (rcnt t 1 0).1 = true) : (rcnt t 1 0).2 ≤ 20000 := by
 obtain ⟨k, n, nm, lv, ls, ks⟩ := t
 rw [rcnt] at h ⊢
 rw [if_neg (by omega)] at h ⊢
 cases hl : rlf k ks.length with
 | true => rw [if_pos rfl]; simp
 | false =>
  rw [hl, if_neg (by decide)] at h
  rw [if_neg (by decide)]
  exact (rcnts_c _ _ _ _ h).2
theorem rsz_pos (t : Tm) : 1 ≤ rsz t := by
 obtain ⟨k, n, nm, lv, ls, ks⟩ := t
 rw [rsz]; split <;> omega
/-- A term is too great for the one as for the other. -/
theorem tgreat_eq (t : Tm) : tgreat t = rgreat t := by
 obtain ⟨g1, g2⟩ := cnt_same t 1 0 0 0 (by omega)
 have e1 : (((1 : Nat) : Int)) = 1 := rfl
 have e0 : (((0 : Nat) : Int)) = 0 := rfl
 rw [e1, e0] at g1 g2
 unfold tgreat tmeas rgreat
 cases hf : (tfold mStep t 1 0 (0, 0)).1 with
 | true =>
  obtain ⟨r1, r2, r3⟩ := g1 hf
  rw [if_pos rfl, r1, r2, rcnt_true t 1 0 r1]
  have := rsz_pos t
  simp
  omega
 | false =>
  rw [if_neg (by decide)]
  cases hr : (rcnt t 1 0).1 with
  | true => have := g2 hr (rcnt_root hr); rw [hf] at this; cases this
  | false => rfl
theorem leaf_flat {k : Int} {m : Nat} (h : k = 1 ∨ k = 2 ∨ k = 7) : tleaf k m = true ∧ rlf k m = false := by
 have h0 : tar k = 0 := by rcases h with rfl | rfl | rfl <;> rfl
 unfold tleaf rlf
 rw [h0]
 exact ⟨by simp, by simp⟩
theorem leaf_node {k : Int} {m : Nat} (h : ¬ (k = 1 ∨ k = 2 ∨ k = 7)) : tleaf k m = rlf k m := by
 have hb : tar k ≠ 0 := by
  unfold tar
  by_cases h1 : k = 1
  · exact absurd (.inl h1) h
  · by_cases h2 : k = 2
    · exact absurd (.inr (.inl h2)) h
    · by_cases h7 : k = 7
      · exact absurd (.inr (.inr h7)) h
      · rw [if_neg h1, if_neg h2, if_neg h7]
        split
        · decide
        · split
          · decide
          · split
            · decide
            · split <;> decide
 have hle := tar_le k
 unfold tleaf rlf
 have e : decide (tar k < 1) = decide (tar k < 0) := decide_eq_decide.2 (by omega)
 rw [e]
theorem leqs_eq : ∀ (l r : List Lv), leqs l r = reqs l r
 | [], [] => by simp [leqs, reqs]
 | [], _ :: _ => by simp [leqs, reqs]
 | _ :: _, [] => by simp [leqs, reqs]
 | a :: l, b :: r => by
  simp only [leqs, reqs, leq_eq, leqs_eq l r]
theorem tsame_eq2 {k n m : Int} {nm nmb : ByteArray} {lv lvb : Lv} {ls lsb : List Lv} {ks ksb : List Tm} (hl : (Tm.mk k n nm lv ls ks).leaf = (Tm.mk k m nmb lvb lsb ksb).leaf) :
    tsame (.mk k n nm lv ls ks) (.mk k m nmb lvb lsb ksb) = if k = 1 then n == m else if k = 2 then leq lv lvb else if k = 7 then (nm.toList == nmb.toList && leqs ls lsb)
    else if (Tm.mk k n nm lv ls ks).leaf = true then true else tsames (tar k).toNat ks ksb := tsame_eq rfl hl
mutual
theorem tsame_eq3 : ∀ (a b : Tm), tsame a b = rsame a b
 | .mk k n nm lv ls ks, .mk k2 n2 nm2 lv2 ls2 ks2 => by
  by_cases hk : k = k2
  · subst hk
    by_cases hf : k = 1 ∨ k = 2 ∨ k = 7
    · have l1 : (Tm.mk k n nm lv ls ks).leaf = (Tm.mk k n2 nm2 lv2 ls2 ks2).leaf := (leaf_flat (m := ks.length) hf).1.trans (leaf_flat (m := ks2.length) hf).1.symm
      have l2 : (Tm.mk k n nm lv ls ks).rleaf = (Tm.mk k n2 nm2 lv2 ls2 ks2).rleaf := (leaf_flat (m := ks.length) hf).2.trans (leaf_flat (m := ks2.length) hf).2.symm
      have l3 : (Tm.mk k n nm lv ls ks).rleaf = false := (leaf_flat (m := ks.length) hf).2
      have ff : ¬ (false = true) := by decide
      rw [tsame_eq2 l1, rsame_eq2 l2, l3, if_neg ff]
      by_cases h1 : k = 1
      · rw [if_pos h1, if_pos h1]
      · rw [if_neg h1, if_neg h1]
        by_cases h2 : k = 2
        · rw [if_pos h2, if_pos h2, leq_eq]
        · have h7 : k = 7 := by
            rcases hf with h | h | h
            · exact absurd h h1
            · exact absurd h h2
            · exact h
          rw [if_neg h2, if_neg h2, if_pos h7, if_pos h7, leqs_eq]
    · have e1 : (Tm.mk k n nm lv ls ks).leaf = (Tm.mk k n nm lv ls ks).rleaf := leaf_node hf
      have e2 : (Tm.mk k n2 nm2 lv2 ls2 ks2).leaf = (Tm.mk k n2 nm2 lv2 ls2 ks2).rleaf := leaf_node hf
      by_cases hl : (Tm.mk k n nm lv ls ks).rleaf = (Tm.mk k n2 nm2 lv2 ls2 ks2).rleaf
      · have h1 : ¬ k = 1 := fun h => hf (.inl h)
        have h2 : ¬ k = 2 := fun h => hf (.inr (.inl h))
        have h7 : ¬ k = 7 := fun h => hf (.inr (.inr h))
        rw [tsame_eq2 (by rw [e1, e2, hl]), rsame_eq2 hl, e1]
        rw [if_neg h1, if_neg h2, if_neg h7, if_neg h1, if_neg h2, if_neg h7, tsames_eq3 (tar k).toNat ks ks2]
      · rw [tsame, rsame, if_pos (.inr (by rw [e1, e2]; exact hl)), if_pos (.inr hl)]
  · rw [tsame, rsame, if_pos (.inl hk), if_pos (.inl hk)]
theorem tsames_eq3 : ∀ (m : Nat) (l r : List Tm), tsames m l r = rsames m l r
 | 0, _, _ => by rw [tsames, rsames]
 | m + 1, a :: l, b :: r => by rw [tsames, rsames, tsame_eq3 a b, tsames_eq3 m l r]
 | m + 1, [], _ => by rw [tsames, rsames] <;> (intros; simp_all)
 | m + 1, _ :: _, [] => by rw [tsames, rsames] <;> (intros; simp_all)
end
/-- Same is Same. -/
theorem tSame_eq (a b : Tm) : tSame a b = rSame a b := by
 unfold tSame rSame
 rw [tgreat_eq, tgreat_eq, tsame_eq3]
mutual
theorem ment_same (nm : ByteArray) : ∀ (t : Tm) (d b x : Int), (tfold (mnStep nm) t d b ()).1 = !(rends t x).any (isCon nm)
 | .mk k n tm lv ls ks, d, b, x => by
  rw [tfold, rends]
  have hs : (mnStep nm () (.mk k n tm lv ls ks) d b).1 = !isCon nm (.mk k n tm lv ls ks, x) := by
   show (decide (k ≠ 7) || !(tm.toList == nm.toList)) = !(decide (k = 7) && (tm.toList == nm.toList))
   by_cases h : k = 7
   · simp [h]
   · simp [h]
  by_cases he : (rlf k ks.length || (tar k == 0)) = true
  · rw [if_pos he]
    have hn : nk k ks.length = 0 := by
     cases hl : rlf k ks.length with
     | true => exact nk_leaf hl
     | false =>
      rw [hl] at he
      have h0 : tar k = 0 := by simpa using he
      rw [nk_node hl, h0]; rfl
    rw [hn, hs]
    have ht := tfolds_end (mnStep nm) k 0 ks (d + 1) b (mnStep nm () (.mk k n tm lv ls ks) d b).2
    rw [List.drop_zero] at ht
    cases hc : isCon nm (.mk k n tm lv ls ks, x) with
    | true => simp [hc]
    | false =>
     simp only [Bool.not_false, if_true, List.any_cons, List.any_nil, hc, Bool.or_false]
     rw [ht]
  · rw [if_neg he]
    have hl : rlf k ks.length = false := by
     cases h : rlf k ks.length with
     | false => rfl
     | true => rw [h] at he; exact absurd rfl he
    have h7 : k ≠ 7 := fun h => by
     subst h
     exact he (by rw [hl]; rfl)
    have hs1 : (mnStep nm () (.mk k n tm lv ls ks) d b).1 = true := by
     show (decide (k ≠ 7) || !(tm.toList == nm.toList)) = true
     simp [h7]
    rw [if_pos hs1, nk_node hl]
    have := ments_same nm ks k (tar k).toNat 0 (d + 1) b x
    rw [Nat.sub_zero] at this
    exact this
theorem ments_same (nm : ByteArray) : ∀ (l : List Tm) (k : Int) (N i : Nat) (d b x : Int), (tfolds (mnStep nm) k N l i d b ()).1 = !(rendss k (N - i) i l x).any (isCon nm)
 | [], k, N, i, d, b, x => by
  rw [tfolds]
  cases N - i with
  | zero => rw [rendss]; rfl
  | succ m => rw [rendss]; rfl
 | t :: l, k, N, i, d, b, x => by
  rw [tfolds]
  by_cases hi : i < N
  · obtain ⟨m, hm⟩ : ∃ m, N - i = m + 1 := ⟨N - i - 1, by omega⟩
    have hm2 : N - (i + 1) = m := by omega
    have g1 := ment_same nm t d (b + bnd k i) (x + bnd k i)
    have g2 := ments_same nm l k N (i + 1) d b x
    rw [hm2] at g2
    rw [if_pos hi, hm, rendss, List.any_append]
    cases hf : (tfold (mnStep nm) t d (b + bnd k i) ()).1 with
    | true =>
     rw [hf] at g1
     have g3 : (rends t (x + bnd k i)).any (isCon nm) = false := by simpa using g1.symm
     rw [if_pos rfl, g3, Bool.false_or]
     exact g2
    | false =>
     rw [hf] at g1
     have g3 : (rends t (x + bnd k i)).any (isCon nm) = true := by simpa using g1.symm
     rw [if_neg (by decide), g3]
     rfl
  · have h0 : N - i = 0 := by omega
    rw [if_neg hi, h0, rendss]
    rfl
end
/-- Mentions is Mentions. -/
theorem tment_eq (t : Tm) (nm : ByteArray) : tment t nm = rment t nm := by
 unfold tment rment
 rw [tgreat_eq, ment_same nm t 1 0 0, Bool.not_not]
end Go.Proofs.Ytiampoebdmflgaa

/- Plain law: what is applied, and to what. -/
namespace Go.Proofs.Ytiampoebdmflgaa
open Go.RowKit
set_option linter.unusedVariables false
set_option maxHeartbeats 1000000
set_option maxRecDepth 100000
mutual
theorem vh_le : ∀ (t : Tm), t.vh ≤ t.height
 | .mk k n nm lv ls ks => by
  have := vhs_le (nk k ks.length) ks 0
  simp only [Tm.vh, Tm.height]; omega
theorem vhs_le (N : Nat) : ∀ (l : List Tm) (i : Nat), Tm.vhs N l i ≤ Tm.heights l
 | [], _ => by simp [Tm.vhs, Tm.heights]
 | t :: l, i => by
  have h1 := vh_le t
  have h2 := vhs_le N l (i + 1)
  simp only [Tm.vhs, Tm.heights]
  split <;> omega
end
theorem vh_pos (t : Tm) : 1 ≤ t.vh := by
 obtain ⟨k, n, nm, lv, ls, ks⟩ := t
 simp only [Tm.vh]; omega
theorem rspF_fuel : ∀ (n m : Nat) (t : Tm) (acc : List Tm), t.vh ≤ n → t.vh ≤ m → rspF n t acc = rspF m t acc
 | 0, _, t, _, h, _ => by have := vh_pos t; omega
 | n + 1, m, t, acc, h1, h2 => by
  obtain ⟨m', rfl⟩ : ∃ m', m = m' + 1 := ⟨m - 1, by have := vh_pos t; omega⟩
  by_cases h : t.k = 6 ∧ 2 ≤ t.ks.length
  · have hl : 1 < t.ks.length := by omega
    rw [rspF_step h.1 hl, rspF_step h.1 hl]
    have hv : (t.ks[0]'(by omega)).vh + 1 ≤ t.vh := by
     obtain ⟨k, nn, nm, lv, ls, ks⟩ := t
     have hk : k = 6 := h.1
     have hl2 : 1 < ks.length := hl
     have h8 : tar 6 = 2 := by decide
     have hnk : 0 < nk k ks.length := by rw [hk]; unfold nk; rw [if_neg (by rw [h8]; omega), h8]; decide
     exact Tm.vh_kid (k := k) (n := nn) (nm := nm) (lv := lv) (ls := ls) (ks := ks) 0 (by omega) hnk
    exact rspF_fuel n m' _ _ (by omega) (by omega)
  · rw [rspF_end h, rspF_end h]
theorem leaf6 {t : Tm} (h : t.k = 6) : t.leaf = false ↔ 2 ≤ t.ks.length := by
 unfold Tm.leaf tleaf
 rw [h]
 have h8 : tar 6 = 2 := by decide
 rw [h8]
 simp
 omega
theorem spF_same : ∀ (n : Nat) (t : Tm) (acc racc : List Tm), acc.reverse = racc.map town → (spineF n t acc).1 = (rspF n t racc).1 ∧ (spineF n t acc).2.reverse = (rspF n t racc).2.map town
 | 0, _, _, _, h => ⟨rfl, h⟩
 | n + 1, t, acc, racc, h => by
  by_cases hc : t.k = 6 ∧ 2 ≤ t.ks.length
  · have hl : 1 < t.ks.length := by omega
    rw [spineF_step hc.1 ((leaf6 hc.1).2 hc.2) hl, rspF_step hc.1 hl]
    refine spF_same n _ _ _ ?_
    rw [List.reverse_append, List.reverse_singleton, h]
    rfl
  · rw [spineF_end (fun h2 => hc ⟨h2.1, (leaf6 h2.1).1 h2.2⟩), rspF_end hc]
    exact ⟨rfl, h⟩
/-- Spine is Spine, once more in memory of its own. -/
theorem tspine_eq (t : Tm) : tspine t = if rgreat t = true then (t, []) else (town (rspine t).1, (rspine t).2.map town) := by
 unfold tspine rspine
 rw [tgreat_eq]
 cases hg : rgreat t with
 | true => rfl
 | false =>
  obtain ⟨g1, g2⟩ := spF_same t.vh t [] [] rfl
  rw [if_neg (by decide), if_neg (by decide), if_neg (by decide), rspF_fuel t.height t.vh t [] (vh_le t) (Nat.le_refl _), g1, g2]
end Go.Proofs.Ytiampoebdmflgaa

/- Plain law: a term once more in memory of its own is the same. -/
namespace Go.Proofs.Ytiampoebdmflgaa
open Go.RowKit
set_option linter.unusedVariables false
set_option maxHeartbeats 1000000
set_option maxRecDepth 100000
/-! ### Levels -/
mutual
theorem rsnd_copy : ∀ (l : Lv) (d c : Nat), rsnd (lcopy l) d c = rsnd l d c
 | .mk k n ks, d, c => by
  rw [lcopy, rsnd, rsnd]
  have hl : (lcopys ks).length = ks.length := by rw [lcopys_eq, List.length_map]
  rw [hl, rsnds_copy ks d (c + 1)]
  by_cases h4 : k = 4
  · subst h4
    simp
  · rw [if_neg h4]
theorem rsnds_copy : ∀ (ks : List Lv) (d c : Nat), rsnds (lcopys ks) d c = rsnds ks d c
 | [], _, _ => by rw [lcopys]
 | l :: ls, d, c => by
  rw [lcopys, rsnds, rsnds, rsnd_copy l (d + 1) c, rsnds_copy ls d _]
end
theorem rsound_copy (l : Lv) : rsound (lcopy l) = rsound l := by unfold rsound; rw [rsnd_copy]
mutual
theorem rnorm_copy : ∀ (l : Lv), rnorm (lcopy l) = rnorm l
 | .mk k n ks => by
  rw [lcopy, rnorm, rnorm, rnormi_copy ks 0, rnormi_copy ks 1]
  by_cases h4 : k = 4
  · subst h4
    simp
  · rw [if_neg h4]
theorem rnormi_copy : ∀ (ks : List Lv) (i : Nat), rnormi (lcopys ks) i = rnormi ks i
 | [], i => by rw [lcopys]
 | l :: ls, 0 => by rw [lcopys, rnormi, rnormi, rnorm_copy l]
 | l :: ls, i + 1 => by rw [lcopys, rnormi, rnormi, rnormi_copy ls i]
end
theorem req_own (a b : Lv) : req (lown a) b = req a b := by
 unfold lown
 split
 · unfold req; rw [rsound_copy, rnorm_copy]
 · rfl
theorem req_own2 (a b : Lv) : req a (lown b) = req a b := by
 unfold lown
 split
 · unfold req; rw [rsound_copy, rnorm_copy]
 · rfl
theorem reqs_own : ∀ (l r : List Lv), reqs (l.map lown) r = reqs l r
 | [], [] => rfl
 | [], _ :: _ => rfl
 | _ :: _, [] => rfl
 | a :: l, b :: r => by rw [List.map_cons, reqs, reqs, req_own, reqs_own l r]
/-! ### Terms -/
theorem tnode_k (t : Tm) : (tnode t).k = t.k := by
 unfold tnode
 split
 · rename_i h; exact h.symm
 · split
   · rename_i h; exact h.symm
   · split
     · rename_i h; exact h.symm
     · rfl
theorem tnode_ks (t : Tm) : (tnode t).ks = [] := by
 unfold tnode
 split
 · rfl
 · split
   · rfl
   · split <;> rfl
theorem tnode_n {t : Tm} (h : t.k = 1) : (tnode t).n = t.n := by unfold tnode; rw [if_pos h]; rfl
theorem tnode_lv {t : Tm} (h : t.k = 2) : (tnode t).lv = lown t.lv := by unfold tnode; rw [if_neg (by omega), if_pos h]; rfl
theorem tnode_nm {t : Tm} (h : t.k = 7) : (tnode t).nm = t.nm ∧ (tnode t).ls = t.ls.map lown := by unfold tnode; rw [if_neg (by omega), if_neg (by omega), if_pos h]; exact ⟨rfl, rfl⟩
theorem leaf_rlf {k : Int} {m : Nat} (h : tleaf k m = true) : rlf k 0 = rlf k m ∧ (rlf k m = false → tar k = 0) := by
 unfold tleaf at h
 unfold rlf
 have hb := tar_le k
 have h2 : tar k < 1 ∨ (m : Int) < tar k := by simpa using h
 refine ⟨?_, fun h3 => ?_⟩
 · have e1 : decide (((0 : Nat) : Int) < tar k) = decide ((m : Int) < tar k) := decide_eq_decide.2 (by omega)
   rw [e1]
 · have h4 : ¬ tar k < 0 ∧ ¬ (m : Int) < tar k := by simpa using h3
   omega
theorem noleaf_rlf {k : Int} {m : Nat} (h : tleaf k m = false) : rlf k m = false ∧ nk k m = (tar k).toNat ∧ 1 ≤ tar k ∧ tar k ≤ m ∧ rlf k (tar k).toNat = false := by
 unfold tleaf at h
 have hb := tar_le k
 have h2 : ¬ tar k < 1 ∧ ¬ (m : Int) < tar k := by simpa using h
 refine ⟨?_, ?_, by omega, by omega, ?_⟩
 · unfold rlf
   have a1 : ¬ tar k < 0 := by omega
   simp [a1, h2.2]
 · unfold nk; rw [if_neg h2.2]
 · unfold rlf
   have a1 : ¬ tar k < 0 := by omega
   have a2 : ¬ (((tar k).toNat : Nat) : Int) < tar k := by omega
   simp only [a1, a2, decide_false, Bool.or_false]
theorem trebs_len (F : Tm → Int → Tm) (k : Int) (N : Nat) (ks : List Tm) (i : Int) (h : N ≤ ks.length) : (trebs F k N ks 0 i).length = N := by
 rw [trebs_eq]; simp; omega
abbrev tnode2 (t : Tm) (_ : Int) : Tm := tnode t
theorem treb_leaf {k n : Int} {nm : ByteArray} {lv : Lv} {ls : List Lv} {ks : List Tm} {i : Int} (h : tleaf k ks.length = true) : treb tnode2 (.mk k n nm lv ls ks) i = tnode (.mk k n nm lv ls ks) := by
 have h2 : (Tm.mk k n nm lv ls ks).leaf = true := h
 rw [treb, if_pos h2]
theorem treb_node {k n : Int} {nm : ByteArray} {lv : Lv} {ls : List Lv} {ks : List Tm} {i : Int} (h : tleaf k ks.length = false) : treb tnode2 (.mk k n nm lv ls ks) i = .mk k 0 ByteArray.empty lzero' [] (trebs tnode2 k (tar k).toNat ks 0 i) := by
 have h2 : (Tm.mk k n nm lv ls ks).leaf = false := h
 rw [treb, if_neg (by rw [h2]; decide), (noleaf_rlf h).2.1]
theorem tm_eta (t : Tm) : t = .mk t.k t.n t.nm t.lv t.ls t.ks := by cases t; rfl
mutual
theorem rcnt_treb : ∀ (t : Tm) (i : Int) (d c : Nat), rcnt (treb tnode2 t i) d c = rcnt t d c
 | .mk k n nm lv ls ks, i, d, c => by
  cases hl : tleaf k ks.length with
  | true =>
   rw [treb_leaf hl]
   obtain ⟨X, hX⟩ : ∃ X, tnode (.mk k n nm lv ls ks) = X := ⟨_, rfl⟩
   have hk : X.k = k := by rw [← hX, tnode_k]; rfl
   have hks : X.ks = [] := by rw [← hX, tnode_ks]
   rw [hX]
   obtain ⟨k', n', nm', lv', ls', ks'⟩ := X
   simp only [Tm.k, Tm.ks] at hk hks
   subst hk; subst hks
   obtain ⟨g1, g2⟩ := leaf_rlf hl
   rw [rcnt, rcnt, List.length_nil, g1]
   cases hr : rlf k' ks.length with
   | true => rfl
   | false =>
    have h0 := g2 hr
    rw [h0]
    have e0 : (0 : Int).toNat = 0 := rfl
    rw [e0, rcnts, rcnts]
  | false =>
   obtain ⟨g1, g2, g3, g4, g5⟩ := noleaf_rlf hl
   rw [treb_node hl, rcnt, rcnt, trebs_len _ _ _ _ _ (by omega), g1, g5]
   have := rcnts_treb ks k (tar k).toNat 0 i d (c + 1)
   rw [Nat.sub_zero] at this
   rw [this]
theorem rcnts_treb : ∀ (l : List Tm) (k : Int) (N j : Nat) (i : Int) (d c : Nat), rcnts (N - j) (trebs tnode2 k N l j i) d c = rcnts (N - j) l d c
 | [], k, N, j, i, d, c => by rw [trebs]
 | t :: l, k, N, j, i, d, c => by
  rw [trebs]
  by_cases hj : j < N
  · obtain ⟨m, hm⟩ : ∃ m, N - j = m + 1 := ⟨N - j - 1, by omega⟩
    have hm2 : N - (j + 1) = m := by omega
    have h3 := rcnts_treb l k N (j + 1) i d
    rw [hm2] at h3
    rw [if_pos hj, hm, rcnts, rcnts, rcnt_treb t _ (d + 1) c, h3]
  · have h0 : N - j = 0 := by omega
    rw [if_neg hj, h0, rcnts, rcnts]
end
theorem rgreat_treb (t : Tm) (i : Int) : rgreat (treb tnode2 t i) = rgreat t := by unfold rgreat; rw [rcnt_treb]
mutual
theorem rsame_treb : ∀ (t : Tm) (i : Int) (b : Tm), rsame (treb tnode2 t i) b = rsame t b
 | .mk k n nm lv ls ks, i, b => by
  cases hl : tleaf k ks.length with
  | true =>
   rw [treb_leaf hl]
   obtain ⟨g1, g2⟩ := leaf_rlf hl
   obtain ⟨X, hX⟩ : ∃ X, tnode (.mk k n nm lv ls ks) = X := ⟨_, rfl⟩
   have hk : X.k = k := by rw [← hX, tnode_k]; rfl
   have hks : X.ks = [] := by rw [← hX, tnode_ks]
   have hr : X.rleaf = (Tm.mk k n nm lv ls ks).rleaf := by
    show rlf X.k X.ks.length = rlf k ks.length
    rw [hk, hks, List.length_nil, g1]
   have hn : k = 1 → X.n = n := by intro h1; rw [← hX]; exact tnode_n h1
   have hlv : k = 2 → X.lv = lown lv := by intro h1; rw [← hX]; exact tnode_lv h1
   have hnm : k = 7 → X.nm = nm ∧ X.ls = ls.map lown := by
    intro h1
    rw [← hX]; exact tnode_nm h1
   rw [hX]
   clear hX
   obtain ⟨k', n', nm', lv', ls', ks'⟩ := X
   simp only [Tm.k, Tm.ks, Tm.n, Tm.lv, Tm.nm, Tm.ls] at hk hks hn hlv hnm
   subst hk; subst hks
   rw [rsame, rsame, hr]
   by_cases hc : k' ≠ b.k ∨ (Tm.mk k' n nm lv ls ks).rleaf ≠ b.rleaf
   · rw [if_pos hc, if_pos hc]
   · rw [if_neg hc, if_neg hc]
     cases hrl : (Tm.mk k' n nm lv ls ks).rleaf with
     | true => rfl
     | false =>
      have hft : ¬ (false = true) := by decide
      rw [if_neg hft, if_neg hft]
      by_cases h1 : k' = 1
      · rw [if_pos h1, if_pos h1, hn h1]
      · rw [if_neg h1, if_neg h1]
        by_cases h2 : k' = 2
        · rw [if_pos h2, if_pos h2, hlv h2, req_own]
        · rw [if_neg h2, if_neg h2]
          by_cases h7 : k' = 7
          · rw [if_pos h7, if_pos h7, (hnm h7).1, (hnm h7).2, reqs_own]
          · rw [if_neg h7, if_neg h7, g2 hrl]
            have e0 : (0 : Int).toNat = 0 := rfl
            rw [e0, rsames, rsames]
  | false =>
   obtain ⟨g1, g2, g3, g4, g5⟩ := noleaf_rlf hl
   rw [treb_node hl, rsame, rsame]
   have hr1 : (Tm.mk k 0 ByteArray.empty lzero' [] (trebs tnode2 k (tar k).toNat ks 0 i)).rleaf = false := by
    show rlf k (trebs tnode2 k (tar k).toNat ks 0 i).length = false
    rw [trebs_len _ _ _ _ _ (by omega), g5]
   have hr2 : (Tm.mk k n nm lv ls ks).rleaf = false := g1
   have h1 : ¬ k = 1 := by intro h; rw [h] at g3; exact absurd g3 (by decide)
   have h2 : ¬ k = 2 := by intro h; rw [h] at g3; exact absurd g3 (by decide)
   have h7 : ¬ k = 7 := by intro h; rw [h] at g3; exact absurd g3 (by decide)
   have h3 := rsames_treb ks k (tar k).toNat 0 i b.ks
   rw [Nat.sub_zero] at h3
   rw [hr1, hr2, if_neg h1, if_neg h2, if_neg h7, if_neg h1, if_neg h2, if_neg h7, h3]
theorem rsames_treb : ∀ (l : List Tm) (k : Int) (N j : Nat) (i : Int) (r : List Tm), rsames (N - j) (trebs tnode2 k N l j i) r = rsames (N - j) l r
 | [], k, N, j, i, r => by rw [trebs]
 | t :: l, k, N, j, i, r => by
  rw [trebs]
  by_cases hj : j < N
  · obtain ⟨m, hm⟩ : ∃ m, N - j = m + 1 := ⟨N - j - 1, by omega⟩
    have hm2 : N - (j + 1) = m := by omega
    have h3 := rsames_treb l k N (j + 1) i
    rw [hm2] at h3
    rw [if_pos hj, hm]
    cases r with
    | nil => rw [rsames, rsames] <;> (intros; simp_all)
    | cons b r => rw [rsames, rsames, rsame_treb t _ b, h3]
  · have h0 : N - j = 0 := by omega
    rw [if_neg hj, h0, rsames, rsames]
end
theorem tnode_con (nm : ByteArray) (t : Tm) (x y : Int) : isCon nm (tnode t, x) = isCon nm (t, y) := by
 unfold isCon
 rw [tnode_k]
 by_cases h7 : t.k = 7
 · rw [(tnode_nm h7).1]
 · simp [h7]
theorem con_k {nm : ByteArray} {t : Tm} {x : Int} (h : t.k ≠ 7) : isCon nm (t, x) = false := by unfold isCon; simp [h]
mutual
theorem rends_treb (nm : ByteArray) : ∀ (t : Tm) (i x : Int), (rends (treb tnode2 t i) x).any (isCon nm) = (rends t x).any (isCon nm)
 | .mk k n tm lv ls ks, i, x => by
  cases hl : tleaf k ks.length with
  | true =>
   rw [treb_leaf hl]
   have hc := tnode_con nm (.mk k n tm lv ls ks) x x
   obtain ⟨X, hX⟩ : ∃ X, tnode (.mk k n tm lv ls ks) = X := ⟨_, rfl⟩
   have hk : X.k = k := by rw [← hX, tnode_k]; rfl
   have hks : X.ks = [] := by rw [← hX, tnode_ks]
   rw [hX] at hc ⊢
   clear hX
   obtain ⟨k', n', nm', lv', ls', ks'⟩ := X
   simp only [Tm.k, Tm.ks] at hk hks
   subst hk; subst hks
   obtain ⟨g1, g2⟩ := leaf_rlf hl
   have h1 : (rlf k' ks.length || (tar k' == 0)) = true := by
    cases hr : rlf k' ks.length with
    | true => rfl
    | false => rw [g2 hr]; rfl
   have h2 : (rlf k' ([] : List Tm).length || (tar k' == 0)) = true := by rw [List.length_nil, g1]; exact h1
   rw [rends, rends, if_pos h1, if_pos h2]
   simp [hc]
  | false =>
   obtain ⟨g1, g2, g3, g4, g5⟩ := noleaf_rlf hl
   have h0 : (tar k == 0) = false := by simp; omega
   rw [treb_node hl, rends, rends, trebs_len _ _ _ _ _ (by omega), g1, g5, h0]
   have := rendss_treb nm ks k (tar k).toNat 0 i x
   rw [Nat.sub_zero] at this
   exact this
theorem rendss_treb (nm : ByteArray) : ∀ (l : List Tm) (k : Int) (N j : Nat) (i x : Int), (rendss k (N - j) j (trebs tnode2 k N l j i) x).any (isCon nm) = (rendss k (N - j) j l x).any (isCon nm)
 | [], k, N, j, i, x => by rw [trebs]
 | t :: l, k, N, j, i, x => by
  rw [trebs]
  by_cases hj : j < N
  · obtain ⟨m, hm⟩ : ∃ m, N - j = m + 1 := ⟨N - j - 1, by omega⟩
    have hm2 : N - (j + 1) = m := by omega
    have h3 := rendss_treb nm l k N (j + 1) i x
    rw [hm2] at h3
    rw [if_pos hj, hm, rendss, rendss, List.any_append, List.any_append, rends_treb nm t _ _, h3]
  · have h0 : N - j = 0 := by omega
    rw [if_neg hj, h0, rendss, rendss]
end
theorem rSame_town (a b : Tm) : rSame (town a) b = rSame a b := by
 unfold town
 split
 · rfl
 · unfold rSame
   have e : treb (fun t _ => tnode t) a 0 = treb tnode2 a 0 := rfl
   rw [e, rgreat_treb, rsame_treb]
theorem rment_town (a : Tm) (nm : ByteArray) : rment (town a) nm = rment a nm := by
 unfold town
 split
 · rfl
 · unfold rment
   have e : treb (fun t _ => tnode t) a 0 = treb tnode2 a 0 := rfl
   rw [e, rgreat_treb, rends_treb]
end Go.Proofs.Ytiampoebdmflgaa

/- Plain law: shape.Of and assizeref13.Of say the same. -/
namespace Go.Proofs.Ytiampoebdmflgaa
open Go.RowKit
set_option linter.unusedVariables false
set_option maxHeartbeats 1000000
set_option maxRecDepth 100000
/-! ### What is not great has no great parts -/
mutual
theorem rcnt_ok : ∀ (t : Tm) (d c : Nat), c + rsz t ≤ 20000 → d + t.vh ≤ 2001 → rcnt t d c = (true, c + rsz t)
 | .mk k n nm lv ls ks, d, c, h1, h2 => by
  have hv : 1 ≤ (Tm.mk k n nm lv ls ks).vh := vh_pos _
  rw [rsz] at h1
  rw [rcnt, rsz, if_neg (by omega)]
  cases hr : rlf k ks.length with
  | true => rfl
  | false =>
   rw [hr] at h1
   have hft : ¬ (false = true) := by decide
   rw [if_neg hft] at h1 ⊢
   rw [if_neg hft]
   have hnk : nk k ks.length = (tar k).toNat := nk_node hr
   have h3 : d + 1 + Tm.vhs (tar k).toNat ks 0 ≤ 2001 := by
    have : (Tm.mk k n nm lv ls ks).vh = Tm.vhs (nk k ks.length) ks 0 + 1 := by simp only [Tm.vh]
    rw [hnk] at this
    omega
   have := rcnts_ok ks (tar k).toNat 0 d (c + 1) (by rw [Nat.sub_zero]; omega) h3
   rw [Nat.sub_zero] at this
   rw [this]
   congr 1
   omega
theorem rcnts_ok : ∀ (l : List Tm) (N j d c : Nat), c + rszs (N - j) l ≤ 20000 → d + 1 + Tm.vhs N l j ≤ 2001 → rcnts (N - j) l d c = (true, c + rszs (N - j) l)
 | [], N, j, d, c, h1, h2 => by
  cases hm : N - j with
  | zero => rw [hm] at h1; rw [rszs] at h1 ⊢; rw [rcnts]; simp; omega
  | succ m => rw [hm] at h1; rw [rszs] at h1 ⊢; rw [rcnts]; simp; omega
 | t :: l, N, j, d, c, h1, h2 => by
  by_cases hj : j < N
  · obtain ⟨m, hm⟩ : ∃ m, N - j = m + 1 := ⟨N - j - 1, by omega⟩
    have hm2 : N - (j + 1) = m := by omega
    rw [hm, rszs] at h1
    rw [hm, rszs, rcnts, if_neg (by have := rsz_pos t; omega)]
    simp only [Tm.vhs] at h2
    rw [if_pos hj] at h2
    have g1 := rcnt_ok t (d + 1) c (by omega) (by omega)
    have g2 := rcnts_ok l N (j + 1) d (c + rsz t) (by rw [hm2]; omega) (by omega)
    rw [hm2] at g2
    rw [g1, if_pos rfl, g2]
    congr 1
    omega
  · have h0 : N - j = 0 := by omega
    rw [h0, rszs] at h1 ⊢
    rw [rcnts]; simp; omega
end
/-- Not great: not many nodes, not high. -/
theorem great_iff (t : Tm) : rgreat t = false ↔ rsz t ≤ 20000 ∧ t.vh ≤ 2000 := by
 constructor
 · intro h
   have h1 : (rcnt t 1 0).1 = true := by unfold rgreat at h; simpa using h
   have h2 := rcnt_true t 1 0 h1
   have h3 := rcnt_root h1
   exact ⟨by omega, great_vh (by rw [tgreat_eq]; exact h)⟩
 · rintro ⟨h1, h2⟩
   unfold rgreat
   rw [rcnt_ok t 1 0 (by omega) (by omega)]
   rfl
theorem rszs_at : ∀ (N : Nat) (l : List Tm) (j : Nat) (hj : j < l.length), j < N → rsz l[j] ≤ rszs N l
 | 0, _, _, _, h => absurd h (by omega)
 | N + 1, [], _, hj, _ => absurd hj (by simp)
 | N + 1, t :: l, 0, _, _ => by rw [rszs]; simp
 | N + 1, t :: l, j + 1, hj, h => by
  rw [rszs]
  have := rszs_at N l j (by simpa using hj) (by omega)
  simp only [List.getElem_cons_succ]
  omega
theorem kid_not_great {t : Tm} {j : Nat} (hg : rgreat t = false) (hj : j < t.ks.length) (hn : j < nk t.k t.ks.length) : rgreat (t.ks[j]) = false := by
 obtain ⟨k, n, nm, lv, ls, ks⟩ := t
 simp only [Tm.ks, Tm.k] at hj hn ⊢
 obtain ⟨h1, h2⟩ := (great_iff _).1 hg
 have h3 := Tm.vh_kid (k := k) (n := n) (nm := nm) (lv := lv) (ls := ls) (ks := ks) j hj hn
 refine (great_iff _).2 ⟨?_, by omega⟩
 cases hr : rlf k ks.length with
 | true => rw [nk_leaf hr] at hn; omega
 | false =>
  rw [nk_node hr] at hn
  have h4 := rszs_at _ ks j hj hn
  rw [rsz, hr] at h1
  have hft : ¬ (false = true) := by decide
  rw [if_neg hft] at h1
  omega
theorem nk6 {m : Nat} (h : 2 ≤ m) : nk 6 m = 2 := by
 have h8 : tar 6 = 2 := by decide
 unfold nk; rw [h8, if_neg (by omega)]; rfl
theorem nk3 {m : Nat} (h : 2 ≤ m) : nk 3 m = 2 := by
 have h8 : tar 3 = 2 := by decide
 unfold nk; rw [h8, if_neg (by omega)]; rfl
theorem rspF_not_great : ∀ (n : Nat) (t : Tm) (acc : List Tm), rgreat t = false → (∀ x ∈ acc, rgreat x = false) → rgreat (rspF n t acc).1 = false ∧ ∀ x ∈ (rspF n t acc).2, rgreat x = false
 | 0, t, acc, h, ha => ⟨h, ha⟩
 | n + 1, t, acc, h, ha => by
  by_cases hc : t.k = 6 ∧ 2 ≤ t.ks.length
  · have hl : 1 < t.ks.length := by omega
    have hk : nk t.k t.ks.length = 2 := by rw [hc.1]; exact nk6 hc.2
    rw [rspF_step hc.1 hl]
    refine rspF_not_great n _ _ (kid_not_great h (by omega) (by omega)) ?_
    intro x hx
    rcases List.mem_cons.1 hx with rfl | hx
    · exact kid_not_great h (by omega) (by omega)
    · exact ha x hx
  · rw [rspF_end hc]; exact ⟨h, ha⟩
/-! ### The ends of a constructor's row -/
theorem lown_var (i : Int) : lown (.mk 2 i []) = .mk 2 i [] := by
 unfold lown
 split
 · rfl
 · rfl
theorem self_eq (nm : ByteArray) (m : Nat) : tself nm m = rself nm m := by
 unfold tself rself
 have : (vrow m).map lown = vrow m := by
  unfold vrow
  rw [List.map_map]
  refine List.map_congr_left fun i _ => ?_
  exact lown_var i
 rw [this]
theorem same_var {x : Tm} (hg : rgreat x = false) (n : Int) : rSame x (varAt n) = (decide (x.k = 1) && decide (x.n = n)) := by
 have hv : rgreat (varAt n) = false := rfl
 unfold rSame
 rw [hg, hv]
 obtain ⟨k, m, nm, lv, ls, ks⟩ := x
 simp only [Tm.k, Tm.n, Bool.not_false, Bool.true_and]
 by_cases hk : k = 1
 · subst hk
   have l2 : (Tm.mk 1 m nm lv ls ks).rleaf = (varAt n).rleaf := (leaf_flat (m := ks.length) (.inl rfl)).2
   have l3 : (Tm.mk 1 m nm lv ls ks).rleaf = false := (leaf_flat (m := ks.length) (.inl rfl)).2
   unfold varAt at l2 ⊢
   rw [rsame_eq2 l2, l3]
   simp only [Bool.false_eq_true, if_false, if_true]
   by_cases h : m = n
   · simp [h]
   · simp [h]
 · unfold varAt
   rw [rsame, if_pos (.inl hk)]
   simp [hk]
theorem down_eq (p : Nat) (depth : Int) : ∀ (l : List Tm) (i : Nat), (∀ x ∈ l, rgreat x = false) → varsDown (depth - 1 - i) ((l.take (p - i)).map town) = !rbad p depth i l
 | [], i, _ => by rw [List.take_nil, List.map_nil, varsDown, rbad]; rfl
 | a :: l, i, h => by
  have ih := down_eq p depth l (i + 1) (fun x hx => h x (List.mem_cons_of_mem _ hx))
  rw [rbad]
  by_cases hi : i < p
  · obtain ⟨m, hm⟩ : ∃ m, p - i = m + 1 := ⟨p - i - 1, by omega⟩
    have hm2 : p - (i + 1) = m := by omega
    rw [hm2] at ih
    have e1 : depth - 1 - ((i + 1 : Nat) : Int) = depth - 1 - i - 1 := by omega
    rw [e1] at ih
    rw [hm, List.take_succ_cons, List.map_cons, varsDown, tSame_eq, rSame_town, same_var (h a (List.mem_cons_self ..)), ih]
    by_cases h1 : a.k = 1
    · by_cases h2 : a.n = depth - 1 - i
      · simp [hi, h1, h2]
      · simp [hi, h1, h2]
    · simp [hi, h1]
  · have h0 : p - i = 0 := by omega
    have h1 : p - (i + 1) = 0 := by omega
    rw [h1, List.take_zero, List.map_nil, varsDown] at ih
    rw [h0, List.take_zero, List.map_nil, varsDown]
    simp only [hi, decide_false, Bool.false_and, Bool.false_or]
    exact ih
theorem any_town (nm : ByteArray) (l : List Tm) : ((l.map town).any fun t => tment t nm) = (l.any fun t => rment t nm) := by
 rw [List.any_map]
 congr 1
 funext t
 show tment (town t) nm = rment t nm
 rw [tment_eq, rment_town]
theorem any_ment (nm : ByteArray) (l : List Tm) : (l.any fun t => tment t nm) = (l.any fun t => rment t nm) := by
 congr 1
 funext t
 rw [tment_eq]
/-- The ends of a row. -/
theorem ends_eq (nm : ByteArray) (m p idx : Nat) (t : Tm) (depth : Int) :
    tends nm p idx (tself nm m) t (depth - 1) = (if rend nm m p idx t depth = 1 then (false, false) else (true, decide (rend nm m p idx t depth = 2))) := by
 unfold tends rend
 rw [self_eq, tSame_eq]
 cases hg : rgreat t with
 | true =>
  have e1 : (tspine t).1 = t := by rw [tspine_eq, if_pos hg]
  have e2 : (rspine t).1 = t := by unfold rspine; rw [hg]; rfl
  have e3 : rSame t (rself nm m) = false := by unfold rSame; rw [hg]; rfl
  rw [e1, e2, e3]
  simp
 | false =>
  have hft : ¬ (false = true) := by decide
  have es : tspine t = (town (rspine t).1, (rspine t).2.map town) := by rw [tspine_eq, hg, if_neg hft]
  have hng : ∀ x ∈ (rspine t).2, rgreat x = false := by
   unfold rspine; rw [hg, if_neg hft]
   exact (rspF_not_great _ t [] hg (by simp)).2
  rw [es]
  simp only
  rw [rSame_town, List.length_map, ← List.map_take, ← List.map_drop, any_town]
  have hd := down_eq p depth (rspine t).2 0 hng
  have e1 : depth - 1 - ((0 : Nat) : Int) = depth - 1 := by omega
  rw [e1, Nat.sub_zero] at hd
  rw [hd]
  cases (rSame (rspine t).1 (rself nm m) && decide ((rspine t).2.length = p + idx)) with
  | false => rfl
  | true =>
   cases rbad p depth 0 (rspine t).2 with
   | true => rfl
   | false =>
    cases (((rspine t).2.drop p).any fun t => rment t nm) with
    | true => rfl
    | false => rfl
theorem rend_cases (nm : ByteArray) (m p idx : Nat) (t : Tm) (depth : Int) : rend nm m p idx t depth = 0 ∨ rend nm m p idx t depth = 1 ∨ rend nm m p idx t depth = 2 := by
 unfold rend
 split
 · exact .inr (.inl rfl)
 · split
   · exact .inr (.inl rfl)
   · split
     · exact .inr (.inr rfl)
     · exact .inl rfl
theorem allSame_eq : ∀ (l r : List Tm), allSame l r = allRS l r
 | a :: l, b :: r => by rw [allSame, allRS, tSame_eq, allSame_eq l r]
 | [], r => by rw [allSame, allRS] <;> (intros; simp_all)
 | _ :: _, [] => by rw [allSame, allRS] <;> (intros; simp_all)
theorem ctorF_eq (nm : ByteArray) (m p idx : Nat) : ∀ (l : List Tm) (i : Nat) (sl : List (Int × Int)), ctorF nm p idx (tself nm m) i sl l = rctorF nm m p idx (((i + l.length : Nat) : Int)) i sl l
 | [], i, sl => by rw [ctorF, rctorF]; rfl
 | a :: l, i, sl => by
  have ih := ctorF_eq nm m p idx l (i + 1)
  have e1 : i + 1 + l.length = i + (a :: l).length := by simp; omega
  rw [e1] at ih
  have e2 : (p : Int) + i + (trow a).1.length - 1 = ((p : Int) + i + (trow a).1.length) - 1 := rfl
  rw [ctorF, rctorF, tment_eq, any_ment, ends_eq, ih, ih]
  rcases rend_cases nm m p idx (trow a).2 ((p : Int) + i + (trow a).1.length) with h | h | h
  · rw [h]; simp
  · rw [h]; simp
  · rw [h]; simp
theorem ctor_eq (nm : ByteArray) (m p idx : Nat) (doms : List Tm) (t : Tm) : tctor nm p idx (tself nm m) doms t = rctor nm m p idx doms t := by
 unfold tctor rctor
 by_cases h1 : (trow t).1.length < p
 · rw [if_pos h1, if_pos h1]
 · rw [if_neg h1, if_neg h1, allSame_eq, ends_eq, ctorF_eq]
   have e1 : 0 + ((trow t).1.drop p).length = (trow t).1.length - p := by simp
   have e2 : (((0 + ((trow t).1.drop p).length : Nat) : Int)) = ((trow t).1.length : Int) - p := by rw [e1]; omega
   rw [e2]
   rcases rend_cases nm m p idx (trow t).2 (trow t).1.length with h | h | h
   · rw [h]; simp
   · rw [h]; simp
   · rw [h]; simp
theorem of_eq (dk : Int) (nm : ByteArray) (vs pa : Int) (ty : Tm) (cts : List (ByteArray × Tm)) :
    (tof dk nm vs pa ty cts).2 = (rof dk nm vs pa ty cts).2 ∧ (tof dk nm vs pa ty cts).1.1 = (rof dk nm vs pa ty cts).1.1 ∧ (tof dk nm vs pa ty cts).1.2.2 = (rof dk nm vs pa ty cts).1.2.2 ∧
     ((tof dk nm vs pa ty cts).2 = 0 → (tof dk nm vs pa ty cts).1.2.1 = lown (rof dk nm vs pa ty cts).1.2.1) ∧ ((tof dk nm vs pa ty cts).2 ≠ 0 → (tof dk nm vs pa ty cts).1 = zshape) := by
 have hc : tctor nm pa.toNat ((trow ty).1.length - pa.toNat) (tself nm vs.toNat) (trow ty).1 = rctor nm vs.toNat pa.toNat ((trow ty).1.length - pa.toNat) (trow ty).1 := by
  funext t
  exact ctor_eq ..
 have hp : ∀ l, lplus 0 l = lown l := fun l => by unfold lplus; rw [if_pos (by decide)]
 unfold tof rof
 rw [hc]
 by_cases h1 : dk ≠ 3 ∨ pa < 0 ∨ vs < 0 ∨ 6 < vs
 · rw [if_pos h1, if_pos h1]
   exact ⟨rfl, rfl, rfl, fun h => absurd h (by decide), fun _ => rfl⟩
 · rw [if_neg h1, if_neg h1]
   by_cases h2 : (trow ty).2.k ≠ 2 ∨ (((trow ty).1.length : Nat) : Int) < pa
   · rw [if_pos h2, if_pos h2]
     exact ⟨rfl, rfl, rfl, fun h => absurd h (by decide), fun _ => rfl⟩
   · rw [if_neg h2, if_neg h2]
     by_cases h3 : (ofF (rctor nm vs.toNat pa.toNat ((trow ty).1.length - pa.toNat) (trow ty).1) cts []).2 = 0
     · rw [if_pos h3, if_pos h3]
       exact ⟨rfl, rfl, rfl, fun _ => hp _, fun h => absurd rfl h⟩
     · rw [if_neg h3, if_neg h3]
       exact ⟨rfl, rfl, rfl, fun h => absurd h h3, fun _ => rfl⟩
theorem same_refl (n : Nm) : n.same n = true := by unfold Nm.same; simp
theorem req_self {l : Lv} (h : rsound l = true) : req (lown l) l = true := by
 rw [req_own]; unfold req; rw [h, same_refl]; rfl
/-- The law of ShapeOf, where the declaration is light. -/
theorem shape_law (dk : Int) (nm : ByteArray) (vs pa : Int) (ty : Tm) (cts : List (ByteArray × Tm)) :
    ((tof dk nm vs pa ty cts).2 = (rof dk nm vs pa ty cts).2) ∧
    ((tof dk nm vs pa ty cts).2 ≠ 0 → (tof dk nm vs pa ty cts).1 = zshape) ∧
    ((tof dk nm vs pa ty cts).2 = 0 → sameSh (tof dk nm vs pa ty cts).1 (rof dk nm vs pa ty cts).1 = true ∨ rsound (rof dk nm vs pa ty cts).1.2.1 = false) := by
 obtain ⟨h1, h2, h3, h4, h5⟩ := of_eq dk nm vs pa ty cts
 refine ⟨h1, h5, fun h => ?_⟩
 cases hs : rsound (rof dk nm vs pa ty cts).1.2.1 with
 | false => exact .inr rfl
 | true =>
  left
  unfold sameSh
  rw [h2, h3, h4 h, req_self hs]
  simp
end Go.Proofs.Ytiampoebdmflgaa

/- What the law's small declaration looks like. -/
namespace Go.Proofs.Ytiampoebdmflgaa
open Go.RowKit
set_option linter.unusedVariables false
set_option maxRecDepth 100000
set_option maxHeartbeats 4000000
def natN : ByteArray := { data := #[110] }
def natC : Tm := .mk 7 0 natN lzero' [] []
def natS : Tm := .mk 2 0 ByteArray.empty (.mk 1 0 []) [] []
def natP : Tm := .mk 3 0 ByteArray.empty lzero' [] [natC, natC]
def natCs : List (ByteArray × Tm) := [({ data := #[122] }, natC), ({ data := #[115] }, natP)]
theorem nat_of : tof 3 natN 0 0 natS natCs = ((0, .mk 1 0 [], [(0, []), (1, [(0, 0)])]), 0) := by kernel_rfl
end Go.Proofs.Ytiampoebdmflgaa

/- The law's awake. -/
namespace Go.Proofs.Ytiampoebdmflgaa
open Go.RowKit
set_option linter.unusedVariables false
set_option maxRecDepth 100000
set_option maxHeartbeats 8000000
set_option linter.unusedSimpArgs false
section
variable {P : Program} {ops : Array Oper} {Q : Exit → Act → World → Prop} {md : Region.Mode} {S : World → Prop}
/-- One of two comes up first, ahead of z. -/
theorem wpAnyE_br {z i j : Nat} {oi oj : Oper} {fuel : Nat} {listed : Array Bool} {a : Act} {w : World} (hr : Region.ready md ops listed = [i, j]) (hiz : (i == z) = false) (hjz : (j == z) = false)
    (hoi : ops[i]? = some oi) (hoj : ops[j]? = some oj) (hgi : Region.wanted oi (yielded ops a.tmps) = true) (hgj : Region.wanted oj (yielded ops a.tmps) = true)
    (h1 : ∀ K : Act → World → Prop, (∀ a' w', S w' → wpAnyE P md ops Q S z fuel (listed.setIfInBounds i true) a' w' → K a' w') → oi.wp P a w K Q)
    (h2 : ∀ K : Act → World → Prop, (∀ a' w', S w' → wpAnyE P md ops Q S z fuel (listed.setIfInBounds j true) a' w' → K a' w') → oj.wp P a w K Q) : wpAnyE P md ops Q S z (fuel + 1) listed a w := by
 refine ⟨fun h => (by rw [hr] at h; cases h), fun q hq => ?_⟩
 rw [hr] at hq
 have hi' : i ≠ z := by simpa using hiz
 have hj' : j ≠ z := by simpa using hjz
 rcases List.mem_cons.1 hq with rfl | hq
 · unfold wpOp
   rw [hoi]
   simp only [hgi, if_true]
   exact .inl (h1 _ fun a' w' h1 h2 => ⟨fun _ => ⟨h1, h2⟩, fun h => absurd h hi'⟩)
 · obtain rfl : q = j := by simpa using hq
   unfold wpOp
   rw [hoj]
   simp only [hgj, if_true]
   exact .inl (h2 _ fun a' w' h1 h2 => ⟨fun _ => ⟨h1, h2⟩, fun h => absurd h hj'⟩)
end
theorem ge_ne {s g : Nat} (h : g < s) : ∀ q, s ≤ q → q ≠ g := fun q hq e => by omega
/-- Blocks that are there and may be. -/
def DI (I : Nat → Prop) (w : World) : Nat → Prop := fun q => q < w.heap.size ∧ I q
theorem DI_in (I : Nat → Prop) (w : World) : Within (DI I w) w := fun _ h => h.1
theorem DI_old {I : Nat → Prop} {w w' : World} (h : Upd nob w w') : Old (DI I w) w w' := fun q hq => h.block q hq.1 (fun f => f)
theorem DI_up {I : Nat → Prop} {w w' : World} (h : Upd nob w w') : ∀ q, DI I w q → DI I w' q := fun _ hq => ⟨Nat.lt_of_lt_of_le hq.1 h.size, hq.2⟩
/-- What of a shape awake reads. -/
def FR (I : Nat → Prop) (w : World) (sc : Array Value) : Prop :=
 ∃ (x y z : Value) (ab ao : Nat) (ac : Option Nat) (c : Nat) (b : Option Addr) (d : Nat), sc = #[.int .i64 0, x, y, z, .slice (some ⟨ab, ao, ac⟩) 2 c] ∧ sc.all (·.oneCell') = true ∧ DI I w ab ∧ w.cell? ⟨ab, ao + 2, none⟩ = some (.int .i64 1) ∧ w.cell? ⟨ab, ao + 3, none⟩ = some (.slice b 1 d)
theorem FR.upd {I : Nat → Prop} {w w' : World} {sc : Array Value} (h : FR I w sc) {S : Nat → Prop} (hu : Upd S w w') (hS : ∀ q, S q → ¬ DI I w q) {I' : Nat → Prop} (hI : ∀ q, DI I w q → I' q) : FR I' w' sc := by
 obtain ⟨x, y, z, ab, ao, ac, c, b, d, h1, h2, h3, h4, h5⟩ := h
 exact ⟨x, y, z, ab, ao, ac, c, b, d, h1, h2, ⟨Nat.lt_of_lt_of_le h3.1 hu.size, hI _ h3⟩, (hu.cell (p := ⟨ab, ao + 2, none⟩) h3.1 (fun h => hS _ h h3)).trans h4, (hu.cell (p := ⟨ab, ao + 3, none⟩) h3.1 (fun h => hS _ h h3)).trans h5⟩
theorem natC_lit {w : World} {cs : Array Value} (h : TmIs nob w natC cs) : ∃ x1 y1 z1 A1 c1 A2 c2, cs = #[.int .i64 7, .int .i64 0, .string natN, x1, y1, z1, .slice A1 0 c1, .slice A2 0 c2] := by
 obtain ⟨x1, y1, z1, A1, c1, A2, c2, h, _⟩ := h.lit
 exact ⟨x1, y1, z1, A1, c1, A2, c2, h⟩
theorem natP_lit {D : Nat → Prop} {w : World} {cs : Array Value} (h : TmIs D w natP cs) : ∃ x2 y2 z2 B1 d1 B2 d2, cs = #[.int .i64 3, .int .i64 0, .string ByteArray.empty, x2, y2, z2, .slice B1 0 d1, .slice B2 2 d2] := by
 obtain ⟨x1, y1, z1, A1, c1, A2, c2, h, _⟩ := h.lit
 exact ⟨x1, y1, z1, A1, c1, A2, c2, h⟩
theorem nat_bind {I : Nat → Prop} (w : World) (hI : ∀ q, w.heap.size ≤ q → I q) (cn : Array Value) (hN : TmIs nob w natC cn) :
    Calls Try.prog 18 #[.int .i64 3, .agg cn, .agg cn] w fun e w' => ∃ x2 y2 z2 B1 d1 B2 d2, e = .returned (.agg #[.int .i64 3, .int .i64 0, .string ByteArray.empty, x2, y2, z2, .slice B1 0 d1, .slice B2 2 d2]) ∧ TmIs (DI I w') w' natP #[.int .i64 3, .int .i64 0, .string ByteArray.empty, x2, y2, z2, .slice B1 0 d1, .slice B2 2 d2] ∧ Below w.heap.size w w' := by
 refine (rbind_any 3 (by unfold InI; omega) natC natC cn cn nob w (fun _ f => f.elim) hN hN).mono ?_
 rintro e w' ⟨cs, rfl, h1, h2⟩
 have h3 : TmIs (DI I w') w' natP cs := h1.old (Old.refl _ _) (fun q hq => hq.elim (fun f => f.elim) fun h => ⟨h.2, hI q h.1⟩)
 obtain ⟨x2, y2, z2, B1, d1, B2, d2, rfl⟩ := natP_lit h3
 exact ⟨x2, y2, z2, B1, d1, B2, d2, rfl, h3, h2⟩
theorem nat_ctors {I : Nat → Prop} (w : World) (hI : ∀ q, w.heap.size ≤ q → I q) (x1 y1 z1 : Value) (A1 A2 : Option Addr) (c1 c2 : Nat) (x2 y2 z2 : Value) (B1 B2 : Option Addr) (d1 d2 : Nat) (hN : TmIs nob w natC #[.int .i64 7, .int .i64 0, .string natN, x1, y1, z1, .slice A1 0 c1, .slice A2 0 c2]) (hP : TmIs (DI I w) w natP #[.int .i64 3, .int .i64 0, .string ByteArray.empty, x2, y2, z2, .slice B1 0 d1, .slice B2 2 d2]) :
    CtorsAt (DI I (w.alloc (.cells #[.string { data := #[122] }, .int .i64 7, .int .i64 0, .string natN, x1, y1, z1, .slice A1 0 c1, .slice A2 0 c2, .string { data := #[115] }, .int .i64 3, .int .i64 0, .string ByteArray.empty, x2, y2, z2, .slice B1 0 d1, .slice B2 2 d2] 46))) (w.alloc (.cells #[.string { data := #[122] }, .int .i64 7, .int .i64 0, .string natN, x1, y1, z1, .slice A1 0 c1, .slice A2 0 c2, .string { data := #[115] }, .int .i64 3, .int .i64 0, .string ByteArray.empty, x2, y2, z2, .slice B1 0 d1, .slice B2 2 d2] 46)) natCs (some ⟨w.heap.size, 0, none⟩) := by
 have hb := Blk.new w 46 (#[.string { data := #[122] }, .int .i64 7, .int .i64 0, .string natN, x1, y1, z1, .slice A1 0 c1, .slice A2 0 c2] ++ #[.string { data := #[115] }, .int .i64 3, .int .i64 0, .string ByteArray.empty, x2, y2, z2, .slice B1 0 d1, .slice B2 2 d2])
 have hu : Upd nob w (w.alloc (.cells #[.string { data := #[122] }, .int .i64 7, .int .i64 0, .string natN, x1, y1, z1, .slice A1 0 c1, .slice A2 0 c2, .string { data := #[115] }, .int .i64 3, .int .i64 0, .string ByteArray.empty, x2, y2, z2, .slice B1 0 d1, .slice B2 2 d2] 46)) := (Upd.refl nob w).alloc _
 have hg : DI I (w.alloc (.cells #[.string { data := #[122] }, .int .i64 7, .int .i64 0, .string natN, x1, y1, z1, .slice A1 0 c1, .slice A2 0 c2, .string { data := #[115] }, .int .i64 3, .int .i64 0, .string ByteArray.empty, x2, y2, z2, .slice B1 0 d1, .slice B2 2 d2] 46)) w.heap.size := ⟨by simp, hI _ (Nat.le_refl _)⟩
 have hr1 : rowAt (w.alloc (.cells #[.string { data := #[122] }, .int .i64 7, .int .i64 0, .string natN, x1, y1, z1, .slice A1 0 c1, .slice A2 0 c2, .string { data := #[115] }, .int .i64 3, .int .i64 0, .string ByteArray.empty, x2, y2, z2, .slice B1 0 d1, .slice B2 2 d2] 46)) ((⟨w.heap.size, 0, none⟩ : Addr).add (0 * 9)) #[.string { data := #[122] }, .int .i64 7, .int .i64 0, .string natN, x1, y1, z1, .slice A1 0 c1, .slice A2 0 c2] := sub_row hb.rowAt _ _ fun j v hv => by
  have hj : j < (#[.string { data := #[122] }, .int .i64 7, .int .i64 0, .string natN, x1, y1, z1, .slice A1 0 c1, .slice A2 0 c2] : Array Value).size := (Array.getElem?_eq_some_iff.1 hv).1
  rw [Nat.zero_mul, Nat.zero_add, Array.getElem?_append_left hj]; exact hv
 have hr2 : rowAt (w.alloc (.cells #[.string { data := #[122] }, .int .i64 7, .int .i64 0, .string natN, x1, y1, z1, .slice A1 0 c1, .slice A2 0 c2, .string { data := #[115] }, .int .i64 3, .int .i64 0, .string ByteArray.empty, x2, y2, z2, .slice B1 0 d1, .slice B2 2 d2] 46)) ((⟨w.heap.size, 0, none⟩ : Addr).add (1 * 9)) #[.string { data := #[115] }, .int .i64 3, .int .i64 0, .string ByteArray.empty, x2, y2, z2, .slice B1 0 d1, .slice B2 2 d2] := sub_row hb.rowAt _ _ fun j v hv => by
  have h9 : (#[.string { data := #[122] }, .int .i64 7, .int .i64 0, .string natN, x1, y1, z1, .slice A1 0 c1, .slice A2 0 c2] : Array Value).size = 9 := rfl
  rw [Array.getElem?_append_right (by rw [h9]; omega), h9, Nat.one_mul, Nat.add_sub_cancel_left]; exact hv
 intro j x hj
 match j with
 | 0 =>
  have : x = ({ data := #[122] }, natC) := by simpa [natCs] using hj.symm
  subst this
  exact ⟨_, #[.int .i64 7, .int .i64 0, .string natN, x1, y1, z1, .slice A1 0 c1, .slice A2 0 c2], rfl, hg, hr1, hN.old (Old.of_upd hu fun _ f => f.elim) (fun _ f => f.elim)⟩
 | 1 =>
  have : x = ({ data := #[115] }, natP) := by simpa [natCs] using hj.symm
  subst this
  exact ⟨_, #[.int .i64 3, .int .i64 0, .string ByteArray.empty, x2, y2, z2, .slice B1 0 d1, .slice B2 2 d2], rfl, hg, hr2, hP.old (DI_old hu) (DI_up hu)⟩
 | j + 2 => simp [natCs] at hj
theorem natS_is (D : Nat → Prop) (w : World) : TmIs D w natS #[.int .i64 2, .int .i64 0, .string ByteArray.empty, .int .i64 1, .int .i64 0, .slice none 0 0, .slice none 0 0, .slice none 0 0] := by
 simp only [natS, TmIs]
 refine ⟨_, _, _, none, 0, none, 0, rfl, by unfold InI; omega, by unfold InI; omega, by simp, ?_, ⟨by simp, by simp⟩, by simp only [LvsAt], ⟨by simp, by simp⟩, by simp only [TmsAt]⟩
 simp only [LvIs]
 exact ⟨none, 0, rfl, by unfold InI; omega, by unfold InI; omega, ⟨by simp, by simp⟩, by simp only [LvsAt]⟩
theorem nat_shape {I : Nat → Prop} (w : World) (hI : ∀ q, w.heap.size ≤ q → I q) (h : Nat) (hC : CtorsAt (DI I w) w natCs (some ⟨h, 0, none⟩)) :
    Calls Try.prog 10 #[.agg #[.int .i64 3, .string natN, .int .i64 0, .int .i64 2, .int .i64 0, .string ByteArray.empty, .int .i64 1, .int .i64 0, .slice none 0 0, .slice none 0 0, .slice none 0 0, .int .i64 0, .int .i64 0, .string ByteArray.empty, .int .i64 0, .int .i64 0, .slice none 0 0, .slice none 0 0, .slice none 0 0, .int .i64 0, .slice (some ⟨h, 0, none⟩) 2 2]] w fun e w' => ∃ sc, e = .returned (.tuple #[.agg sc, .int .i64 0]) ∧ FR I w' sc ∧ Below w.heap.size w w' := by
 refine (tof_any 3 natN 0 0 natS natCs _ _ _ _ _ _ _ _ _ _ _ _ _ _ _ _ (some ⟨h, 0, none⟩) 2 (DI I w) w (DI_in I w) (natS_is _ _) (by decide) hC (by decide) (by decide) (by decide)).mono ?_
 rintro e w' ⟨cs, rfl, hs, hb⟩
 rw [nat_of] at hs
 have e2 : (tof 3 natN 0 0 natS natCs).2 = 0 := by rw [nat_of]
 rw [e2]
 obtain ⟨x, y, z, A, c, rfl, hl, hc⟩ := hs
 obtain ⟨a, cs1, hA, hD, hr, A2, d, hcs, _⟩ := hc 1 (1, [(0, 0)]) rfl
 obtain ⟨ab, ao, ac⟩ := a
 subst hA
 subst hcs
 refine ⟨_, rfl, ⟨x, y, z, ab, ao, ac, c, A2, d, rfl, ?_, ?_, by simpa [Addr.add] using hr 0 (.int .i64 1) rfl, by simpa [Addr.add] using hr 1 (.slice A2 1 d) rfl⟩, hb⟩
 · have h1 := hl.oneCell.2
   simp [Value.oneCell'] at h1 ⊢
   exact h1
 · rcases hD with hD | hD
   · exact ⟨Nat.lt_of_lt_of_le hD.1 (Upd.of_below (S := nob) hb).size, hD.2⟩
   · exact ⟨hD.2, hI _ hD.1⟩
set_option maxHeartbeats 16000000 in
theorem awake_any (w : World) : Calls Try.prog 9 #[] w fun e w' => e = .returned (.bool true) ∧ Below w.heap.size w w' := by
 have hz := tm_zero
 have hz2 := sh_zero
 go_enter Try.func9, Try.ntmps9
 go_wp2_with fail
 refine (rsort_any 1 0 none 0 0 w).mono ?_
 rintro e w1 ⟨rfl, hb1⟩
 have hu1 : Upd nob w w1 := Upd.of_below hb1
 go_wp2_with fail
 obtain ⟨W2, hW2⟩ : ∃ W2, w1.alloc (.cells #[.int .i64 2, .int .i64 0, .string ByteArray.empty, .int .i64 1, .int .i64 0, .slice none 0 0, .slice none 0 0, .slice none 0 0] 27) = W2 := ⟨_, rfl⟩
 have hu2 : Upd nob w1 W2 := by rw [← hW2]; exact (Upd.refl nob w1).alloc _
 have hb2 : Blk W2 w1.heap.size 27 #[.int .i64 2, .int .i64 0, .string ByteArray.empty, .int .i64 1, .int .i64 0, .slice none 0 0, .slice none 0 0, .slice none 0 0] := by rw [← hW2]; exact Blk.new w1 _ _
 rw [hW2]
 clear hW2
 have HB2 := Lib.hid hb2
 have HB1 := Lib.hid hb1
 clear hb2 hb1
 refine (rconst_any natN (by decide) [] none 0 nob W2 (fun _ f => f.elim) (by simp) (by simp only [LvsAt])).mono ?_
 rintro e w3 ⟨cn, rfl, hN, hb3⟩
 have hu3 : Upd nob W2 w3 := Upd.of_below hb3
 have hN' : TmIs nob w3 natC cn := hN
 obtain ⟨x1, y1, z1, A1, c1, A2, c2, rfl⟩ := natC_lit hN'
 have HN := Lib.hid hN'
 have HB3 := Lib.hid hb3
 have HS := Lib.hid (hN'.oneCell)
 clear hN hN' hb3
 go_wp2_with (first
  | ((with_reducible refine this_op (.store 27 (.tmp 2) (.tmp 7)) ?_); refine wpList_store_row rfl 27 (.tmp 2) (.tmp 7) rfl w3.heap.size _ rfl rfl 27 _ (Blk.new w3 _ _) tm_size rfl HS.out.2 ?_))
 obtain ⟨W4, hW4⟩ : ∃ W4, (w3.alloc (.cells #[.int .i64 0, .int .i64 0, .string ByteArray.empty, .int .i64 0, .int .i64 0, .slice none 0 0, .slice none 0 0, .slice none 0 0] 27)).setRow w3.heap.size #[.int .i64 7, .int .i64 0, .string natN, x1, y1, z1, .slice A1 0 c1, .slice A2 0 c2] = W4 := ⟨_, rfl⟩
 have hu4 : Upd nob w3 W4 := by rw [← hW4]; exact ((Upd.refl nob w3).alloc _).setRow (.inr (Nat.le_refl _)) _
 have hb4 : Blk W4 w3.heap.size 27 #[.int .i64 7, .int .i64 0, .string natN, x1, y1, z1, .slice A1 0 c1, .slice A2 0 c2] := by rw [← hW4]; exact (Blk.new w3 _ _).row _
 rw [hW4]
 clear hW4
 have hu04 : Upd nob w W4 := ((hu1.trans hu2).trans hu3).trans hu4
 have hb24 := (HB2.out.upd hu3 (fun f => f)).upd hu4 (fun f => f)
 have r1 := hb24.rowAt
 have r2 := hb4.rowAt
 have hlt1 := hb24.lt
 have hlt2 := hb4.lt
 have HN4 := Lib.hid (HN.out.old (D' := nob) (Old.of_upd hu4 fun _ f => f.elim) (fun _ f => f.elim))
 clear HN HB2 hb24 hb4 HB1 HB3
 refine wp_region_P (by kernel_rfl) ?_
 refine wpAny_of_E (fun X : World => ∀ p : Addr, p.block < W4.heap.size → X.cell? p = W4.cell? p) 15 _ _ _ _ ?_
 have hS : ∀ p : Addr, p.block < W4.heap.size → W4.drew.cell? p = W4.cell? p := fun _ _ => rfl
 refine wpAnyE_take (i := 0) (v := (.agg #[.int .i64 2, .int .i64 0, .string ByteArray.empty, .int .i64 1, .int .i64 0, .slice none 0 0, .slice none 0 0, .slice none 0 0])) [] rfl (by kernel_rfl) (fun _ _ _ h => h) (Or.inl ⟨by rfl, ?_⟩) hS ?_
 · intro wx hx
   exact run_load_at 27 (.tmp 1) rfl ⟨w1.heap.size, 0, none⟩ rfl #[.int .i64 2, .int .i64 0, .string ByteArray.empty, .int .i64 1, .int .i64 0, .slice none 0 0, .slice none 0 0, .slice none 0 0] _ (row_on r1 hlt1 hx) Try.underlying27 rfl tm_size
 try simp only [tl]
 refine wpAnyE_take (i := 1) (v := (.agg #[.int .i64 7, .int .i64 0, .string natN, x1, y1, z1, .slice A1 0 c1, .slice A2 0 c2])) [] rfl (by kernel_rfl) (fun _ _ _ h => h) (Or.inl ⟨by rfl, ?_⟩) hS ?_
 · intro wx hx
   exact run_load_at 27 (.tmp 2) rfl ⟨w3.heap.size, 0, none⟩ rfl #[.int .i64 7, .int .i64 0, .string natN, x1, y1, z1, .slice A1 0 c1, .slice A2 0 c2] _ (row_on r2 hlt2 hx) Try.underlying27 rfl tm_size
 try simp only [tl]
 refine wpAnyE_take (i := 2) (v := ?_) [] rfl (by kernel_rfl) (fun _ _ _ h => h) (Or.inl ⟨by rfl, ?_⟩) hS ?_
 rotate_left
 · intro wx hx
   clear hx
   go_simp
   with_reducible rfl
 try simp only [tl]
 refine wpAnyE_take (i := 3) (v := (.agg #[.int .i64 7, .int .i64 0, .string natN, x1, y1, z1, .slice A1 0 c1, .slice A2 0 c2])) [] rfl (by kernel_rfl) (fun _ _ _ h => h) (Or.inl ⟨by rfl, ?_⟩) hS ?_
 · intro wx hx
   exact run_load_at 27 (.tmp 2) rfl ⟨w3.heap.size, 0, none⟩ rfl #[.int .i64 7, .int .i64 0, .string natN, x1, y1, z1, .slice A1 0 c1, .slice A2 0 c2] _ (row_on r2 hlt2 hx) Try.underlying27 rfl tm_size
 try simp only [tl]
 refine wpAnyE_take (i := 4) (v := (.agg #[.int .i64 7, .int .i64 0, .string natN, x1, y1, z1, .slice A1 0 c1, .slice A2 0 c2])) [] rfl (by kernel_rfl) (fun _ _ _ h => h) (Or.inl ⟨by rfl, ?_⟩) hS ?_
 · intro wx hx
   exact run_load_at 27 (.tmp 2) rfl ⟨w3.heap.size, 0, none⟩ rfl #[.int .i64 7, .int .i64 0, .string natN, x1, y1, z1, .slice A1 0 c1, .slice A2 0 c2] _ (row_on r2 hlt2 hx) Try.underlying27 rfl tm_size
 try simp only [tl]
 refine wpAnyE_br (i := 5) (j := 13) (by kernel_rfl) (by kernel_rfl) (by kernel_rfl) rfl rfl (by rfl) (by rfl) (fun K hK => ?_) (fun K hK => ?_)
 · go_simp
   refine (nat_bind (I := fun _ => True) W4.drew (fun _ _ => trivial) _ (HN4.out.old (D' := nob) (Old.of_upd ((Upd.refl nob W4).drew) fun _ f => f.elim) (fun _ f => f.elim))).mono ?_
   rintro e w5 ⟨x2, y2, z2, B1, d1, B2, d2, rfl, hP5, hb5⟩
   have hu5 : Upd nob W4.drew w5 := Upd.of_below hb5
   have hu45 : Upd nob W4 w5 := ((Upd.refl nob W4).drew).trans hu5
   refine hK _ _ (cells_of_upd hu45) ?_
   clear hK K
   try simp only [tl]
   have hS : ∀ p : Addr, p.block < W4.heap.size → w5.cell? p = W4.cell? p := cells_of_upd hu45
   have HP5 := Lib.hid hP5
   clear hP5 hb5
   refine wpAnyE_take (i := 6) (v := ?_) [] rfl (by kernel_rfl) (fun _ _ _ h => h) (Or.inl ⟨by rfl, ?_⟩) hS ?_
   rotate_left
   · intro wx hx
     clear hx
     go_simp
     with_reducible rfl
   try simp only [tl]
   refine wpAnyE_br (i := 7) (j := 13) (by kernel_rfl) (by kernel_rfl) (by kernel_rfl) rfl rfl (by rfl) (by rfl) (fun K hK => ?_) (fun K hK => ?_)
   · go_simp
     obtain ⟨w7, hw7⟩ : ∃ w7, w5.alloc (.cells #[.string { data := #[122] }, .int .i64 7, .int .i64 0, .string natN, x1, y1, z1, .slice A1 0 c1, .slice A2 0 c2, .string { data := #[115] }, .int .i64 3, .int .i64 0, .string ByteArray.empty, x2, y2, z2, .slice B1 0 d1, .slice B2 2 d2] 46) = w7 := ⟨_, rfl⟩
     have hu7 : Upd nob w5 w7 := by rw [← hw7]; exact (Upd.refl nob w5).alloc _
     have hC7 : CtorsAt (DI (fun _ => True) w7) w7 natCs (some ⟨w5.heap.size, 0, none⟩) := by
      rw [← hw7]
      exact nat_ctors w5 (fun _ _ => trivial) _ _ _ _ _ _ _ _ _ _ _ _ _ _ (HN4.out.old (D' := nob) (Old.of_upd (hu45) fun _ f => f.elim) (fun _ f => f.elim)) (HP5.out)
     rw [hw7]
     clear hw7
     have hu47 : Upd nob W4 w7 := (hu45).trans hu7
     refine hK _ _ (cells_of_upd hu47) ?_
     clear hK K
     try simp only [tl]
     have hS : ∀ p : Addr, p.block < W4.heap.size → w7.cell? p = W4.cell? p := cells_of_upd hu47
     have HC7 := Lib.hid hC7
     clear hC7
     refine wpAnyE_take (i := 8) (v := ?_) [] rfl (by kernel_rfl) (fun _ _ _ h => h) (Or.inl ⟨by rfl, ?_⟩) hS ?_
     rotate_left
     · intro wx hx
       clear hx
       go_simp
       with_reducible rfl
     try simp only [tl]
     refine wpAnyE_br (i := 9) (j := 13) (by kernel_rfl) (by kernel_rfl) (by kernel_rfl) rfl rfl (by rfl) (by rfl) (fun K hK => ?_) (fun K hK => ?_)
     · go_simp
       refine (nat_shape (I := fun _ => True) w7 (fun _ _ => trivial) _ (HC7.out)).mono ?_
       rintro e w9 ⟨sc, rfl, hF9, hb9⟩
       have hu9 : Upd nob w7 w9 := Upd.of_below hb9
       have hu49 : Upd nob W4 w9 := (hu47).trans hu9
       refine hK _ _ (cells_of_upd hu49) ?_
       clear hK K
       try simp only [tl]
       have hS : ∀ p : Addr, p.block < W4.heap.size → w9.cell? p = W4.cell? p := cells_of_upd hu49
       have HF9 := Lib.hid hF9
       clear hF9 hb9
       refine wpAnyE_take (i := 10) (v := ?_) [] rfl (by kernel_rfl) (fun _ _ _ h => h) (Or.inl ⟨by rfl, ?_⟩) hS ?_
       rotate_left
       · intro wx hx
         clear hx
         go_simp
         with_reducible rfl
       try simp only [tl]
       refine wpAnyE_take (i := 11) (v := ?_) [] rfl (by kernel_rfl) (fun _ _ _ h => h) (Or.inl ⟨by rfl, ?_⟩) hS ?_
       rotate_left
       · intro wx hx
         clear hx
         go_simp
         with_reducible rfl
       try simp only [tl]
       refine wpAnyE_take (i := 12) (v := ?_) [] rfl (by kernel_rfl) (fun _ _ _ h => h) (Or.inl ⟨by rfl, ?_⟩) hS ?_
       rotate_left
       · intro wx hx
         clear hx
         go_simp
         with_reducible rfl
       try simp only [tl]
       refine wpAnyE_one (i := 13) (by kernel_rfl) (by kernel_rfl) rfl (by rfl) fun K hK => ?_
       go_simp
       have hua4 : Upd nob w9 (w9.alloc (.cells #[.int .i64 0, .int .i64 0, .int .i64 0, .slice none 0 0, .slice none 0 0] 35)) := (Upd.refl nob w9).alloc _
       obtain ⟨wa4, hwa4⟩ : ∃ wa, w9.alloc (.cells #[.int .i64 0, .int .i64 0, .int .i64 0, .slice none 0 0, .slice none 0 0] 35) = wa := ⟨_, rfl⟩
       have hbga4 : Blk wa4 w9.heap.size 35 #[.int .i64 0, .int .i64 0, .int .i64 0, .slice none 0 0, .slice none 0 0] := by rw [← hwa4]; exact Blk.new w9 _ _
       have hsza4 : wa4.heap.size = w9.heap.size + 1 := by rw [← hwa4]; simp
       rw [hwa4] at hua4 ⊢
       clear hwa4
       have hu4a4 : Upd nob W4 wa4 := (hu49).trans hua4
       refine hK _ _ (cells_of_upd hu4a4) ?_
       clear hK K
       try simp only [tl]
       have hS : ∀ p : Addr, p.block < W4.heap.size → wa4.cell? p = W4.cell? p := cells_of_upd hu4a4
       have HF9a := Lib.hid (HF9.out.upd hua4 (fun _ f => f.elim) (I' := fun q => q ≠ w9.heap.size) (fun q h => by have := h.1; omega))
       clear hsza4
       have hFF : FR (fun q => q ≠ w9.heap.size) wa4 sc := HF9a.out
       have hbG : Blk wa4 w9.heap.size 35 #[.int .i64 0, .int .i64 0, .int .i64 0, .slice none 0 0, .slice none 0 0] := hbga4
       have hgW : W4.heap.size ≤ w9.heap.size := (by have h1 : W4.heap.size ≤ w9.heap.size := (hu49).size; exact h1)
       obtain ⟨gg, hgg⟩ : ∃ gg, w9.heap.size = gg := ⟨_, rfl⟩
       rw [hgg] at hFF hbG hgW ⊢
       clear hgg
       obtain ⟨x, y, z, ab, ao, ac, c, b, d, rfl, hone, hDI, hq2, hq3⟩ := hFF
       refine wpAnyE_one (i := 14) (by kernel_rfl) (by kernel_rfl) rfl (by rfl) fun K hK => ?_
       refine owp_store_blk 35 (.tmp 3) (.tmp 19) rfl rfl gg _ rfl rfl 35 _ hbG sh_size rfl hone ?_
       have hSF : ∀ p : Addr, p.block < W4.heap.size → (wa4.setRow gg #[.int .i64 0, x, y, z, .slice (some ⟨ab, ao, ac⟩) 2 c]).cell? p = W4.cell? p := fun p hp => (((Upd.refl (fun q => q = gg) wa4).setRow (.inl rfl) _).cell (by have := (hu4a4).size; omega) (fun h => by have : p.block = gg := h; omega)).trans (hS p hp)
       refine hK _ _ hSF ?_
       clear hK K
       try simp only [tl]
       refine wpAnyE_z (by kernel_rfl) rfl (by rfl) fun K hK => ?_
       go_simp
       refine hK _ _ ?_
       clear hK K
       try simp only [tl]
       refine wpAny_done (by kernel_rfl) ?_ _
       refine NoPanic.normal ?_
       have hG := hbG.row #[.int .i64 0, x, y, z, .slice (some ⟨ab, ao, ac⟩) 2 c]
       obtain ⟨WF, hWF⟩ : ∃ WF, wa4.setRow gg #[.int .i64 0, x, y, z, .slice (some ⟨ab, ao, ac⟩) 2 c] = WF := ⟨_, rfl⟩
       have huF : Upd (fun q => q = gg) wa4 WF := by rw [← hWF]; exact (Upd.refl (fun q => q = gg) wa4).setRow (.inl rfl) _
       rw [hWF] at hG ⊢
       clear hWF
       have k2 : WF.cell? ⟨ab, ao + 2, none⟩ = some (.int .i64 1) := (huF.cell (p := ⟨ab, ao + 2, none⟩) hDI.1 (fun h => hDI.2 h)).trans hq2
       have k3 : WF.cell? ⟨ab, ao + 3, none⟩ = some (.slice b 1 d) := (huF.cell (p := ⟨ab, ao + 3, none⟩) hDI.1 (fun h => hDI.2 h)).trans hq3
       have k4 : WF.cell? ⟨gg, 4, none⟩ = some (.slice (some ⟨ab, ao, ac⟩) 2 c) := hG.cell 4
       have hbel : Below w.heap.size w WF := ((hu04.trans (hu4a4)).trans' huF (fun q hq h => by have : q = gg := h; have := hu04.size; omega)).below
       clear hG huF hq2 hq3 hDI hbG
       go_wp2_with fail
       go_ret
       exact ⟨rfl, hbel⟩
     · go_simp
       have hua3 : Upd nob w7 (w7.alloc (.cells #[.int .i64 0, .int .i64 0, .int .i64 0, .slice none 0 0, .slice none 0 0] 35)) := (Upd.refl nob w7).alloc _
       obtain ⟨wa3, hwa3⟩ : ∃ wa, w7.alloc (.cells #[.int .i64 0, .int .i64 0, .int .i64 0, .slice none 0 0, .slice none 0 0] 35) = wa := ⟨_, rfl⟩
       have hbga3 : Blk wa3 w7.heap.size 35 #[.int .i64 0, .int .i64 0, .int .i64 0, .slice none 0 0, .slice none 0 0] := by rw [← hwa3]; exact Blk.new w7 _ _
       have hsza3 : wa3.heap.size = w7.heap.size + 1 := by rw [← hwa3]; simp
       rw [hwa3] at hua3 ⊢
       clear hwa3
       have hu4a3 : Upd nob W4 wa3 := (hu47).trans hua3
       refine hK _ _ (cells_of_upd hu4a3) ?_
       clear hK K
       try simp only [tl]
       have hS : ∀ p : Addr, p.block < W4.heap.size → wa3.cell? p = W4.cell? p := cells_of_upd hu4a3
       have HC7a := Lib.hid (HC7.out.old (D' := DI (fun q => q ≠ w7.heap.size) wa3) (DI_old hua3) (fun q hq => ⟨by have := hq.1; omega, by have := hq.1; omega⟩))
       clear hsza3
       refine wpAnyE_one (i := 9) (by kernel_rfl) (by kernel_rfl) rfl (by rfl) fun K hK => ?_
       go_simp
       refine (nat_shape (I := fun q => q ≠ w7.heap.size) wa3 (ge_ne (hbga3).lt) _ (HC7a.out)).mono ?_
       rintro e w9 ⟨sc, rfl, hF9, hb9⟩
       have hu9 : Upd nob wa3 w9 := Upd.of_below hb9
       have hu49 : Upd nob W4 w9 := (hu4a3).trans hu9
       refine hK _ _ (cells_of_upd hu49) ?_
       clear hK K
       try simp only [tl]
       have hS : ∀ p : Addr, p.block < W4.heap.size → w9.cell? p = W4.cell? p := cells_of_upd hu49
       have HF9 := Lib.hid hF9
       clear hF9 hb9
       have hbg9 := (hbga3).upd hu9 (fun f => f)
       refine wpAnyE_take (i := 10) (v := ?_) [] rfl (by kernel_rfl) (fun _ _ _ h => h) (Or.inl ⟨by rfl, ?_⟩) hS ?_
       rotate_left
       · intro wx hx
         clear hx
         go_simp
         with_reducible rfl
       try simp only [tl]
       refine wpAnyE_take (i := 11) (v := ?_) [] rfl (by kernel_rfl) (fun _ _ _ h => h) (Or.inl ⟨by rfl, ?_⟩) hS ?_
       rotate_left
       · intro wx hx
         clear hx
         go_simp
         with_reducible rfl
       try simp only [tl]
       refine wpAnyE_take (i := 12) (v := ?_) [] rfl (by kernel_rfl) (fun _ _ _ h => h) (Or.inl ⟨by rfl, ?_⟩) hS ?_
       rotate_left
       · intro wx hx
         clear hx
         go_simp
         with_reducible rfl
       try simp only [tl]
       have hFF : FR (fun q => q ≠ w7.heap.size) w9 sc := HF9.out
       have hbG : Blk w9 w7.heap.size 35 #[.int .i64 0, .int .i64 0, .int .i64 0, .slice none 0 0, .slice none 0 0] := hbg9
       have hgW : W4.heap.size ≤ w7.heap.size := (by have h1 : W4.heap.size ≤ w7.heap.size := (hu47).size; exact h1)
       obtain ⟨gg, hgg⟩ : ∃ gg, w7.heap.size = gg := ⟨_, rfl⟩
       rw [hgg] at hFF hbG hgW ⊢
       clear hgg
       obtain ⟨x, y, z, ab, ao, ac, c, b, d, rfl, hone, hDI, hq2, hq3⟩ := hFF
       refine wpAnyE_one (i := 14) (by kernel_rfl) (by kernel_rfl) rfl (by rfl) fun K hK => ?_
       refine owp_store_blk 35 (.tmp 3) (.tmp 19) rfl rfl gg _ rfl rfl 35 _ hbG sh_size rfl hone ?_
       have hSF : ∀ p : Addr, p.block < W4.heap.size → (w9.setRow gg #[.int .i64 0, x, y, z, .slice (some ⟨ab, ao, ac⟩) 2 c]).cell? p = W4.cell? p := fun p hp => (((Upd.refl (fun q => q = gg) w9).setRow (.inl rfl) _).cell (by have := (hu49).size; omega) (fun h => by have : p.block = gg := h; omega)).trans (hS p hp)
       refine hK _ _ hSF ?_
       clear hK K
       try simp only [tl]
       refine wpAnyE_z (by kernel_rfl) rfl (by rfl) fun K hK => ?_
       go_simp
       refine hK _ _ ?_
       clear hK K
       try simp only [tl]
       refine wpAny_done (by kernel_rfl) ?_ _
       refine NoPanic.normal ?_
       have hG := hbG.row #[.int .i64 0, x, y, z, .slice (some ⟨ab, ao, ac⟩) 2 c]
       obtain ⟨WF, hWF⟩ : ∃ WF, w9.setRow gg #[.int .i64 0, x, y, z, .slice (some ⟨ab, ao, ac⟩) 2 c] = WF := ⟨_, rfl⟩
       have huF : Upd (fun q => q = gg) w9 WF := by rw [← hWF]; exact (Upd.refl (fun q => q = gg) w9).setRow (.inl rfl) _
       rw [hWF] at hG ⊢
       clear hWF
       have k2 : WF.cell? ⟨ab, ao + 2, none⟩ = some (.int .i64 1) := (huF.cell (p := ⟨ab, ao + 2, none⟩) hDI.1 (fun h => hDI.2 h)).trans hq2
       have k3 : WF.cell? ⟨ab, ao + 3, none⟩ = some (.slice b 1 d) := (huF.cell (p := ⟨ab, ao + 3, none⟩) hDI.1 (fun h => hDI.2 h)).trans hq3
       have k4 : WF.cell? ⟨gg, 4, none⟩ = some (.slice (some ⟨ab, ao, ac⟩) 2 c) := hG.cell 4
       have hbel : Below w.heap.size w WF := ((hu04.trans (hu49)).trans' huF (fun q hq h => by have : q = gg := h; have := hu04.size; omega)).below
       clear hG huF hq2 hq3 hDI hbG
       go_wp2_with fail
       go_ret
       exact ⟨rfl, hbel⟩
   · go_simp
     have hua2 : Upd nob w5 (w5.alloc (.cells #[.int .i64 0, .int .i64 0, .int .i64 0, .slice none 0 0, .slice none 0 0] 35)) := (Upd.refl nob w5).alloc _
     obtain ⟨wa2, hwa2⟩ : ∃ wa, w5.alloc (.cells #[.int .i64 0, .int .i64 0, .int .i64 0, .slice none 0 0, .slice none 0 0] 35) = wa := ⟨_, rfl⟩
     have hbga2 : Blk wa2 w5.heap.size 35 #[.int .i64 0, .int .i64 0, .int .i64 0, .slice none 0 0, .slice none 0 0] := by rw [← hwa2]; exact Blk.new w5 _ _
     have hsza2 : wa2.heap.size = w5.heap.size + 1 := by rw [← hwa2]; simp
     rw [hwa2] at hua2 ⊢
     clear hwa2
     have hu4a2 : Upd nob W4 wa2 := (hu45).trans hua2
     refine hK _ _ (cells_of_upd hu4a2) ?_
     clear hK K
     try simp only [tl]
     have hS : ∀ p : Addr, p.block < W4.heap.size → wa2.cell? p = W4.cell? p := cells_of_upd hu4a2
     have HP5a := Lib.hid (HP5.out.old (D' := DI (fun q => q ≠ w5.heap.size) wa2) (DI_old hua2) (fun q hq => ⟨by have := hq.1; omega, by have := hq.1; omega⟩))
     clear hsza2
     refine wpAnyE_one (i := 7) (by kernel_rfl) (by kernel_rfl) rfl (by rfl) fun K hK => ?_
     go_simp
     obtain ⟨w7, hw7⟩ : ∃ w7, wa2.alloc (.cells #[.string { data := #[122] }, .int .i64 7, .int .i64 0, .string natN, x1, y1, z1, .slice A1 0 c1, .slice A2 0 c2, .string { data := #[115] }, .int .i64 3, .int .i64 0, .string ByteArray.empty, x2, y2, z2, .slice B1 0 d1, .slice B2 2 d2] 46) = w7 := ⟨_, rfl⟩
     have hu7 : Upd nob wa2 w7 := by rw [← hw7]; exact (Upd.refl nob wa2).alloc _
     have hC7 : CtorsAt (DI (fun q => q ≠ w5.heap.size) w7) w7 natCs (some ⟨wa2.heap.size, 0, none⟩) := by
      rw [← hw7]
      exact nat_ctors wa2 (ge_ne (hbga2).lt) _ _ _ _ _ _ _ _ _ _ _ _ _ _ (HN4.out.old (D' := nob) (Old.of_upd (hu4a2) fun _ f => f.elim) (fun _ f => f.elim)) (HP5a.out)
     rw [hw7]
     clear hw7
     have hu47 : Upd nob W4 w7 := (hu4a2).trans hu7
     refine hK _ _ (cells_of_upd hu47) ?_
     clear hK K
     try simp only [tl]
     have hS : ∀ p : Addr, p.block < W4.heap.size → w7.cell? p = W4.cell? p := cells_of_upd hu47
     have HC7 := Lib.hid hC7
     clear hC7
     have hbg7 := (hbga2).upd hu7 (fun f => f)
     refine wpAnyE_take (i := 8) (v := ?_) [] rfl (by kernel_rfl) (fun _ _ _ h => h) (Or.inl ⟨by rfl, ?_⟩) hS ?_
     rotate_left
     · intro wx hx
       clear hx
       go_simp
       with_reducible rfl
     try simp only [tl]
     refine wpAnyE_one (i := 9) (by kernel_rfl) (by kernel_rfl) rfl (by rfl) fun K hK => ?_
     go_simp
     refine (nat_shape (I := fun q => q ≠ w5.heap.size) w7 (ge_ne (hbg7).lt) _ (HC7.out)).mono ?_
     rintro e w9 ⟨sc, rfl, hF9, hb9⟩
     have hu9 : Upd nob w7 w9 := Upd.of_below hb9
     have hu49 : Upd nob W4 w9 := (hu47).trans hu9
     refine hK _ _ (cells_of_upd hu49) ?_
     clear hK K
     try simp only [tl]
     have hS : ∀ p : Addr, p.block < W4.heap.size → w9.cell? p = W4.cell? p := cells_of_upd hu49
     have HF9 := Lib.hid hF9
     clear hF9 hb9
     have hbg9 := (hbg7).upd hu9 (fun f => f)
     refine wpAnyE_take (i := 10) (v := ?_) [] rfl (by kernel_rfl) (fun _ _ _ h => h) (Or.inl ⟨by rfl, ?_⟩) hS ?_
     rotate_left
     · intro wx hx
       clear hx
       go_simp
       with_reducible rfl
     try simp only [tl]
     refine wpAnyE_take (i := 11) (v := ?_) [] rfl (by kernel_rfl) (fun _ _ _ h => h) (Or.inl ⟨by rfl, ?_⟩) hS ?_
     rotate_left
     · intro wx hx
       clear hx
       go_simp
       with_reducible rfl
     try simp only [tl]
     refine wpAnyE_take (i := 12) (v := ?_) [] rfl (by kernel_rfl) (fun _ _ _ h => h) (Or.inl ⟨by rfl, ?_⟩) hS ?_
     rotate_left
     · intro wx hx
       clear hx
       go_simp
       with_reducible rfl
     try simp only [tl]
     have hFF : FR (fun q => q ≠ w5.heap.size) w9 sc := HF9.out
     have hbG : Blk w9 w5.heap.size 35 #[.int .i64 0, .int .i64 0, .int .i64 0, .slice none 0 0, .slice none 0 0] := hbg9
     have hgW : W4.heap.size ≤ w5.heap.size := (by have h1 : W4.heap.size ≤ w5.heap.size := (hu45).size; exact h1)
     obtain ⟨gg, hgg⟩ : ∃ gg, w5.heap.size = gg := ⟨_, rfl⟩
     rw [hgg] at hFF hbG hgW ⊢
     clear hgg
     obtain ⟨x, y, z, ab, ao, ac, c, b, d, rfl, hone, hDI, hq2, hq3⟩ := hFF
     refine wpAnyE_one (i := 14) (by kernel_rfl) (by kernel_rfl) rfl (by rfl) fun K hK => ?_
     refine owp_store_blk 35 (.tmp 3) (.tmp 19) rfl rfl gg _ rfl rfl 35 _ hbG sh_size rfl hone ?_
     have hSF : ∀ p : Addr, p.block < W4.heap.size → (w9.setRow gg #[.int .i64 0, x, y, z, .slice (some ⟨ab, ao, ac⟩) 2 c]).cell? p = W4.cell? p := fun p hp => (((Upd.refl (fun q => q = gg) w9).setRow (.inl rfl) _).cell (by have := (hu49).size; omega) (fun h => by have : p.block = gg := h; omega)).trans (hS p hp)
     refine hK _ _ hSF ?_
     clear hK K
     try simp only [tl]
     refine wpAnyE_z (by kernel_rfl) rfl (by rfl) fun K hK => ?_
     go_simp
     refine hK _ _ ?_
     clear hK K
     try simp only [tl]
     refine wpAny_done (by kernel_rfl) ?_ _
     refine NoPanic.normal ?_
     have hG := hbG.row #[.int .i64 0, x, y, z, .slice (some ⟨ab, ao, ac⟩) 2 c]
     obtain ⟨WF, hWF⟩ : ∃ WF, w9.setRow gg #[.int .i64 0, x, y, z, .slice (some ⟨ab, ao, ac⟩) 2 c] = WF := ⟨_, rfl⟩
     have huF : Upd (fun q => q = gg) w9 WF := by rw [← hWF]; exact (Upd.refl (fun q => q = gg) w9).setRow (.inl rfl) _
     rw [hWF] at hG ⊢
     clear hWF
     have k2 : WF.cell? ⟨ab, ao + 2, none⟩ = some (.int .i64 1) := (huF.cell (p := ⟨ab, ao + 2, none⟩) hDI.1 (fun h => hDI.2 h)).trans hq2
     have k3 : WF.cell? ⟨ab, ao + 3, none⟩ = some (.slice b 1 d) := (huF.cell (p := ⟨ab, ao + 3, none⟩) hDI.1 (fun h => hDI.2 h)).trans hq3
     have k4 : WF.cell? ⟨gg, 4, none⟩ = some (.slice (some ⟨ab, ao, ac⟩) 2 c) := hG.cell 4
     have hbel : Below w.heap.size w WF := ((hu04.trans (hu49)).trans' huF (fun q hq h => by have : q = gg := h; have := hu04.size; omega)).below
     clear hG huF hq2 hq3 hDI hbG
     go_wp2_with fail
     go_ret
     exact ⟨rfl, hbel⟩
 · go_simp
   have hua1 : Upd nob W4.drew ((W4.alloc (.cells #[.int .i64 0, .int .i64 0, .int .i64 0, .slice none 0 0, .slice none 0 0] 35)).drew) := (Upd.refl nob W4.drew).alloc _
   obtain ⟨wa1, hwa1⟩ : ∃ wa, (W4.alloc (.cells #[.int .i64 0, .int .i64 0, .int .i64 0, .slice none 0 0, .slice none 0 0] 35)).drew = wa := ⟨_, rfl⟩
   have hbga1 : Blk wa1 W4.heap.size 35 #[.int .i64 0, .int .i64 0, .int .i64 0, .slice none 0 0, .slice none 0 0] := by rw [← hwa1]; exact Blk.new W4.drew _ _
   have hsza1 : wa1.heap.size = W4.drew.heap.size + 1 := by rw [← hwa1]; simp
   rw [hwa1] at hua1 ⊢
   clear hwa1
   have hu4a1 : Upd nob W4 wa1 := ((Upd.refl nob W4).drew).trans hua1
   refine hK _ _ (cells_of_upd hu4a1) ?_
   clear hK K
   try simp only [tl]
   have hS : ∀ p : Addr, p.block < W4.heap.size → wa1.cell? p = W4.cell? p := cells_of_upd hu4a1
   clear hsza1
   refine wpAnyE_one (i := 5) (by kernel_rfl) (by kernel_rfl) rfl (by rfl) fun K hK => ?_
   go_simp
   refine (nat_bind (I := fun q => q ≠ W4.heap.size) wa1 (ge_ne (hbga1).lt) _ (HN4.out.old (D' := nob) (Old.of_upd (hu4a1) fun _ f => f.elim) (fun _ f => f.elim))).mono ?_
   rintro e w5 ⟨x2, y2, z2, B1, d1, B2, d2, rfl, hP5, hb5⟩
   have hu5 : Upd nob wa1 w5 := Upd.of_below hb5
   have hu45 : Upd nob W4 w5 := (hu4a1).trans hu5
   refine hK _ _ (cells_of_upd hu45) ?_
   clear hK K
   try simp only [tl]
   have hS : ∀ p : Addr, p.block < W4.heap.size → w5.cell? p = W4.cell? p := cells_of_upd hu45
   have HP5 := Lib.hid hP5
   clear hP5 hb5
   have hbg5 := (hbga1).upd hu5 (fun f => f)
   refine wpAnyE_take (i := 6) (v := ?_) [] rfl (by kernel_rfl) (fun _ _ _ h => h) (Or.inl ⟨by rfl, ?_⟩) hS ?_
   rotate_left
   · intro wx hx
     clear hx
     go_simp
     with_reducible rfl
   try simp only [tl]
   refine wpAnyE_one (i := 7) (by kernel_rfl) (by kernel_rfl) rfl (by rfl) fun K hK => ?_
   go_simp
   obtain ⟨w7, hw7⟩ : ∃ w7, w5.alloc (.cells #[.string { data := #[122] }, .int .i64 7, .int .i64 0, .string natN, x1, y1, z1, .slice A1 0 c1, .slice A2 0 c2, .string { data := #[115] }, .int .i64 3, .int .i64 0, .string ByteArray.empty, x2, y2, z2, .slice B1 0 d1, .slice B2 2 d2] 46) = w7 := ⟨_, rfl⟩
   have hu7 : Upd nob w5 w7 := by rw [← hw7]; exact (Upd.refl nob w5).alloc _
   have hC7 : CtorsAt (DI (fun q => q ≠ W4.heap.size) w7) w7 natCs (some ⟨w5.heap.size, 0, none⟩) := by
    rw [← hw7]
    exact nat_ctors w5 (ge_ne (hbg5).lt) _ _ _ _ _ _ _ _ _ _ _ _ _ _ (HN4.out.old (D' := nob) (Old.of_upd (hu45) fun _ f => f.elim) (fun _ f => f.elim)) (HP5.out)
   rw [hw7]
   clear hw7
   have hu47 : Upd nob W4 w7 := (hu45).trans hu7
   refine hK _ _ (cells_of_upd hu47) ?_
   clear hK K
   try simp only [tl]
   have hS : ∀ p : Addr, p.block < W4.heap.size → w7.cell? p = W4.cell? p := cells_of_upd hu47
   have HC7 := Lib.hid hC7
   clear hC7
   have hbg7 := (hbg5).upd hu7 (fun f => f)
   refine wpAnyE_take (i := 8) (v := ?_) [] rfl (by kernel_rfl) (fun _ _ _ h => h) (Or.inl ⟨by rfl, ?_⟩) hS ?_
   rotate_left
   · intro wx hx
     clear hx
     go_simp
     with_reducible rfl
   try simp only [tl]
   refine wpAnyE_one (i := 9) (by kernel_rfl) (by kernel_rfl) rfl (by rfl) fun K hK => ?_
   go_simp
   refine (nat_shape (I := fun q => q ≠ W4.heap.size) w7 (ge_ne (hbg7).lt) _ (HC7.out)).mono ?_
   rintro e w9 ⟨sc, rfl, hF9, hb9⟩
   have hu9 : Upd nob w7 w9 := Upd.of_below hb9
   have hu49 : Upd nob W4 w9 := (hu47).trans hu9
   refine hK _ _ (cells_of_upd hu49) ?_
   clear hK K
   try simp only [tl]
   have hS : ∀ p : Addr, p.block < W4.heap.size → w9.cell? p = W4.cell? p := cells_of_upd hu49
   have HF9 := Lib.hid hF9
   clear hF9 hb9
   have hbg9 := (hbg7).upd hu9 (fun f => f)
   refine wpAnyE_take (i := 10) (v := ?_) [] rfl (by kernel_rfl) (fun _ _ _ h => h) (Or.inl ⟨by rfl, ?_⟩) hS ?_
   rotate_left
   · intro wx hx
     clear hx
     go_simp
     with_reducible rfl
   try simp only [tl]
   refine wpAnyE_take (i := 11) (v := ?_) [] rfl (by kernel_rfl) (fun _ _ _ h => h) (Or.inl ⟨by rfl, ?_⟩) hS ?_
   rotate_left
   · intro wx hx
     clear hx
     go_simp
     with_reducible rfl
   try simp only [tl]
   refine wpAnyE_take (i := 12) (v := ?_) [] rfl (by kernel_rfl) (fun _ _ _ h => h) (Or.inl ⟨by rfl, ?_⟩) hS ?_
   rotate_left
   · intro wx hx
     clear hx
     go_simp
     with_reducible rfl
   try simp only [tl]
   have hFF : FR (fun q => q ≠ W4.heap.size) w9 sc := HF9.out
   have hbG : Blk w9 W4.heap.size 35 #[.int .i64 0, .int .i64 0, .int .i64 0, .slice none 0 0, .slice none 0 0] := hbg9
   have hgW : W4.heap.size ≤ W4.heap.size := (by have h1 : W4.heap.size ≤ W4.heap.size := ((Upd.refl nob W4).drew).size; exact h1)
   obtain ⟨x, y, z, ab, ao, ac, c, b, d, rfl, hone, hDI, hq2, hq3⟩ := hFF
   refine wpAnyE_one (i := 14) (by kernel_rfl) (by kernel_rfl) rfl (by rfl) fun K hK => ?_
   refine owp_store_blk 35 (.tmp 3) (.tmp 19) rfl rfl W4.heap.size _ rfl rfl 35 _ hbG sh_size rfl hone ?_
   have hSF : ∀ p : Addr, p.block < W4.heap.size → (w9.setRow W4.heap.size #[.int .i64 0, x, y, z, .slice (some ⟨ab, ao, ac⟩) 2 c]).cell? p = W4.cell? p := fun p hp => (((Upd.refl (fun q => q = W4.heap.size) w9).setRow (.inl rfl) _).cell (by have := (hu49).size; omega) (fun h => by have : p.block = W4.heap.size := h; omega)).trans (hS p hp)
   refine hK _ _ hSF ?_
   clear hK K
   try simp only [tl]
   refine wpAnyE_z (by kernel_rfl) rfl (by rfl) fun K hK => ?_
   go_simp
   refine hK _ _ ?_
   clear hK K
   try simp only [tl]
   refine wpAny_done (by kernel_rfl) ?_ _
   refine NoPanic.normal ?_
   have hG := hbG.row #[.int .i64 0, x, y, z, .slice (some ⟨ab, ao, ac⟩) 2 c]
   obtain ⟨WF, hWF⟩ : ∃ WF, w9.setRow W4.heap.size #[.int .i64 0, x, y, z, .slice (some ⟨ab, ao, ac⟩) 2 c] = WF := ⟨_, rfl⟩
   have huF : Upd (fun q => q = W4.heap.size) w9 WF := by rw [← hWF]; exact (Upd.refl (fun q => q = W4.heap.size) w9).setRow (.inl rfl) _
   rw [hWF] at hG ⊢
   clear hWF
   have k2 : WF.cell? ⟨ab, ao + 2, none⟩ = some (.int .i64 1) := (huF.cell (p := ⟨ab, ao + 2, none⟩) hDI.1 (fun h => hDI.2 h)).trans hq2
   have k3 : WF.cell? ⟨ab, ao + 3, none⟩ = some (.slice b 1 d) := (huF.cell (p := ⟨ab, ao + 3, none⟩) hDI.1 (fun h => hDI.2 h)).trans hq3
   have k4 : WF.cell? ⟨W4.heap.size, 4, none⟩ = some (.slice (some ⟨ab, ao, ac⟩) 2 c) := hG.cell 4
   have hbel : Below w.heap.size w WF := ((hu04.trans (hu49)).trans' huF (fun q hq h => by have : q = W4.heap.size := h; have := hu04.size; omega)).below
   clear hG huF hq2 hq3 hDI hbG
   go_wp2_with fail
   go_ret
   exact ⟨rfl, hbel⟩
end Go.Proofs.Ytiampoebdmflgaa

/- What an argument reads as: levels, terms, constructors, and how great they are where the bulk is bounded. -/
namespace Go.Proofs.Ytiampoebdmflgaa
open Go.ChangeShapes Go.WideShapes Go.ChangeAt Go.RowKit Go.Joins Go.Deep
set_option linter.unusedVariables false
set_option linter.unusedVariables false
set_option maxRecDepth 100000
mutual
/-- How many nodes a level has. -/
def Lv.wt : Lv → Nat
 | .mk _ _ ks => Lv.wts ks + 1
def Lv.wts : List Lv → Nat
 | [] => 0
 | l :: ls => l.wt + Lv.wts ls
end
mutual
/-- How many nodes and letters a term has. -/
def Tm.wt : Tm → Nat
 | .mk _ _ nm lv ls ks => nm.size + lv.wt + Lv.wts ls + Tm.wts ks + 1
def Tm.wts : List Tm → Nat
 | [] => 0
 | l :: ls => l.wt + Tm.wts ls
end
theorem Lv.wts_sum : ∀ l : List Lv, Lv.wts l = (l.map Lv.wt).sum
 | [] => rfl
 | x :: l => by simp only [Lv.wts, List.map_cons, List.sum_cons, Lv.wts_sum l]
theorem Tm.wts_sum : ∀ l : List Tm, Tm.wts l = (l.map Tm.wt).sum
 | [] => rfl
 | x :: l => by simp only [Tm.wts, List.map_cons, List.sum_cons, Tm.wts_sum l]
mutual
theorem Tm.height_wt : ∀ t : Tm, t.height ≤ t.wt
 | .mk k n nm lv ls ks => by
  have := Tm.heights_wt ks
  simp only [Tm.height, Tm.wt]; omega
theorem Tm.heights_wt : ∀ l : List Tm, Tm.heights l ≤ Tm.wts l
 | [] => by simp [Tm.heights, Tm.wts]
 | x :: l => by
  have h1 := Tm.height_wt x
  have h2 := Tm.heights_wt l
  simp only [Tm.heights, Tm.wts]; omega
end
namespace bulks
theorem one_le {H : Type} (d : DataW H) : 1 ≤ Rows.uptoBulk d := by
 cases d with
 | lit l => cases l <;> simp [Rows.uptoBulk]
 | nil => simp [Rows.uptoBulk]
 | ptr d => simp [Rows.uptoBulk]
 | slice elems spare => simp [Rows.uptoBulk]
 | agg parts => simp [Rows.uptoBulk]
 | iface t d => simp [Rows.uptoBulk]
 | map entries => simp [Rows.uptoBulk]
 | held h => simp [Rows.uptoBulk]
end bulks
theorem list_of {α : Type} {P : Nat → α → Prop} : ∀ n : Nat, (∀ i, i < n → ∃ x, P i x) → ∃ l : List α, l.length = n ∧ ∀ i (h : i < l.length), P i l[i]
 | 0, _ => ⟨[], rfl, fun i h => absurd h (by simp)⟩
 | n + 1, h => by
  obtain ⟨l, hl, hp⟩ := list_of n (fun i hi => h i (by omega))
  obtain ⟨x, hx⟩ := h n (by omega)
  refine ⟨l ++ [x], by simp [hl], fun i hi => ?_⟩
  by_cases hin : i < l.length
  · rw [List.getElem_append_left hin]; exact hp i hin
  · have : i = n := by simp at hi; omega
    subst this
    rw [List.getElem_append_right (by omega)]
    simp [hl]; exact hx
theorem bulk_sum {α H : Type} (f : α → Nat) : ∀ (l : List α) (ds : List (DataW H)), l.length = ds.length → (∀ i (h : i < l.length) (k : i < ds.length), f l[i] ≤ Rows.uptoBulk ds[i]) → (l.map f).sum ≤ Rows.uptoBulkAll ds
 | [], [], _, _ => by simp
 | [], _ :: _, h, _ => by cases h
 | _ :: _, [], h, _ => by cases h
 | x :: l, d :: ds, h, k => by
  have h1 := k 0 (by simp) (by simp)
  have h2 := bulk_sum f l ds (by simpa using h) (fun i h k' => by have := k (i + 1) (by simpa using h) (by simpa using k'); simpa using this)
  simp only [List.map_cons, List.sum_cons, Rows.uptoBulkAll]
  simp only [List.getElem_cons_zero] at h1
  omega
theorem bulk_mem {H : Type} : ∀ {ds : List (DataW H)} {i : Nat} {d : DataW H}, ds[i]? = some d → Rows.uptoBulk d ≤ Rows.uptoBulkAll ds
 | [], i, d, h => by simp at h
 | x :: ds, 0, d, h => by
  simp only [List.getElem?_cons_zero, Option.some.injEq] at h
  subst h; simp only [Rows.uptoBulkAll]; omega
 | x :: ds, i + 1, d, h => by
  have := bulk_mem (ds := ds) (i := i) (d := d) (by simpa using h)
  simp only [Rows.uptoBulkAll]; omega
/-- The blocks that are there. -/
def There (w : World) : Nat → Prop := fun q => q < w.heap.size
theorem There_in (w : World) : Within (There w) w := fun _ h => h
theorem cell_there {w : World} {a : Addr} {v : Value} (h : w.cell? a = some v) : There w a.block := by
 unfold There
 apply Decidable.byContradiction
 intro hn
 have : w.heap[a.block]? = none := Array.getElem?_eq_none (by omega)
 simp [World.cell?, this] at h
section
variable {H : Type} {enc : TypeId × Value → H} {w : World} {sp : Nat → Bool} {held : Bool}
/-- A slice of what reads. -/
theorem open_row {α : Type} {R : α → Array Value → Prop} {f : α → Nat} {t e : TypeId} {k fuel : Nat} {c : Value} {d : DataW H} {ps : List MemPlace} (ht : Try.prog.underlying t = some (.slice e)) (hc : Try.prog.cellsOf e = k) (hk : 0 < k)
    (hel : ∀ n cs d ps, n < fuel → DataW.trod enc Try.prog w 0 sp held n e cs = some (d, ps) → Rows.uptoBulk d ≤ 1048576 → ∃ x, R x cs.toArray ∧ f x ≤ Rows.uptoBulk d)
    (h : DataW.trod enc Try.prog w 0 sp held fuel t [c] = some (d, ps)) (hb : Rows.uptoBulk d ≤ 1048576) :
    ∃ A cap, ∃ l : List α, c = .slice A l.length cap ∧ l.length ≤ cap ∧ l.length ≤ 1048576 ∧ (∀ j x, l[j]? = some x → ∃ a cs, A = some a ∧ There w a.block ∧ rowAt w (a.add (j * k)) cs ∧ R x cs) ∧ (l.map f).sum + 1 ≤ Rows.uptoBulk d ∧ (∀ x, x ∈ l → f x ≤ Rows.uptoBulk d) := by
 rcases DataW.trod_slice ht h with ⟨h1, h2⟩ | ⟨a, len, cap, elems, rest, n, hn, hcs, hx, _, hl, hm, hlen, hall, _⟩
 · simp only [List.cons.injEq, and_true] at h1
   simp only [Prod.mk.injEq] at h2
   obtain ⟨rfl, rfl⟩ := h2
   exact ⟨none, 0, [], h1, by simp, by simp, fun j x hj => by simp at hj, by simp [Rows.uptoBulk], fun x hx => by cases hx⟩
 · simp only [List.cons.injEq, and_true] at hcs
   simp only [Prod.mk.injEq] at hx
   obtain ⟨rfl, _⟩ := hx
   subst hlen
   simp only [Rows.uptoBulk] at hb ⊢
   obtain ⟨l, hll, hlp⟩ := list_of (P := fun i (x : α) => (∃ cs, There w a.block ∧ rowAt w (a.add (i * k)) cs ∧ R x cs) ∧ ∀ (h : i < (elems.map (·.1)).length), f x ≤ Rows.uptoBulk (elems.map (·.1))[i]) elems.length (fun i hi => by
    have h1 := hall i hi
    rw [List.getElem?_eq_getElem hi] at h1
    obtain ⟨cs, h2, h3⟩ := Option.bind_eq_some_iff.1 h1
    rw [hc] at h2
    obtain ⟨_, h4, h5⟩ := World.cells?_some h2
    have h6 : (elems.map (·.1))[i]? = some elems[i].1 := by rw [List.getElem?_map, List.getElem?_eq_getElem hi]; rfl
    obtain ⟨x, h7, h8⟩ := hel n cs elems[i].1 elems[i].2 (by omega) h3 (by have := bulk_mem h6; omega)
    refine ⟨x, ⟨cs.toArray, ?_, fun j v hv => ?_, h7⟩, fun hh => ?_⟩
    · have h9 := h5 0 hk
      rw [List.getElem?_eq_getElem (by omega)] at h9
      have := cell_there h9
      rwa [Addr_add_block, Addr_add_block] at this
    · have hj : j < cs.length := by have := (Array.getElem?_eq_some_iff.1 hv).1; simpa using this
      rw [h5 j (by omega), ← hv]; simp
    · simpa using h8)
   have hs := bulk_sum f l (elems.map (·.1)) (by simp [hll]) (fun i h k => (hlp i h).2 k)
   refine ⟨some a, cap, l, by rw [hll]; exact hcs, by rw [hll]; exact hl, ?_, fun j x hj => ?_, by omega, fun x hx => ?_⟩
   · have : elems.length ≤ Rows.uptoBulkAll (elems.map (·.1)) := by
       have := bulk_sum (fun _ : DataW H × List MemPlace => 1) elems (elems.map (·.1)) (by simp) (fun i h k => bulks.one_le _)
       have e : ∀ l : List (DataW H × List MemPlace), (l.map fun _ => 1).sum = l.length := by intro l; induction l with | nil => rfl | cons x l ih => simp only [List.map_cons, List.sum_cons, ih, List.length_cons]; omega
       rwa [e] at this
     omega
   · obtain ⟨hj1, rfl⟩ := List.getElem?_eq_some_iff.1 hj
     obtain ⟨cs, h1, h2, h3⟩ := (hlp j hj1).1
     exact ⟨a, cs, rfl, h1, h2, h3⟩
   · obtain ⟨i, hi, rfl⟩ := List.getElem_of_mem hx
     have h1 := (hlp i hi).2 (by simp; omega)
     have h2 := List.getElem?_eq_getElem (l := elems.map (·.1)) (i := i) (by simp; omega)
     have := bulk_mem h2
     omega
theorem trods2 {P : Program} {t : TypeId} {f0 f1 : Field} {fuel : Nat} {cs : List Value} {x : DataW H × List MemPlace} (ht : P.underlying t = some (.struct #[f0, f1])) (h : DataW.trod enc P w 0 sp held fuel t cs = some x) :
    ∃ y0 y1 n, fuel = n + 1 ∧ x.1 = .agg [y0.1, y1.1] ∧ cs.length = P.cellsOf t ∧ DataW.trod enc P w 0 sp held n f0.type ((cs.drop f0.offset).take (P.cellsOf f0.type)) = some y0 ∧ DataW.trod enc P w 0 sp held n f1.type ((cs.drop f1.offset).take (P.cellsOf f1.type)) = some y1 := by
 obtain ⟨xs, n, hn, rfl, hl, hlen, hf⟩ := DataW.trod_struct ht h
 match xs, hlen with
 | [y0, y1], _ => exact ⟨y0, y1, n, hn, by simp, hl, by simpa using hf 0 f0 rfl, by simpa using hf 1 f1 rfl⟩
theorem trods3 {P : Program} {t : TypeId} {f0 f1 f2 : Field} {fuel : Nat} {cs : List Value} {x : DataW H × List MemPlace} (ht : P.underlying t = some (.struct #[f0, f1, f2])) (h : DataW.trod enc P w 0 sp held fuel t cs = some x) :
    ∃ y0 y1 y2 n, fuel = n + 1 ∧ x.1 = .agg [y0.1, y1.1, y2.1] ∧ cs.length = P.cellsOf t ∧ DataW.trod enc P w 0 sp held n f0.type ((cs.drop f0.offset).take (P.cellsOf f0.type)) = some y0 ∧ DataW.trod enc P w 0 sp held n f1.type ((cs.drop f1.offset).take (P.cellsOf f1.type)) = some y1 ∧ DataW.trod enc P w 0 sp held n f2.type ((cs.drop f2.offset).take (P.cellsOf f2.type)) = some y2 := by
 obtain ⟨xs, n, hn, rfl, hl, hlen, hf⟩ := DataW.trod_struct ht h
 match xs, hlen with
 | [y0, y1, y2], _ => exact ⟨y0, y1, y2, n, hn, by simp, hl, by simpa using hf 0 f0 rfl, by simpa using hf 1 f1 rfl, by simpa using hf 2 f2 rfl⟩
theorem trods6 {P : Program} {t : TypeId} {f0 f1 f2 f3 f4 f5 : Field} {fuel : Nat} {cs : List Value} {x : DataW H × List MemPlace} (ht : P.underlying t = some (.struct #[f0, f1, f2, f3, f4, f5])) (h : DataW.trod enc P w 0 sp held fuel t cs = some x) :
    ∃ y0 y1 y2 y3 y4 y5 n, fuel = n + 1 ∧ x.1 = .agg [y0.1, y1.1, y2.1, y3.1, y4.1, y5.1] ∧ cs.length = P.cellsOf t ∧ DataW.trod enc P w 0 sp held n f0.type ((cs.drop f0.offset).take (P.cellsOf f0.type)) = some y0 ∧ DataW.trod enc P w 0 sp held n f1.type ((cs.drop f1.offset).take (P.cellsOf f1.type)) = some y1 ∧ DataW.trod enc P w 0 sp held n f2.type ((cs.drop f2.offset).take (P.cellsOf f2.type)) = some y2 ∧ DataW.trod enc P w 0 sp held n f3.type ((cs.drop f3.offset).take (P.cellsOf f3.type)) = some y3 ∧ DataW.trod enc P w 0 sp held n f4.type ((cs.drop f4.offset).take (P.cellsOf f4.type)) = some y4 ∧ DataW.trod enc P w 0 sp held n f5.type ((cs.drop f5.offset).take (P.cellsOf f5.type)) = some y5 := by
 obtain ⟨xs, n, hn, rfl, hl, hlen, hf⟩ := DataW.trod_struct ht h
 match xs, hlen with
 | [y0, y1, y2, y3, y4, y5], _ => exact ⟨y0, y1, y2, y3, y4, y5, n, hn, by simp, hl, by simpa using hf 0 f0 rfl, by simpa using hf 1 f1 rfl, by simpa using hf 2 f2 rfl, by simpa using hf 3 f3 rfl, by simpa using hf 4 f4 rfl, by simpa using hf 5 f5 rfl⟩
theorem trods7 {P : Program} {t : TypeId} {f0 f1 f2 f3 f4 f5 f6 : Field} {fuel : Nat} {cs : List Value} {x : DataW H × List MemPlace} (ht : P.underlying t = some (.struct #[f0, f1, f2, f3, f4, f5, f6])) (h : DataW.trod enc P w 0 sp held fuel t cs = some x) :
    ∃ y0 y1 y2 y3 y4 y5 y6 n, fuel = n + 1 ∧ x.1 = .agg [y0.1, y1.1, y2.1, y3.1, y4.1, y5.1, y6.1] ∧ cs.length = P.cellsOf t ∧ DataW.trod enc P w 0 sp held n f0.type ((cs.drop f0.offset).take (P.cellsOf f0.type)) = some y0 ∧ DataW.trod enc P w 0 sp held n f1.type ((cs.drop f1.offset).take (P.cellsOf f1.type)) = some y1 ∧ DataW.trod enc P w 0 sp held n f2.type ((cs.drop f2.offset).take (P.cellsOf f2.type)) = some y2 ∧ DataW.trod enc P w 0 sp held n f3.type ((cs.drop f3.offset).take (P.cellsOf f3.type)) = some y3 ∧ DataW.trod enc P w 0 sp held n f4.type ((cs.drop f4.offset).take (P.cellsOf f4.type)) = some y4 ∧ DataW.trod enc P w 0 sp held n f5.type ((cs.drop f5.offset).take (P.cellsOf f5.type)) = some y5 ∧ DataW.trod enc P w 0 sp held n f6.type ((cs.drop f6.offset).take (P.cellsOf f6.type)) = some y6 := by
 obtain ⟨xs, n, hn, rfl, hl, hlen, hf⟩ := DataW.trod_struct ht h
 match xs, hlen with
 | [y0, y1, y2, y3, y4, y5, y6], _ => exact ⟨y0, y1, y2, y3, y4, y5, y6, n, hn, by simp, hl, by simpa using hf 0 f0 rfl, by simpa using hf 1 f1 rfl, by simpa using hf 2 f2 rfl, by simpa using hf 3 f3 rfl, by simpa using hf 4 f4 rfl, by simpa using hf 5 f5 rfl, by simpa using hf 6 f6 rfl⟩
theorem trods12 {P : Program} {t : TypeId} {f0 f1 f2 f3 f4 f5 f6 f7 f8 f9 f10 f11 : Field} {fuel : Nat} {cs : List Value} {x : DataW H × List MemPlace} (ht : P.underlying t = some (.struct #[f0, f1, f2, f3, f4, f5, f6, f7, f8, f9, f10, f11])) (h : DataW.trod enc P w 0 sp held fuel t cs = some x) :
    ∃ y0 y1 y2 y3 y4 y5 y6 y7 y8 y9 y10 y11 n, fuel = n + 1 ∧ x.1 = .agg [y0.1, y1.1, y2.1, y3.1, y4.1, y5.1, y6.1, y7.1, y8.1, y9.1, y10.1, y11.1] ∧ cs.length = P.cellsOf t ∧ DataW.trod enc P w 0 sp held n f0.type ((cs.drop f0.offset).take (P.cellsOf f0.type)) = some y0 ∧ DataW.trod enc P w 0 sp held n f1.type ((cs.drop f1.offset).take (P.cellsOf f1.type)) = some y1 ∧ DataW.trod enc P w 0 sp held n f2.type ((cs.drop f2.offset).take (P.cellsOf f2.type)) = some y2 ∧ DataW.trod enc P w 0 sp held n f3.type ((cs.drop f3.offset).take (P.cellsOf f3.type)) = some y3 ∧ DataW.trod enc P w 0 sp held n f4.type ((cs.drop f4.offset).take (P.cellsOf f4.type)) = some y4 ∧ DataW.trod enc P w 0 sp held n f5.type ((cs.drop f5.offset).take (P.cellsOf f5.type)) = some y5 ∧ DataW.trod enc P w 0 sp held n f6.type ((cs.drop f6.offset).take (P.cellsOf f6.type)) = some y6 ∧ DataW.trod enc P w 0 sp held n f7.type ((cs.drop f7.offset).take (P.cellsOf f7.type)) = some y7 ∧ DataW.trod enc P w 0 sp held n f8.type ((cs.drop f8.offset).take (P.cellsOf f8.type)) = some y8 ∧ DataW.trod enc P w 0 sp held n f9.type ((cs.drop f9.offset).take (P.cellsOf f9.type)) = some y9 ∧ DataW.trod enc P w 0 sp held n f10.type ((cs.drop f10.offset).take (P.cellsOf f10.type)) = some y10 ∧ DataW.trod enc P w 0 sp held n f11.type ((cs.drop f11.offset).take (P.cellsOf f11.type)) = some y11 := by
 obtain ⟨xs, n, hn, rfl, hl, hlen, hf⟩ := DataW.trod_struct ht h
 match xs, hlen with
 | [y0, y1, y2, y3, y4, y5, y6, y7, y8, y9, y10, y11], _ => exact ⟨y0, y1, y2, y3, y4, y5, y6, y7, y8, y9, y10, y11, n, hn, by simp, hl, by simpa using hf 0 f0 rfl, by simpa using hf 1 f1 rfl, by simpa using hf 2 f2 rfl, by simpa using hf 3 f3 rfl, by simpa using hf 4 f4 rfl, by simpa using hf 5 f5 rfl, by simpa using hf 6 f6 rfl, by simpa using hf 7 f7 rfl, by simpa using hf 8 f8 rfl, by simpa using hf 9 f9 rfl, by simpa using hf 10 f10 rfl, by simpa using hf 11 f11 rfl⟩
theorem cells_lv : Try.prog.cellsOf 24 = 3 := by kernel_rfl
theorem cells_tm : Try.prog.cellsOf 27 = 8 := by kernel_rfl
theorem cells_int : Try.prog.cellsOf 3 = 1 := by kernel_rfl
theorem cells_str : Try.prog.cellsOf 9 = 1 := by kernel_rfl
theorem cells_lvs : Try.prog.cellsOf 22 = 1 := by kernel_rfl
theorem cells_tms : Try.prog.cellsOf 25 = 1 := by kernel_rfl
theorem list3 {α : Type} {l : List α} (h : l.length = 3) : ∃ a b c, l = [a, b, c] := by
 match l, h with
 | [a, b, c], _ => exact ⟨a, b, c, rfl⟩
theorem list6 {α : Type} {l : List α} (h : l.length = 6) : ∃ a b c d e f, l = [a, b, c, d, e, f] := by
 match l, h with
 | [a, b, c, d, e, f], _ => exact ⟨a, b, c, d, e, f, rfl⟩
theorem list8 {α : Type} {l : List α} (h : l.length = 8) : ∃ a b c d e f g i, l = [a, b, c, d, e, f, g, i] := by
 match l, h with
 | [a, b, c, d, e, f, g, i], _ => exact ⟨a, b, c, d, e, f, g, i, rfl⟩
theorem int_in {z : Int} (h : (Lit.int .i64 z).wf = true) : InI z := by
 simp [Lit.wf, IntKind.min, IntKind.max, IntKind.signed, IntKind.bits] at h
 exact h
theorem open_lv : ∀ (fuel : Nat) (cs : List Value) (d : DataW H) (ps : List MemPlace), DataW.trod enc Try.prog w 0 sp held fuel 24 cs = some (d, ps) → Rows.uptoBulk d ≤ 1048576 →
    ∃ l, LvIs (There w) w l cs.toArray ∧ l.wt ≤ Rows.uptoBulk d := by
 intro fuel
 induction fuel using Nat.strongRecOn with
 | ind fuel ih =>
  intro cs d ps h hb
  obtain ⟨y0, y1, y2, n, rfl, hx, hl, g0, g1, g2⟩ := trods3 Try.underlying24 h
  rw [cells_lv] at hl
  obtain ⟨c0, c1, c2, rfl⟩ := list3 hl
  subst hx
  simp only [cells_int, cells_lvs, List.drop_zero, List.drop_succ_cons, List.take_succ_cons, List.take_zero] at g0 g1 g2
  obtain ⟨z0, q0, _, v0⟩ := DataW.trod_int Try.underlying3 g0
  obtain ⟨z1, q1, _, v1⟩ := DataW.trod_int Try.underlying3 g1
  simp only [List.cons.injEq, and_true] at q0 q1
  subst q0 q1
  simp only [Rows.uptoBulk, Rows.uptoBulkAll] at hb ⊢
  obtain ⟨A, cap, l, rfl, e1, e2, e3, e4, _⟩ := open_row (R := fun l cs => LvIs (There w) w l cs) (f := Lv.wt) Try.underlying22 cells_lv (by decide) (fun m cs d ps hm h hb => ih m (by omega) cs d ps h hb) g2 (by omega)
  refine ⟨.mk z0 z1 l, ?_, ?_⟩
  · simp only [LvIs]
    refine ⟨A, cap, rfl, int_in v0, int_in v1, ⟨by omega, e1⟩, LvsAt.mk fun j x hj => ?_⟩
    obtain ⟨a, cs, h1, h2, h3, h4⟩ := e3 j x hj
    exact ⟨a, cs, h1, h2, by rw [Nat.zero_add]; exact h3, h4⟩
  · simp only [Lv.wt, Lv.wts_sum]; omega
theorem open_tm : ∀ (fuel : Nat) (cs : List Value) (d : DataW H) (ps : List MemPlace), DataW.trod enc Try.prog w 0 sp held fuel 27 cs = some (d, ps) → Rows.uptoBulk d ≤ 1048576 →
    ∃ t, TmIs (There w) w t cs.toArray ∧ t.wt ≤ Rows.uptoBulk d := by
 intro fuel
 induction fuel using Nat.strongRecOn with
 | ind fuel ih =>
  intro cs d ps h hb
  obtain ⟨y0, y1, y2, y3, y4, y5, n, rfl, hx, hl, g0, g1, g2, g3, g4, g5⟩ := trods6 Try.underlying27 h
  rw [cells_tm] at hl
  obtain ⟨c0, c1, c2, c3, c4, c5, c6, c7, rfl⟩ := list8 hl
  subst hx
  simp only [cells_int, cells_str, cells_lv, cells_lvs, cells_tms, List.drop_zero, List.drop_succ_cons, List.take_succ_cons, List.take_zero] at g0 g1 g2 g3 g4 g5
  obtain ⟨z0, q0, _, v0⟩ := DataW.trod_int Try.underlying3 g0
  obtain ⟨z1, q1, _, v1⟩ := DataW.trod_int Try.underlying3 g1
  obtain ⟨s, q2, x2, v2⟩ := DataW.trod_string Try.underlying9 g2
  simp only [List.cons.injEq, and_true] at q0 q1 q2
  subst q0 q1 q2
  subst x2
  simp only [Rows.uptoBulk, Rows.uptoBulkAll] at hb ⊢
  have es : s.data.toList.length = s.size := by rw [Array.length_toList]; rfl
  rw [es] at hb ⊢
  obtain ⟨lv, hlv, wlv⟩ := open_lv n _ _ _ g3 (by omega)
  obtain ⟨A, cap, l, rfl, e1, e2, e3, e4, _⟩ := open_row (R := fun l cs => LvIs (There w) w l cs) (f := Lv.wt) Try.underlying22 cells_lv (by decide) (fun m cs d ps hm h hb => open_lv m cs d ps h hb) g4 (by omega)
  obtain ⟨A', cap', l', rfl, e1', e2', e3', e4', _⟩ := open_row (R := fun l cs => TmIs (There w) w l cs) (f := Tm.wt) Try.underlying25 cells_tm (by decide) (fun m cs d ps hm h hb => ih m (by omega) cs d ps h hb) g5 (by omega)
  refine ⟨.mk z0 z1 s lv l l', ?_, ?_⟩
  · simp only [TmIs]
    refine ⟨c3, c4, c5, A, cap, A', cap', rfl, int_in v0, int_in v1, by simp only [maxLen] at v2; omega, hlv, ⟨by omega, e1⟩, LvsAt.mk fun j x hj => ?_, ⟨by omega, e1'⟩, TmsAt.mk fun j x hj => ?_⟩
    · obtain ⟨a, cs, h1, h2, h3, h4⟩ := e3 j x hj
      exact ⟨a, cs, h1, h2, by rw [Nat.zero_add]; exact h3, h4⟩
    · obtain ⟨a, cs, h1, h2, h3, h4⟩ := e3' j x hj
      exact ⟨a, cs, h1, h2, by rw [Nat.zero_add]; exact h3, h4⟩
  · simp only [Tm.wt, Lv.wts_sum, Tm.wts_sum]; omega
end
end Go.Proofs.Ytiampoebdmflgaa

/- A declaration that is an argument. -/
namespace Go.Proofs.Ytiampoebdmflgaa
open Go.ChangeShapes Go.WideShapes Go.ChangeAt Go.RowKit Go.Joins Go.Deep
set_option linter.unusedVariables false
set_option linter.unusedVariables false
set_option maxRecDepth 100000
theorem cells_ct : Try.prog.cellsOf 46 = 9 := by kernel_rfl
theorem cells_cts : Try.prog.cellsOf 28 = 1 := by kernel_rfl
theorem cells_dc : Try.prog.cellsOf 30 = 21 := by kernel_rfl
theorem list9 {α : Type} {l : List α} (h : l.length = 9) : ∃ a r, l = a :: r ∧ r.length = 8 := by
 match l, h with
 | a :: r, h => exact ⟨a, r, rfl, by simpa using h⟩
theorem list21 {α : Type} {l : List α} (h : l.length = 21) : ∃ k nm vs a0 a1 a2 a3 a4 a5 a6 a7 b0 b1 b2 b3 b4 b5 b6 b7 pa cs, l = [k, nm, vs, a0, a1, a2, a3, a4, a5, a6, a7, b0, b1, b2, b3, b4, b5, b6, b7, pa, cs] := by
 match l, h with
 | [k, nm, vs, a0, a1, a2, a3, a4, a5, a6, a7, b0, b1, b2, b3, b4, b5, b6, b7, pa, cs], _ => exact ⟨_, _, _, _, _, _, _, _, _, _, _, _, _, _, _, _, _, _, _, _, _, rfl⟩
section
variable {H : Type} {enc : TypeId × Value → H} {w : World} {sp : Nat → Bool} {held : Bool}
theorem open_ct (n : Nat) (cs : List Value) (d : DataW H) (ps : List MemPlace) (h : DataW.trod enc Try.prog w 0 sp held n 46 cs = some (d, ps)) (hb : Rows.uptoBulk d ≤ 1048576) :
    ∃ x : ByteArray × Tm, (∃ cs', cs.toArray = #[Value.string x.1] ++ cs' ∧ TmIs (There w) w x.2 cs' ∧ x.1.size ≤ 140737488351232) ∧ x.1.size + x.2.wt ≤ Rows.uptoBulk d := by
 obtain ⟨y0, y1, n, rfl, hx, hl, g0, g1⟩ := trods2 Try.underlying46 h
 rw [cells_ct] at hl
 obtain ⟨c0, r, rfl, hr⟩ := list9 hl
 obtain ⟨c1, c2, c3, c4, c5, c6, c7, c8, rfl⟩ := list8 hr
 subst hx
 simp only [cells_str, cells_tm, List.drop_zero, List.drop_succ_cons, List.take_succ_cons, List.take_zero] at g0 g1
 obtain ⟨s, q2, x2, v2⟩ := DataW.trod_string Try.underlying9 g0
 simp only [List.cons.injEq, and_true] at q2
 subst q2
 subst x2
 simp only [Rows.uptoBulk, Rows.uptoBulkAll] at hb ⊢
 have es : s.data.toList.length = s.size := by rw [Array.length_toList]; rfl
 rw [es] at hb ⊢
 obtain ⟨t, ht, wt⟩ := open_tm n _ _ _ g1 (by omega)
 exact ⟨(s, t), ⟨_, rfl, ht, by show s.size ≤ _; omega⟩, by show s.size + t.wt ≤ _; omega⟩
theorem open_decl {r : Reach} {b0 : Nat} {v : Value} {d : DataW H} {ps : List MemPlace} (hval : Value.okWide Try.prog w r b0 30 v) (hd : DataW.Trod enc Try.prog w 0 sp held 30 v d ps) (hb : Rows.uptoBulk d ≤ 1048576) :
    ∃ (dk : Int) (nm : ByteArray) (vs pa : Int) (ty vl : Tm) (cts : List (ByteArray × Tm)) (a0 a1 a2 a3 a4 a5 a6 a7 b0 b1 b2 b3 b4 b5 b6 b7 : Value) (cA : Option Addr) (cc : Nat),
     v = .agg #[.int .i64 dk, .string nm, .int .i64 vs, a0, a1, a2, a3, a4, a5, a6, a7, b0, b1, b2, b3, b4, b5, b6, b7, .int .i64 pa, .slice cA cts.length cc] ∧
     InI dk ∧ nm.size ≤ 1048576 ∧ InI vs ∧ InI pa ∧ TmIs (There w) w ty #[a0, a1, a2, a3, a4, a5, a6, a7] ∧ ty.wt ≤ 1048576 ∧ TmIs (There w) w vl #[b0, b1, b2, b3, b4, b5, b6, b7] ∧ vl.wt ≤ 1048576 ∧
     CtorsAt (There w) w cts cA ∧ cts.length ≤ cc ∧ cts.length ≤ 1048576 ∧ (∀ x, x ∈ cts → x.1.size + x.2.wt ≤ 1048576) := by
 obtain ⟨cs, rfl, hsz⟩ := okWide_struct Try.underlying30 hval
 obtain ⟨fuel, hf⟩ := hd
 obtain ⟨y0, y1, y2, y3, y4, y5, y6, n, rfl, hx, hl, g0, g1, g2, g3, g4, g5, g6⟩ := trods7 Try.underlying30 hf
 rw [cells_dc] at hl
 obtain ⟨l⟩ := cs
 obtain ⟨c0, c1, c2, a0, a1, a2, a3, a4, a5, a6, a7, b0, b1, b2, b3, b4, b5, b6, b7, c19, c20, rfl⟩ := list21 (l := l) hl
 simp only at hx
 subst hx
 simp only [Value.cells, cells_int, cells_str, cells_tm, cells_cts, List.drop_zero, List.drop_succ_cons, List.take_succ_cons, List.take_zero] at g0 g1 g2 g3 g4 g5 g6
 obtain ⟨z0, q0, _, v0⟩ := DataW.trod_int Try.underlying3 g0
 obtain ⟨s, q1, x1, v1⟩ := DataW.trod_string Try.underlying9 g1
 obtain ⟨z2, q2, _, v2⟩ := DataW.trod_int Try.underlying3 g2
 obtain ⟨z5, q5, _, v5⟩ := DataW.trod_int Try.underlying3 g5
 simp only [List.cons.injEq, and_true] at q0 q1 q2 q5
 subst q0 q1 q2 q5
 subst x1
 simp only [Rows.uptoBulk, Rows.uptoBulkAll] at hb
 have es : s.data.toList.length = s.size := by rw [Array.length_toList]; rfl
 rw [es] at hb
 obtain ⟨ty, hty, wty⟩ := open_tm n _ _ _ g3 (by omega)
 obtain ⟨vl, hvl, wvl⟩ := open_tm n _ _ _ g4 (by omega)
 obtain ⟨A, cap, l, rfl, e1, e2, e3, e4, e5⟩ := open_row (R := fun (x : ByteArray × Tm) cs => ∃ cs', cs = #[Value.string x.1] ++ cs' ∧ TmIs (There w) w x.2 cs' ∧ x.1.size ≤ 140737488351232) (f := fun x => x.1.size + x.2.wt) Try.underlying28 cells_ct (by decide) (fun m cs d ps hm h hb => open_ct m cs d ps h hb) g6 (by omega)
 refine ⟨z0, s, z2, z5, ty, vl, l, a0, a1, a2, a3, a4, a5, a6, a7, b0, b1, b2, b3, b4, b5, b6, b7, A, cap, rfl, int_in v0, by omega, int_in v2, int_in v5, hty, by omega, hvl, by omega, fun j x hj => ?_, e1, e2, fun x hx => ?_⟩
 · obtain ⟨a, cs, h1, h2, h3, cs', rfl, h4, _⟩ := e3 j x hj
   exact ⟨a, cs', h1, h2, h3, h4⟩
 · have := e5 x hx; omega
end
end Go.Proofs.Ytiampoebdmflgaa

/- A shape is no greater than its declaration. -/
namespace Go.Proofs.Ytiampoebdmflgaa
open Go.RowKit
set_option linter.unusedVariables false
set_option maxHeartbeats 1000000
theorem trow_le_h (t : Tm) : (trow t).1.length ≤ t.height := by
 have := rowF_le t.height t []
 unfold trow
 simpa using this
theorem ctorF_le (nm : ByteArray) (p idx : Nat) (s : Tm) : ∀ (l : List Tm) (i : Nat) (sl : List (Int × Int)), (ctorF nm p idx s i sl l).1.2.length ≤ sl.length + l.length
 | [], i, sl => by rw [ctorF]; simp
 | a :: l, i, sl => by
  have h1 := ctorF_le nm p idx s l (i + 1) (sl ++ [((i : Int), ((trow a).1.length : Int))])
  have h2 := ctorF_le nm p idx s l (i + 1) sl
  rw [ctorF]
  simp only [List.length_append, List.length_cons, List.length_nil] at h1 ⊢
  split
  · split
    · simp
    · split
      · simp
      · split
        · simp
        · omega
  · omega
theorem tctor_le (nm : ByteArray) (p idx : Nat) (s : Tm) (ds : List Tm) (t : Tm) : (tctor nm p idx s ds t).1.2.length ≤ t.height := by
 have h1 := ctorF_le nm p idx s ((trow t).1.drop p) 0 []
 have h2 := trow_le_h t
 have h3 : ((trow t).1.drop p).length ≤ (trow t).1.length := by simp
 unfold tctor
 split
 · simp
 · split
   · simp
   · split
     · simp
     · split
       · simp
       · simp only [List.length_nil] at h1; omega
theorem ofF_len (f : Tm → CShape × Int) : ∀ (l : List (ByteArray × Tm)) (acc : List CShape), (ofF f l acc).1.length ≤ acc.length + l.length
 | [], acc => by rw [ofF]; simp
 | c :: l, acc => by
  have h1 := ofF_len f l (acc ++ [(f c.2).1])
  rw [ofF]
  simp only [List.length_append, List.length_cons, List.length_nil] at h1 ⊢
  split
  · omega
  · simp
theorem ofF_mem (f : Tm → CShape × Int) : ∀ (l : List (ByteArray × Tm)) (acc : List CShape) (y : CShape), y ∈ (ofF f l acc).1 → y ∈ acc ∨ ∃ x, x ∈ l ∧ y = (f x.2).1
 | [], acc, y, h => by rw [ofF] at h; exact .inl h
 | c :: l, acc, y, h => by
  rw [ofF] at h
  split at h
  · rcases ofF_mem f l _ y h with h1 | ⟨x, hx, h2⟩
    · rcases List.mem_append.1 h1 with h1 | h1
      · exact .inl h1
      · exact .inr ⟨c, List.mem_cons_self, by simpa using h1⟩
    · exact .inr ⟨x, List.mem_cons_of_mem _ hx, h2⟩
  · cases h
theorem tof_small (dk : Int) (nm : ByteArray) (vs pa : Int) (ty : Tm) (cts : List (ByteArray × Tm)) :
    (tof dk nm vs pa ty cts).1.2.2.length ≤ cts.length ∧ ∀ y, y ∈ (tof dk nm vs pa ty cts).1.2.2 → ∃ x, x ∈ cts ∧ y.2.length ≤ x.2.height := by
 have hz : zshape.2.2.length ≤ cts.length ∧ ∀ y, y ∈ zshape.2.2 → ∃ x, x ∈ cts ∧ y.2.length ≤ x.2.height := ⟨Nat.zero_le _, fun y h => by cases h⟩
 unfold tof
 split
 · exact hz
 · split
   · exact hz
   · split
     · refine ⟨by have := ofF_len (tctor nm pa.toNat ((trow ty).1.length - pa.toNat) (tself nm vs.toNat) (trow ty).1) cts []; simpa using this, fun y h => ?_⟩
       rcases ofF_mem _ _ _ _ h with h | ⟨x, hx, rfl⟩
       · cases h
       · exact ⟨x, hx, tctor_le ..⟩
     · exact hz
theorem rof_small (dk : Int) (nm : ByteArray) (vs pa : Int) (ty : Tm) (cts : List (ByteArray × Tm)) : (rof dk nm vs pa ty cts).1.2.2.length ≤ cts.length := by
 rw [← (of_eq dk nm vs pa ty cts).2.2.1]
 exact (tof_small dk nm vs pa ty cts).1
end Go.Proofs.Ytiampoebdmflgaa

/- ShapeOf walked. -/
namespace Go.Proofs.Ytiampoebdmflgaa
open Go.RowKit
set_option linter.unusedVariables false
set_option maxRecDepth 100000
set_option maxHeartbeats 8000000
set_option linter.unusedSimpArgs false
theorem ShIs.old {D D' : Nat → Prop} {w w' : World} {s : TShape} {cs : Array Value} (h : ShIs D w s cs) (ho : Old D w w') (hD : ∀ k, D k → D' k) : ShIs D' w' s cs := by
 obtain ⟨x, y, z, A, c, h1, h2, h3⟩ := h
 refine ⟨x, y, z, A, c, h1, h2.old ho hD, fun j y hy => ?_⟩
 obtain ⟨a, cs, k1, k2, k3, k4⟩ := h3 j y hy
 exact ⟨a, cs, k1, hD _ k2, k3.old ho (by rw [Addr_add_block]; exact k2), k4.old ho hD⟩
theorem ShIs.lit {D : Nat → Prop} {w : World} {s : TShape} {cs : Array Value} (h : ShIs D w s cs) : ∃ (k n : Int) (B : Option Addr) (m d : Nat) (A : Option Addr) (c : Nat), cs = #[.int .i64 s.1, .int .i64 k, .int .i64 n, .slice B m d, .slice A s.2.2.length c] ∧ k = s.2.1.k ∧ LvIs D w s.2.1 #[.int .i64 k, .int .i64 n, .slice B m d] := by
 obtain ⟨x, y, z, A, c, rfl, h2, h3⟩ := h
 have h4 := h2
 generalize s.2.1 = l at h2 h4 ⊢
 cases l with
 | mk k n ks =>
  simp only [LvIs] at h2
  obtain ⟨B, d, h5, _⟩ := h2
  simp only [Array.mk.injEq, List.cons.injEq, and_true] at h5
  obtain ⟨rfl, rfl, rfl⟩ := h5
  exact ⟨_, _, _, _, _, _, _, rfl, rfl, h4⟩
theorem shapeof_heavy (dk : Int) (nm : ByteArray) (vs pa : Int) (ty : Tm) (cts : List (ByteArray × Tm)) (a0 a1 a2 a3 a4 a5 a6 a7 b0 b1 b2 b3 b4 b5 b6 b7 : Value) (cA : Option Addr) (cc : Nat) (D : Nat → Prop) (w : World)
    (hD : Within D w) (ht : TmIs D w ty #[a0, a1, a2, a3, a4, a5, a6, a7]) (hnm : nm.size ≤ 140737488351232) (hcs : CtorsAt D w cts cA) (hcl : cts.length * 120 ≤ 140737488351232)
    (hh : ty.height * 120 ≤ 140737488351232) (hhc : ∀ x, x ∈ cts → x.2.height * 120 ≤ 140737488351232) (hM : ¬ cts.length ≤ 20) :
    Calls Try.prog 3 #[.agg #[.int .i64 dk, .string nm, .int .i64 vs, a0, a1, a2, a3, a4, a5, a6, a7, b0, b1, b2, b3, b4, b5, b6, b7, .int .i64 pa, .slice cA cts.length cc]] w fun e w' => e = .returned (.bool true) ∧ Below w.heap.size w w' := by
 have t1 : decide ((cts.length : Int) ≤ 20) = false := by simp; omega
 have hz2 := sh_zero
 obtain ⟨W1, hW1⟩ : ∃ W1, w.alloc (.cells #[.int .i64 dk, .string nm, .int .i64 vs, a0, a1, a2, a3, a4, a5, a6, a7, b0, b1, b2, b3, b4, b5, b6, b7, .int .i64 pa, .slice cA cts.length cc] 30) = W1 := ⟨_, rfl⟩
 have huW1 : Upd nob w W1 := by rw [← hW1]; exact (Upd.refl nob w).alloc _
 have hsW1 : W1.heap.size = w.heap.size + 1 := by rw [← hW1]; simp
 have b0 : Blk W1 (w.heap.size) 30 #[.int .i64 dk, .string nm, .int .i64 vs, a0, a1, a2, a3, a4, a5, a6, a7, b0, b1, b2, b3, b4, b5, b6, b7, .int .i64 pa, .slice cA cts.length cc] := by
  rw [← hW1]
  have h := Blk.new (w) 30 #[.int .i64 dk, .string nm, .int .i64 vs, a0, a1, a2, a3, a4, a5, a6, a7, b0, b1, b2, b3, b4, b5, b6, b7, .int .i64 pa, .slice cA cts.length cc]
  exact h
 have HB0 := Lib.hid b0
 clear b0
 go_enter Try.func3, Try.ntmps3
 have r0 := HB0.out.rowAt
 go_wp2_with (first
     | ((with_reducible refine this_op (.load 30 (.tmp 1)) ?_); refine wpList_at rfl 30 (.tmp 1) rfl ⟨w.heap.size, 0, none⟩ rfl _ _ r0 Try.underlying30 rfl dc_size ?_))
 have HW1 := Lib.hid hW1
 clear hW1 r0
 refine (light_any dk nm vs pa a0 a1 a2 a3 a4 a5 a6 a7 b0 b1 b2 b3 b4 b5 b6 b7 cA cts.length cc W1).mono ?_
 rintro e w1 ⟨rfl, hb1⟩
 rw [t1]
 have hu1 : Upd nob W1 w1 := Upd.of_below hb1
 have HB1 := Lib.hid (HB0.out.upd hu1 (fun f => f))
 go_wp2_with fail
 refine (awake_any w1).mono ?_
 rintro e w2 ⟨rfl, hb2⟩
 go_wp2_with fail
 go_ret
 exact ⟨rfl, ((huW1.trans hu1).trans (Upd.of_below hb2)).below⟩
theorem shapeof_bad (dk : Int) (nm : ByteArray) (vs pa : Int) (ty : Tm) (cts : List (ByteArray × Tm)) (a0 a1 a2 a3 a4 a5 a6 a7 b0 b1 b2 b3 b4 b5 b6 b7 : Value) (cA : Option Addr) (cc : Nat) (D : Nat → Prop) (w : World)
    (hD : Within D w) (ht : TmIs D w ty #[a0, a1, a2, a3, a4, a5, a6, a7]) (hnm : nm.size ≤ 140737488351232) (hcs : CtorsAt D w cts cA) (hcl : cts.length * 120 ≤ 140737488351232)
    (hh : ty.height * 120 ≤ 140737488351232) (hhc : ∀ x, x ∈ cts → x.2.height * 120 ≤ 140737488351232) (hM : cts.length ≤ 20) (X Y : TShape) (c : Int) (hX : tof dk nm vs pa ty cts = (X, c)) (hY : rof dk nm vs pa ty cts = (Y, c)) (hc : c ≠ 0) (hz : X = zshape) :
    Calls Try.prog 3 #[.agg #[.int .i64 dk, .string nm, .int .i64 vs, a0, a1, a2, a3, a4, a5, a6, a7, b0, b1, b2, b3, b4, b5, b6, b7, .int .i64 pa, .slice cA cts.length cc]] w fun e w' => e = .returned (.bool true) ∧ Below w.heap.size w w' := by
 have HZ := Lib.hid hz
 clear hz
 have t1 : decide ((cts.length : Int) ≤ 20) = true := by simp; omega
 have hz2 := sh_zero
 obtain ⟨W1, hW1⟩ : ∃ W1, w.alloc (.cells #[.int .i64 dk, .string nm, .int .i64 vs, a0, a1, a2, a3, a4, a5, a6, a7, b0, b1, b2, b3, b4, b5, b6, b7, .int .i64 pa, .slice cA cts.length cc] 30) = W1 := ⟨_, rfl⟩
 have huW1 : Upd nob w W1 := by rw [← hW1]; exact (Upd.refl nob w).alloc _
 have hsW1 : W1.heap.size = w.heap.size + 1 := by rw [← hW1]; simp
 have b0 : Blk W1 (w.heap.size) 30 #[.int .i64 dk, .string nm, .int .i64 vs, a0, a1, a2, a3, a4, a5, a6, a7, b0, b1, b2, b3, b4, b5, b6, b7, .int .i64 pa, .slice cA cts.length cc] := by
  rw [← hW1]
  have h := Blk.new (w) 30 #[.int .i64 dk, .string nm, .int .i64 vs, a0, a1, a2, a3, a4, a5, a6, a7, b0, b1, b2, b3, b4, b5, b6, b7, .int .i64 pa, .slice cA cts.length cc]
  exact h
 have HB0 := Lib.hid b0
 clear b0
 go_enter Try.func3, Try.ntmps3
 have r0 := HB0.out.rowAt
 go_wp2_with (first
     | ((with_reducible refine this_op (.load 30 (.tmp 1)) ?_); refine wpList_at rfl 30 (.tmp 1) rfl ⟨w.heap.size, 0, none⟩ rfl _ _ r0 Try.underlying30 rfl dc_size ?_))
 have HW1 := Lib.hid hW1
 clear hW1 r0
 refine (light_any dk nm vs pa a0 a1 a2 a3 a4 a5 a6 a7 b0 b1 b2 b3 b4 b5 b6 b7 cA cts.length cc W1).mono ?_
 rintro e w1 ⟨rfl, hb1⟩
 rw [t1]
 have hu1 : Upd nob W1 w1 := Upd.of_below hb1
 have HB1 := Lib.hid (HB0.out.upd hu1 (fun f => f))
 have r1 := HB1.out.rowAt
 go_wp2_with (first
     | ((with_reducible refine this_op (.load 30 (.tmp 1)) ?_); refine wpList_at rfl 30 (.tmp 1) rfl ⟨w.heap.size, 0, none⟩ rfl _ _ r1 Try.underlying30 rfl dc_size ?_))
 have hu01 : Upd nob w w1 := huW1.trans hu1
 clear r1
 refine (tof_any dk nm vs pa ty cts a0 a1 a2 a3 a4 a5 a6 a7 b0 b1 b2 b3 b4 b5 b6 b7 cA cc D w1 (hD.up hu01) (ht.old (hD.old hu01) (fun _ h => h)) hnm (hcs.old (hD.old hu01) (fun _ h => h)) hcl hh hhc).mono ?_
 rintro e w2 ⟨cs2, rfl, hs2, hb2⟩
 rw [hX] at hs2
 have hX2 := congrArg Prod.snd hX
 simp only at hX2 hs2
 rw [hX2]
 have hu2 : Upd nob w1 w2 := Upd.of_below hb2
 have hu02 : Upd nob w w2 := hu01.trans hu2
 obtain ⟨k2, n2, B2, m2, d2, A2, e2, rfl, hk2, hl2⟩ := hs2.lit
 have HS2 := Lib.hid hs2
 have HL2 := Lib.hid hl2
 have HK2 := Lib.hid hk2
 have HB2 := Lib.hid (HB1.out.upd hu2 (fun f => f))
 clear hs2 hl2 hk2 hb2 hX2
 obtain ⟨W3, hW3⟩ : ∃ W3, w2.alloc (.cells #[.int .i64 X.1, .int .i64 k2, .int .i64 n2, .slice B2 m2 d2, .slice A2 X.2.2.length e2] 35) = W3 := ⟨_, rfl⟩
 have hu3 : Upd nob w2 W3 := by rw [← hW3]; exact (Upd.refl nob w2).alloc _
 have HG3 := Lib.hid (show Blk W3 w2.heap.size 35 #[.int .i64 X.1, .int .i64 k2, .int .i64 n2, .slice B2 m2 d2, .slice A2 X.2.2.length e2] by rw [← hW3]; exact Blk.new w2 _ _)
 have HB3 := Lib.hid (HB2.out.upd hu3 (fun f => f))
 have r3 := HB3.out.rowAt
 go_wp2_with (first
     | ((with_reducible refine this_op (.load 30 (.tmp 1)) ?_); refine wpList_at rfl 30 (.tmp 1) rfl ⟨w.heap.size, 0, none⟩ rfl _ _ r3 Try.underlying30 rfl dc_size ?_))
 have HW3 := Lib.hid hW3
 clear hW3
 have hu03 : Upd nob w W3 := hu02.trans hu3
 clear r3
 refine (rof_any dk nm vs pa ty cts a0 a1 a2 a3 a4 a5 a6 a7 b0 b1 b2 b3 b4 b5 b6 b7 cA cc D W3 (hD.up hu03) (ht.old (hD.old hu03) (fun _ h => h)) hnm (hcs.old (hD.old hu03) (fun _ h => h)) hcl hh hhc).mono ?_
 rintro e w4 ⟨cs4, rfl, hs4, hb4⟩
 rw [hY] at hs4
 have hY2 := congrArg Prod.snd hY
 simp only at hY2 hs4
 rw [hY2]
 have hu4 : Upd nob W3 w4 := Upd.of_below hb4
 have hu04 : Upd nob w w4 := hu03.trans hu4
 obtain ⟨k4, n4, B4, m4, d4, A4, e4, rfl, hk4, hl4⟩ := hs4.lit
 have HS4 := Lib.hid hs4
 have HL4 := Lib.hid hl4
 have HG4 := Lib.hid (HG3.out.upd hu4 (fun f => f))
 clear hs4 hl4 hk4 hb4 hY2
 obtain ⟨W5, hW5⟩ : ∃ W5, w4.alloc (.cells #[.int .i64 Y.1, .int .i64 k4, .int .i64 n4, .slice B4 m4 d4, .slice A4 Y.2.2.length e4] 35) = W5 := ⟨_, rfl⟩
 have hu5 : Upd nob w4 W5 := by rw [← hW5]; exact (Upd.refl nob w4).alloc _
 have HG5 := Lib.hid (show Blk W5 w4.heap.size 35 #[.int .i64 Y.1, .int .i64 k4, .int .i64 n4, .slice B4 m4 d4, .slice A4 Y.2.2.length e4] by rw [← hW5]; exact Blk.new w4 _ _)
 have hu05 : Upd nob w W5 := hu04.trans hu5
 have HT := HG4.out.upd hu5 (fun f => f)
 have HU := HG5.out
 have p0 : W5.cell? ⟨w2.heap.size, 0, none⟩ = some (.int .i64 X.1) := HT.cell 0
 have p1 : W5.cell? ⟨w2.heap.size, 1, none⟩ = some (.int .i64 k2) := HT.cell 1
 have p2 : W5.cell? ⟨w2.heap.size, 2, none⟩ = some (.int .i64 n2) := HT.cell 2
 have p3 : W5.cell? ⟨w2.heap.size, 3, none⟩ = some (.slice B2 m2 d2) := HT.cell 3
 have p4 : W5.cell? ⟨w2.heap.size, 4, none⟩ = some (.slice A2 X.2.2.length e2) := HT.cell 4
 have q0 : W5.cell? ⟨w4.heap.size, 0, none⟩ = some (.int .i64 Y.1) := HU.cell 0
 have q1 : W5.cell? ⟨w4.heap.size, 1, none⟩ = some (.int .i64 k4) := HU.cell 1
 have q2 : W5.cell? ⟨w4.heap.size, 2, none⟩ = some (.int .i64 n4) := HU.cell 2
 have q3 : W5.cell? ⟨w4.heap.size, 3, none⟩ = some (.slice B4 m4 d4) := HU.cell 3
 have q4 : W5.cell? ⟨w4.heap.size, 4, none⟩ = some (.slice A4 Y.2.2.length e4) := HU.cell 4
 have lt2 := HT.lt
 have lt4 := HU.lt
 clear HT HU
 have h0 : X.1 = 0 := by rw [HZ.out]; rfl
 have h1 : k2 = 0 := by rw [HK2.out, HZ.out]; rfl
 have h2 : X.2.2.length = 0 := by rw [HZ.out]; rfl
 rw [h0] at p0
 rw [h1] at p1
 rw [h2] at p4
 have t2 : decide (c = 0) = false := by simp [hc]
 go_wp2_with fail
 refine (awake_any W5).mono ?_
 rintro e w6 ⟨rfl, hb6⟩
 go_wp2_with fail
 go_ret
 exact ⟨rfl, (hu05.trans (Upd.of_below hb6)).below⟩
theorem shapeof_same (dk : Int) (nm : ByteArray) (vs pa : Int) (ty : Tm) (cts : List (ByteArray × Tm)) (a0 a1 a2 a3 a4 a5 a6 a7 b0 b1 b2 b3 b4 b5 b6 b7 : Value) (cA : Option Addr) (cc : Nat) (D : Nat → Prop) (w : World)
    (hD : Within D w) (ht : TmIs D w ty #[a0, a1, a2, a3, a4, a5, a6, a7]) (hnm : nm.size ≤ 140737488351232) (hcs : CtorsAt D w cts cA) (hcl : cts.length * 120 ≤ 140737488351232)
    (hh : ty.height * 120 ≤ 140737488351232) (hhc : ∀ x, x ∈ cts → x.2.height * 120 ≤ 140737488351232) (hM : cts.length ≤ 20) (X Y : TShape) (c : Int) (hX : tof dk nm vs pa ty cts = (X, c)) (hY : rof dk nm vs pa ty cts = (Y, c)) (hc : c = 0) (hX1 : X.2.2.length ≤ 1000000000) (hX2 : Y.2.2.length ≤ 1000000000) (hX3 : ∀ y, y ∈ X.2.2 → y.2.length ≤ 1000000000000) (hs : sameSh X Y = true) :
    Calls Try.prog 3 #[.agg #[.int .i64 dk, .string nm, .int .i64 vs, a0, a1, a2, a3, a4, a5, a6, a7, b0, b1, b2, b3, b4, b5, b6, b7, .int .i64 pa, .slice cA cts.length cc]] w fun e w' => e = .returned (.bool true) ∧ Below w.heap.size w w' := by
 have t1 : decide ((cts.length : Int) ≤ 20) = true := by simp; omega
 have hz2 := sh_zero
 obtain ⟨W1, hW1⟩ : ∃ W1, w.alloc (.cells #[.int .i64 dk, .string nm, .int .i64 vs, a0, a1, a2, a3, a4, a5, a6, a7, b0, b1, b2, b3, b4, b5, b6, b7, .int .i64 pa, .slice cA cts.length cc] 30) = W1 := ⟨_, rfl⟩
 have huW1 : Upd nob w W1 := by rw [← hW1]; exact (Upd.refl nob w).alloc _
 have hsW1 : W1.heap.size = w.heap.size + 1 := by rw [← hW1]; simp
 have b0 : Blk W1 (w.heap.size) 30 #[.int .i64 dk, .string nm, .int .i64 vs, a0, a1, a2, a3, a4, a5, a6, a7, b0, b1, b2, b3, b4, b5, b6, b7, .int .i64 pa, .slice cA cts.length cc] := by
  rw [← hW1]
  have h := Blk.new (w) 30 #[.int .i64 dk, .string nm, .int .i64 vs, a0, a1, a2, a3, a4, a5, a6, a7, b0, b1, b2, b3, b4, b5, b6, b7, .int .i64 pa, .slice cA cts.length cc]
  exact h
 have HB0 := Lib.hid b0
 clear b0
 go_enter Try.func3, Try.ntmps3
 have r0 := HB0.out.rowAt
 go_wp2_with (first
     | ((with_reducible refine this_op (.load 30 (.tmp 1)) ?_); refine wpList_at rfl 30 (.tmp 1) rfl ⟨w.heap.size, 0, none⟩ rfl _ _ r0 Try.underlying30 rfl dc_size ?_))
 have HW1 := Lib.hid hW1
 clear hW1 r0
 refine (light_any dk nm vs pa a0 a1 a2 a3 a4 a5 a6 a7 b0 b1 b2 b3 b4 b5 b6 b7 cA cts.length cc W1).mono ?_
 rintro e w1 ⟨rfl, hb1⟩
 rw [t1]
 have hu1 : Upd nob W1 w1 := Upd.of_below hb1
 have HB1 := Lib.hid (HB0.out.upd hu1 (fun f => f))
 have r1 := HB1.out.rowAt
 go_wp2_with (first
     | ((with_reducible refine this_op (.load 30 (.tmp 1)) ?_); refine wpList_at rfl 30 (.tmp 1) rfl ⟨w.heap.size, 0, none⟩ rfl _ _ r1 Try.underlying30 rfl dc_size ?_))
 have hu01 : Upd nob w w1 := huW1.trans hu1
 clear r1
 refine (tof_any dk nm vs pa ty cts a0 a1 a2 a3 a4 a5 a6 a7 b0 b1 b2 b3 b4 b5 b6 b7 cA cc D w1 (hD.up hu01) (ht.old (hD.old hu01) (fun _ h => h)) hnm (hcs.old (hD.old hu01) (fun _ h => h)) hcl hh hhc).mono ?_
 rintro e w2 ⟨cs2, rfl, hs2, hb2⟩
 rw [hX] at hs2
 have hX2 := congrArg Prod.snd hX
 simp only at hX2 hs2
 rw [hX2]
 have hu2 : Upd nob w1 w2 := Upd.of_below hb2
 have hu02 : Upd nob w w2 := hu01.trans hu2
 obtain ⟨k2, n2, B2, m2, d2, A2, e2, rfl, hk2, hl2⟩ := hs2.lit
 have HS2 := Lib.hid hs2
 have HL2 := Lib.hid hl2
 have HK2 := Lib.hid hk2
 have HB2 := Lib.hid (HB1.out.upd hu2 (fun f => f))
 clear hs2 hl2 hk2 hb2 hX2
 obtain ⟨W3, hW3⟩ : ∃ W3, w2.alloc (.cells #[.int .i64 X.1, .int .i64 k2, .int .i64 n2, .slice B2 m2 d2, .slice A2 X.2.2.length e2] 35) = W3 := ⟨_, rfl⟩
 have hu3 : Upd nob w2 W3 := by rw [← hW3]; exact (Upd.refl nob w2).alloc _
 have HG3 := Lib.hid (show Blk W3 w2.heap.size 35 #[.int .i64 X.1, .int .i64 k2, .int .i64 n2, .slice B2 m2 d2, .slice A2 X.2.2.length e2] by rw [← hW3]; exact Blk.new w2 _ _)
 have HB3 := Lib.hid (HB2.out.upd hu3 (fun f => f))
 have r3 := HB3.out.rowAt
 go_wp2_with (first
     | ((with_reducible refine this_op (.load 30 (.tmp 1)) ?_); refine wpList_at rfl 30 (.tmp 1) rfl ⟨w.heap.size, 0, none⟩ rfl _ _ r3 Try.underlying30 rfl dc_size ?_))
 have HW3 := Lib.hid hW3
 clear hW3
 have hu03 : Upd nob w W3 := hu02.trans hu3
 clear r3
 refine (rof_any dk nm vs pa ty cts a0 a1 a2 a3 a4 a5 a6 a7 b0 b1 b2 b3 b4 b5 b6 b7 cA cc D W3 (hD.up hu03) (ht.old (hD.old hu03) (fun _ h => h)) hnm (hcs.old (hD.old hu03) (fun _ h => h)) hcl hh hhc).mono ?_
 rintro e w4 ⟨cs4, rfl, hs4, hb4⟩
 rw [hY] at hs4
 have hY2 := congrArg Prod.snd hY
 simp only at hY2 hs4
 rw [hY2]
 have hu4 : Upd nob W3 w4 := Upd.of_below hb4
 have hu04 : Upd nob w w4 := hu03.trans hu4
 obtain ⟨k4, n4, B4, m4, d4, A4, e4, rfl, hk4, hl4⟩ := hs4.lit
 have HS4 := Lib.hid hs4
 have HL4 := Lib.hid hl4
 have HG4 := Lib.hid (HG3.out.upd hu4 (fun f => f))
 clear hs4 hl4 hk4 hb4 hY2
 obtain ⟨W5, hW5⟩ : ∃ W5, w4.alloc (.cells #[.int .i64 Y.1, .int .i64 k4, .int .i64 n4, .slice B4 m4 d4, .slice A4 Y.2.2.length e4] 35) = W5 := ⟨_, rfl⟩
 have hu5 : Upd nob w4 W5 := by rw [← hW5]; exact (Upd.refl nob w4).alloc _
 have HG5 := Lib.hid (show Blk W5 w4.heap.size 35 #[.int .i64 Y.1, .int .i64 k4, .int .i64 n4, .slice B4 m4 d4, .slice A4 Y.2.2.length e4] by rw [← hW5]; exact Blk.new w4 _ _)
 have hu05 : Upd nob w W5 := hu04.trans hu5
 have HT := HG4.out.upd hu5 (fun f => f)
 have HU := HG5.out
 have p0 : W5.cell? ⟨w2.heap.size, 0, none⟩ = some (.int .i64 X.1) := HT.cell 0
 have p1 : W5.cell? ⟨w2.heap.size, 1, none⟩ = some (.int .i64 k2) := HT.cell 1
 have p2 : W5.cell? ⟨w2.heap.size, 2, none⟩ = some (.int .i64 n2) := HT.cell 2
 have p3 : W5.cell? ⟨w2.heap.size, 3, none⟩ = some (.slice B2 m2 d2) := HT.cell 3
 have p4 : W5.cell? ⟨w2.heap.size, 4, none⟩ = some (.slice A2 X.2.2.length e2) := HT.cell 4
 have q0 : W5.cell? ⟨w4.heap.size, 0, none⟩ = some (.int .i64 Y.1) := HU.cell 0
 have q1 : W5.cell? ⟨w4.heap.size, 1, none⟩ = some (.int .i64 k4) := HU.cell 1
 have q2 : W5.cell? ⟨w4.heap.size, 2, none⟩ = some (.int .i64 n4) := HU.cell 2
 have q3 : W5.cell? ⟨w4.heap.size, 3, none⟩ = some (.slice B4 m4 d4) := HU.cell 3
 have q4 : W5.cell? ⟨w4.heap.size, 4, none⟩ = some (.slice A4 Y.2.2.length e4) := HU.cell 4
 have lt2 := HT.lt
 have lt4 := HU.lt
 clear HT HU
 subst hc
 have hD5 : Within (There W5) W5 := There_in W5
 have hu25 : Upd nob w2 W5 := ((hu3.trans hu4).trans hu5)
 have hs25 := (HS2.out.old (D' := There W5) (Within.old (Within.grow (hD.up hu01) hu2.size) hu25) (fun q hq => (Within.up (Within.grow (hD.up hu01) hu2.size) hu25) q hq))
 have hs45 := (HS4.out.old (D' := There W5) (Within.old (Within.grow (hD.up hu03) hu4.size) hu5) (fun q hq => (Within.up (Within.grow (hD.up hu03) hu4.size) hu5) q hq))
 go_wp2_with fail
 refine (sameSh_any X Y _ _ (There W5) W5 hD5 hs25 hs45 hX1 hX2 hX3).mono ?_
 rintro e w6 ⟨rfl, hb6⟩
 have hu6 : Upd nob W5 w6 := Upd.of_below hb6
 rw [hs]
 go_wp2_with fail
 refine (awake_any w6).mono ?_
 rintro e w7 ⟨rfl, hb7⟩
 go_wp2_with fail
 go_ret
 exact ⟨rfl, ((hu05.trans hu6).trans (Upd.of_below hb7)).below⟩
theorem shapeof_unsound (dk : Int) (nm : ByteArray) (vs pa : Int) (ty : Tm) (cts : List (ByteArray × Tm)) (a0 a1 a2 a3 a4 a5 a6 a7 b0 b1 b2 b3 b4 b5 b6 b7 : Value) (cA : Option Addr) (cc : Nat) (D : Nat → Prop) (w : World)
    (hD : Within D w) (ht : TmIs D w ty #[a0, a1, a2, a3, a4, a5, a6, a7]) (hnm : nm.size ≤ 140737488351232) (hcs : CtorsAt D w cts cA) (hcl : cts.length * 120 ≤ 140737488351232)
    (hh : ty.height * 120 ≤ 140737488351232) (hhc : ∀ x, x ∈ cts → x.2.height * 120 ≤ 140737488351232) (hM : cts.length ≤ 20) (X Y : TShape) (c : Int) (hX : tof dk nm vs pa ty cts = (X, c)) (hY : rof dk nm vs pa ty cts = (Y, c)) (hc : c = 0) (hX1 : X.2.2.length ≤ 1000000000) (hX2 : Y.2.2.length ≤ 1000000000) (hX3 : ∀ y, y ∈ X.2.2 → y.2.length ≤ 1000000000000) (hs : sameSh X Y = false) (hn : rsound Y.2.1 = false) :
    Calls Try.prog 3 #[.agg #[.int .i64 dk, .string nm, .int .i64 vs, a0, a1, a2, a3, a4, a5, a6, a7, b0, b1, b2, b3, b4, b5, b6, b7, .int .i64 pa, .slice cA cts.length cc]] w fun e w' => e = .returned (.bool true) ∧ Below w.heap.size w w' := by
 have t1 : decide ((cts.length : Int) ≤ 20) = true := by simp; omega
 have hz2 := sh_zero
 obtain ⟨W1, hW1⟩ : ∃ W1, w.alloc (.cells #[.int .i64 dk, .string nm, .int .i64 vs, a0, a1, a2, a3, a4, a5, a6, a7, b0, b1, b2, b3, b4, b5, b6, b7, .int .i64 pa, .slice cA cts.length cc] 30) = W1 := ⟨_, rfl⟩
 have huW1 : Upd nob w W1 := by rw [← hW1]; exact (Upd.refl nob w).alloc _
 have hsW1 : W1.heap.size = w.heap.size + 1 := by rw [← hW1]; simp
 have b0 : Blk W1 (w.heap.size) 30 #[.int .i64 dk, .string nm, .int .i64 vs, a0, a1, a2, a3, a4, a5, a6, a7, b0, b1, b2, b3, b4, b5, b6, b7, .int .i64 pa, .slice cA cts.length cc] := by
  rw [← hW1]
  have h := Blk.new (w) 30 #[.int .i64 dk, .string nm, .int .i64 vs, a0, a1, a2, a3, a4, a5, a6, a7, b0, b1, b2, b3, b4, b5, b6, b7, .int .i64 pa, .slice cA cts.length cc]
  exact h
 have HB0 := Lib.hid b0
 clear b0
 go_enter Try.func3, Try.ntmps3
 have r0 := HB0.out.rowAt
 go_wp2_with (first
     | ((with_reducible refine this_op (.load 30 (.tmp 1)) ?_); refine wpList_at rfl 30 (.tmp 1) rfl ⟨w.heap.size, 0, none⟩ rfl _ _ r0 Try.underlying30 rfl dc_size ?_))
 have HW1 := Lib.hid hW1
 clear hW1 r0
 refine (light_any dk nm vs pa a0 a1 a2 a3 a4 a5 a6 a7 b0 b1 b2 b3 b4 b5 b6 b7 cA cts.length cc W1).mono ?_
 rintro e w1 ⟨rfl, hb1⟩
 rw [t1]
 have hu1 : Upd nob W1 w1 := Upd.of_below hb1
 have HB1 := Lib.hid (HB0.out.upd hu1 (fun f => f))
 have r1 := HB1.out.rowAt
 go_wp2_with (first
     | ((with_reducible refine this_op (.load 30 (.tmp 1)) ?_); refine wpList_at rfl 30 (.tmp 1) rfl ⟨w.heap.size, 0, none⟩ rfl _ _ r1 Try.underlying30 rfl dc_size ?_))
 have hu01 : Upd nob w w1 := huW1.trans hu1
 clear r1
 refine (tof_any dk nm vs pa ty cts a0 a1 a2 a3 a4 a5 a6 a7 b0 b1 b2 b3 b4 b5 b6 b7 cA cc D w1 (hD.up hu01) (ht.old (hD.old hu01) (fun _ h => h)) hnm (hcs.old (hD.old hu01) (fun _ h => h)) hcl hh hhc).mono ?_
 rintro e w2 ⟨cs2, rfl, hs2, hb2⟩
 rw [hX] at hs2
 have hX2 := congrArg Prod.snd hX
 simp only at hX2 hs2
 rw [hX2]
 have hu2 : Upd nob w1 w2 := Upd.of_below hb2
 have hu02 : Upd nob w w2 := hu01.trans hu2
 obtain ⟨k2, n2, B2, m2, d2, A2, e2, rfl, hk2, hl2⟩ := hs2.lit
 have HS2 := Lib.hid hs2
 have HL2 := Lib.hid hl2
 have HK2 := Lib.hid hk2
 have HB2 := Lib.hid (HB1.out.upd hu2 (fun f => f))
 clear hs2 hl2 hk2 hb2 hX2
 obtain ⟨W3, hW3⟩ : ∃ W3, w2.alloc (.cells #[.int .i64 X.1, .int .i64 k2, .int .i64 n2, .slice B2 m2 d2, .slice A2 X.2.2.length e2] 35) = W3 := ⟨_, rfl⟩
 have hu3 : Upd nob w2 W3 := by rw [← hW3]; exact (Upd.refl nob w2).alloc _
 have HG3 := Lib.hid (show Blk W3 w2.heap.size 35 #[.int .i64 X.1, .int .i64 k2, .int .i64 n2, .slice B2 m2 d2, .slice A2 X.2.2.length e2] by rw [← hW3]; exact Blk.new w2 _ _)
 have HB3 := Lib.hid (HB2.out.upd hu3 (fun f => f))
 have r3 := HB3.out.rowAt
 go_wp2_with (first
     | ((with_reducible refine this_op (.load 30 (.tmp 1)) ?_); refine wpList_at rfl 30 (.tmp 1) rfl ⟨w.heap.size, 0, none⟩ rfl _ _ r3 Try.underlying30 rfl dc_size ?_))
 have HW3 := Lib.hid hW3
 clear hW3
 have hu03 : Upd nob w W3 := hu02.trans hu3
 clear r3
 refine (rof_any dk nm vs pa ty cts a0 a1 a2 a3 a4 a5 a6 a7 b0 b1 b2 b3 b4 b5 b6 b7 cA cc D W3 (hD.up hu03) (ht.old (hD.old hu03) (fun _ h => h)) hnm (hcs.old (hD.old hu03) (fun _ h => h)) hcl hh hhc).mono ?_
 rintro e w4 ⟨cs4, rfl, hs4, hb4⟩
 rw [hY] at hs4
 have hY2 := congrArg Prod.snd hY
 simp only at hY2 hs4
 rw [hY2]
 have hu4 : Upd nob W3 w4 := Upd.of_below hb4
 have hu04 : Upd nob w w4 := hu03.trans hu4
 obtain ⟨k4, n4, B4, m4, d4, A4, e4, rfl, hk4, hl4⟩ := hs4.lit
 have HS4 := Lib.hid hs4
 have HL4 := Lib.hid hl4
 have HG4 := Lib.hid (HG3.out.upd hu4 (fun f => f))
 clear hs4 hl4 hk4 hb4 hY2
 obtain ⟨W5, hW5⟩ : ∃ W5, w4.alloc (.cells #[.int .i64 Y.1, .int .i64 k4, .int .i64 n4, .slice B4 m4 d4, .slice A4 Y.2.2.length e4] 35) = W5 := ⟨_, rfl⟩
 have hu5 : Upd nob w4 W5 := by rw [← hW5]; exact (Upd.refl nob w4).alloc _
 have HG5 := Lib.hid (show Blk W5 w4.heap.size 35 #[.int .i64 Y.1, .int .i64 k4, .int .i64 n4, .slice B4 m4 d4, .slice A4 Y.2.2.length e4] by rw [← hW5]; exact Blk.new w4 _ _)
 have hu05 : Upd nob w W5 := hu04.trans hu5
 have HT := HG4.out.upd hu5 (fun f => f)
 have HU := HG5.out
 have p0 : W5.cell? ⟨w2.heap.size, 0, none⟩ = some (.int .i64 X.1) := HT.cell 0
 have p1 : W5.cell? ⟨w2.heap.size, 1, none⟩ = some (.int .i64 k2) := HT.cell 1
 have p2 : W5.cell? ⟨w2.heap.size, 2, none⟩ = some (.int .i64 n2) := HT.cell 2
 have p3 : W5.cell? ⟨w2.heap.size, 3, none⟩ = some (.slice B2 m2 d2) := HT.cell 3
 have p4 : W5.cell? ⟨w2.heap.size, 4, none⟩ = some (.slice A2 X.2.2.length e2) := HT.cell 4
 have q0 : W5.cell? ⟨w4.heap.size, 0, none⟩ = some (.int .i64 Y.1) := HU.cell 0
 have q1 : W5.cell? ⟨w4.heap.size, 1, none⟩ = some (.int .i64 k4) := HU.cell 1
 have q2 : W5.cell? ⟨w4.heap.size, 2, none⟩ = some (.int .i64 n4) := HU.cell 2
 have q3 : W5.cell? ⟨w4.heap.size, 3, none⟩ = some (.slice B4 m4 d4) := HU.cell 3
 have q4 : W5.cell? ⟨w4.heap.size, 4, none⟩ = some (.slice A4 Y.2.2.length e4) := HU.cell 4
 have lt2 := HT.lt
 have lt4 := HU.lt
 clear HT HU
 subst hc
 have hD5 : Within (There W5) W5 := There_in W5
 have hu25 : Upd nob w2 W5 := ((hu3.trans hu4).trans hu5)
 have hs25 := (HS2.out.old (D' := There W5) (Within.old (Within.grow (hD.up hu01) hu2.size) hu25) (fun q hq => (Within.up (Within.grow (hD.up hu01) hu2.size) hu25) q hq))
 have hs45 := (HS4.out.old (D' := There W5) (Within.old (Within.grow (hD.up hu03) hu4.size) hu5) (fun q hq => (Within.up (Within.grow (hD.up hu03) hu4.size) hu5) q hq))
 go_wp2_with fail
 refine (sameSh_any X Y _ _ (There W5) W5 hD5 hs25 hs45 hX1 hX2 hX3).mono ?_
 rintro e w6 ⟨rfl, hb6⟩
 have hu6 : Upd nob W5 w6 := Upd.of_below hb6
 rw [hs]
 have q1' := (hu6.cell (p := ⟨w4.heap.size, 1, none⟩) lt4 (fun f => f)).trans q1
 have q2' := (hu6.cell (p := ⟨w4.heap.size, 2, none⟩) lt4 (fun f => f)).trans q2
 have q3' := (hu6.cell (p := ⟨w4.heap.size, 3, none⟩) lt4 (fun f => f)).trans q3
 go_wp2_with fail
 have hl46 := HL4.out.old (D' := There w6) (Within.old (Within.grow (hD.up hu03) hu4.size) (hu5.trans hu6)) (fun q hq => (Within.up (Within.grow (hD.up hu03) hu4.size) (hu5.trans hu6)) q hq)
 refine (rsound_any Y.2.1 _ (There w6) w6 (There_in w6) hl46).mono ?_
 rintro e w7 ⟨rfl, hb7⟩
 rw [hn]
 have hu7 : Upd nob w6 w7 := Upd.of_below hb7
 go_wp2_with fail
 refine (awake_any w7).mono ?_
 rintro e w8 ⟨rfl, hb8⟩
 go_wp2_with fail
 go_ret
 exact ⟨rfl, (((hu05.trans hu6).trans hu7).trans (Upd.of_below hb8)).below⟩
theorem shapeof_any (dk : Int) (nm : ByteArray) (vs pa : Int) (ty : Tm) (cts : List (ByteArray × Tm)) (a0 a1 a2 a3 a4 a5 a6 a7 b0 b1 b2 b3 b4 b5 b6 b7 : Value) (cA : Option Addr) (cc : Nat) (D : Nat → Prop) (w : World)
    (hD : Within D w) (ht : TmIs D w ty #[a0, a1, a2, a3, a4, a5, a6, a7]) (hnm : nm.size ≤ 1048576) (hcs : CtorsAt D w cts cA) (hcl : cts.length ≤ 1048576)
    (hh : ty.wt ≤ 1048576) (hhc : ∀ x, x ∈ cts → x.1.size + x.2.wt ≤ 1048576) :
    Calls Try.prog 3 #[.agg #[.int .i64 dk, .string nm, .int .i64 vs, a0, a1, a2, a3, a4, a5, a6, a7, b0, b1, b2, b3, b4, b5, b6, b7, .int .i64 pa, .slice cA cts.length cc]] w fun e w' => e = .returned (.bool true) ∧ Below w.heap.size w w' := by
 have e1 := ty.height_wt
 have h1 : nm.size ≤ 140737488351232 := by omega
 have h2 : cts.length * 120 ≤ 140737488351232 := by omega
 have h3 : ty.height * 120 ≤ 140737488351232 := by omega
 have h4 : ∀ x, x ∈ cts → x.2.height * 120 ≤ 140737488351232 := fun x hx => by have := hhc x hx; have := x.2.height_wt; omega
 by_cases hM : cts.length ≤ 20
 · obtain ⟨l1, l2, l3⟩ := shape_law dk nm vs pa ty cts
   obtain ⟨⟨X, c⟩, hX⟩ : ∃ X, tof dk nm vs pa ty cts = X := ⟨_, rfl⟩
   obtain ⟨⟨Y, c'⟩, hY⟩ : ∃ Y, rof dk nm vs pa ty cts = Y := ⟨_, rfl⟩
   have m1 := tof_small dk nm vs pa ty cts
   have m2 := rof_small dk nm vs pa ty cts
   rw [hX] at l1 l2 l3 m1
   rw [hY] at l1 l3 m2
   simp only at l1 l2 l3 m1 m2
   subst l1
   by_cases hc : c = 0
   · have n1 : X.2.2.length ≤ 1000000000 := by omega
     have n2 : Y.2.2.length ≤ 1000000000 := by omega
     have n3 : ∀ y, y ∈ X.2.2 → y.2.length ≤ 1000000000000 := fun y hy => by
      obtain ⟨x, hx, h5⟩ := m1.2 y hy
      have := hhc x hx; have := x.2.height_wt; omega
     cases hs : sameSh X Y with
     | true => exact shapeof_same dk nm vs pa ty cts a0 a1 a2 a3 a4 a5 a6 a7 b0 b1 b2 b3 b4 b5 b6 b7 cA cc D w hD ht h1 hcs h2 h3 h4 hM X Y c hX hY hc n1 n2 n3 hs
     | false =>
      have hn : rsound Y.2.1 = false := (l3 hc).elim (fun h => by rw [hs] at h; cases h) id
      exact shapeof_unsound dk nm vs pa ty cts a0 a1 a2 a3 a4 a5 a6 a7 b0 b1 b2 b3 b4 b5 b6 b7 cA cc D w hD ht h1 hcs h2 h3 h4 hM X Y c hX hY hc n1 n2 n3 hs hn
   · exact shapeof_bad dk nm vs pa ty cts a0 a1 a2 a3 a4 a5 a6 a7 b0 b1 b2 b3 b4 b5 b6 b7 cA cc D w hD ht h1 hcs h2 h3 h4 hM X Y c hX hY hc (l2 hc)
 · exact shapeof_heavy dk nm vs pa ty cts a0 a1 a2 a3 a4 a5 a6 a7 b0 b1 b2 b3 b4 b5 b6 b7 cA cc D w hD ht h1 hcs h2 h3 h4 hM
end Go.Proofs.Ytiampoebdmflgaa

/- The row's last step from 'Below', whatever the arguments read. -/
namespace Go.Proofs.Ytiampoebdmflgaa
open Go.ChangeShapes Go.WideShapes Go.ChangeAt Go.RowKit
set_option linter.unusedVariables false
variable {H : Type} {enc : TypeId × Value → H} {P : Program}
theorem all_stay (hl : laidOutB P = true) {W W' : World} {sp : Nat → Bool} : ∀ {ts : List TypeId} {vs : List Value} {ds : List (DataW H)} {ps : List MemPlace}, DataW.TrodAll enc P W 0 (fun _ => true) true ts vs ds ps →
    (∀ t ∈ ts, P.readableRec t = true ∧ t < P.types.size) → (∀ p ∈ ps, W.sameAt W' p) → (∀ p ∈ ps, sp p.block = true) → DataW.TrodAll enc P W' 0 sp true ts vs ds ps
 | [], _, _, _, h, _, _, _ => by
  obtain ⟨rfl, rfl, rfl⟩ := trodAll_nil h
  exact trodAll_mk0
 | t :: ts, _, _, _, h, hr, hs, hp => by
  obtain ⟨v, vs, d, ds, p, q, rfl, rfl, rfl, h1, h2⟩ := trodAll_cons h
  exact trodAll_cons_mk (WideElems.Trod_stays hl (hr t (by simp)).1 (hr t (by simp)).2 h1 (fun x hx => hs x (by simp [hx])) (fun x hx => hp x (by simp [hx])))
   (all_stay hl h2 (fun u hu => hr u (by simp [hu])) (fun x hx => hs x (by simp [hx])) (fun x hx => hp x (by simp [hx])))
/-- The row's last step: nothing that was there is touched, one bool comes out, the arguments read as they did. -/
theorem post_keep {f : Func} {s : ChangeSpec} {apart fresh handsOn again : Bool} {W W' : World} {args : Array Value} {v : Value} {ds : List (DataW H)} {before : List MemPlace}
    (hl : laidOutB P = true) (hW : DataW.Whole enc P f.params.toList s.vars apart W args.toList ds [] before)
    (hA : DataW.TrodAll enc P W 0 (fun _ => true) true f.params.toList args.toList ds before)
    (hr : ∀ t ∈ f.params.toList, P.readableRec t = true ∧ t < P.types.size)
    (hres : ∀ (b : Nat) (sp : Nat → Bool) (hd : Bool), DataW.TrodAll enc P W' b sp hd f.resultTypes.toList (v.resultList f.resultTypes.size) (s.fn H (ds ++ [])).results [])
    (hargs : (s.fn H (ds ++ [])).args = ds) (hvars : s.vars = []) (hvars2 : (s.fn H (ds ++ [])).vars = [])
    (hb : Below W.heap.size W W')
    (hok : ∀ (j : Nat) (t : TypeId) (r : Value), f.resultTypes[j]? = some t → (v.resultList f.resultTypes.size)[j]? = some r → Value.okWide P W' .any 0 t r) :
    s.post enc P f apart fresh handsOn again W args v W' := by
 have hold : ∀ p ∈ before, (fun b => decide (b < W.heap.size)) p.block = true := fun p hp => by simpa using hW.lt p hp
 have hsame : ∀ p ∈ before, W.sameAt W' p := fun p hp => hb.same (hW.lt p hp)
 have hargs' : ∀ sp : Nat → Bool, (∀ p ∈ before, sp p.block = true) → DataW.TrodAll enc P W' 0 sp true f.params.toList args.toList (s.fn H (ds ++ [])).args before := fun sp hsp => by
  rw [hargs]; exact all_stay hl hA hr hsame hsp
 have hv : ∀ sp : Nat → Bool, DataW.TrodVars enc P W' sp s.vars (s.fn H (ds ++ [])).vars [] := fun sp => by rw [hvars, hvars2]; rfl
 refine ⟨ds, [], before, [], before, [], hW, hres _ _ _, hargs' _ hold, hv _, hb.frame _, fun _ => ?_⟩
 have hlt : ∀ p ∈ before, p.block < W.heap.size := fun p hp => hW.lt p hp
 obtain ⟨p, q, hA1, hV1, hpq, hz, hn⟩ := hW
 refine ⟨hok, _, _, ([] ++ before) ++ [], ⟨[] ++ before, [], trodAll_append (hargs' _ (fun _ _ => rfl)) (hres _ _ _), hv _, rfl, ?_, ?_⟩, ?_⟩
 · intro b off hp
   have hm := hp
   simp only [List.nil_append, List.append_nil] at hm
   rw [World.frozen?_of_block (w := W) (hb.block b (hlt _ hm))]
   exact hz b off hm
 · intro ha
   simpa using hn ha
 · intro p hp _
   simpa using hp
end Go.Proofs.Ytiampoebdmflgaa
