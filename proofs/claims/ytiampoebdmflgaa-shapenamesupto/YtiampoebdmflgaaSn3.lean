/- Texts put one behind the other: Zsnd, Ztidy, Zplus, Zboth, Znorm. -/
import Derived.Test.YtiampoebdmflgaaSn2
import Derived.Test.YtiampoebdmflgaaSn1
/- The reference's Sound. -/
namespace Go.Proofs.Ytiampoebdmflgaa
open Go.RowKit
set_option linter.unusedVariables false
set_option maxRecDepth 100000
set_option maxHeartbeats 4000000
set_option linter.unusedSimpArgs false
mutual
def rsnd : Lv → Nat → Nat → Bool × Nat
 | .mk k n ks, d, c => if 256 < d ∨ 1000 < c + 1 ∨ lar k < 0 ∨ (ks.length : Int) ≠ lar k then (false, c + 1)
  else if k = 1 then (decide (0 ≤ n) && decide (n ≤ 1099511627776), c + 1) else if k = 2 then (decide (0 ≤ n) && decide (n ≤ 1000), c + 1)
  else if k = 3 ∧ (n < 1 ∨ 1099511627776 < n) then (false, c + 1) else rsnds ks d (c + 1)
def rsnds : List Lv → Nat → Nat → Bool × Nat
 | [], _, c => (true, c)
 | l :: ls, d, c => if (rsnd l (d + 1) c).1 = true then rsnds ls d (rsnd l (d + 1) c).2 else (false, (rsnd l (d + 1) c).2)
end
def rsound (l : Lv) : Bool := (rsnd l 1 0).1
mutual
theorem rsnd_le : ∀ (l : Lv) (d c : Nat), (rsnd l d c).1 = true → (rsnd l d c).2 ≤ 1000
 | .mk k n ks, d, c, h => by
  rw [rsnd] at h ⊢
  by_cases h1 : 256 < d ∨ 1000 < c + 1 ∨ lar k < 0 ∨ (ks.length : Int) ≠ lar k
  · rw [if_pos h1] at h; cases h
  rw [if_neg h1] at h ⊢
  have hc : c + 1 ≤ 1000 := by omega
  by_cases h2 : k = 1
  · rw [if_pos h2]; exact hc
  rw [if_neg h2] at h ⊢
  by_cases h3 : k = 2
  · rw [if_pos h3]; exact hc
  rw [if_neg h3] at h ⊢
  by_cases h4 : k = 3 ∧ (n < 1 ∨ 1099511627776 < n)
  · rw [if_pos h4] at h; cases h
  rw [if_neg h4] at h ⊢
  exact rsnds_le ks d (c + 1) hc h
theorem rsnds_le : ∀ (l : List Lv) (d c : Nat), c ≤ 1000 → (rsnds l d c).1 = true → (rsnds l d c).2 ≤ 1000
 | [], _, c, hc, _ => by rw [rsnds]; exact hc
 | l :: ls, d, c, hc, h => by
  rw [rsnds] at h ⊢
  by_cases h1 : (rsnd l (d + 1) c).1 = true
  · rw [if_pos h1] at h ⊢
    exact rsnds_le ls d _ (rsnd_le l (d + 1) c h1) h
  rw [if_neg h1] at h; cases h
end
theorem rsnd_any (l : Lv) : ∀ (cs : Array Value) (D : Nat → Prop) (d cn nb : Nat) (w : World), LvIs D w l cs → Within D w → ¬ D nb → Blk w nb 3 #[.int .i64 cn] → cn ≤ 1000 → d ≤ 1000 →
    Calls Try.prog 42 #[.agg cs, .int .i64 d, .pointer (some ⟨nb, 0, none⟩)] w fun e w' =>
     e = .returned (.bool (rsnd l d cn).1) ∧ Blk w' nb 3 #[.int .i64 (rsnd l d cn).2] ∧ Upd (fun q => q = nb) w w' := by
 induction l using Lv.ind with
 | h k n ks ih =>
  intro cs D d cn nb w hl hD hnb hb hc hd
  have hz := lv_zero
  have hl0 := hl
  simp only [LvIs] at hl
  obtain ⟨A, c, rfl, hk, hn, hlen, hks⟩ := hl
  have hnbw := hb.lt
  obtain ⟨⟨X1, X2⟩, hX⟩ : ∃ X, rsnd (.mk k n ks) d cn = X := ⟨_, rfl⟩
  rw [hX]
  rw [rsnd] at hX
  have HX := Lib.hid hX; clear hX hl0
  have hcn : IntKind.i64.wrap ((cn : Int) + 1) = (cn : Int) + 1 := IntWalk.i64_in _ (by omega)
  have c1 : w.cell? ⟨nb, 0, none⟩ = some (.int .i64 cn) := hb.cell 0
  have z1 := hb.frozen 0
  obtain ⟨W1, hW1⟩ : ∃ W1, w.setCell ⟨nb, 0, none⟩ (.int .i64 ((cn : Int) + 1)) = W1 := ⟨_, rfl⟩
  have hu1 : Upd (fun q => q = nb) w W1 := by rw [← hW1]; exact (Upd.refl (fun q => q = nb) w).setCell (p := ⟨nb, 0, none⟩) (.inl rfl) _
  have hb1 : Blk W1 nb 3 #[.int .i64 ((cn : Int) + 1)] := by rw [← hW1]; exact hb.set 0 _
  have hs1 : W1.heap.size = w.heap.size := by rw [← hW1]; simp [World.setCell]
  obtain ⟨W2, hW2⟩ : ∃ W2, W1.alloc (.cells #[.int .i64 k, .int .i64 n, .slice A ks.length c] 24) = W2 := ⟨_, rfl⟩
  have hu2 : Upd nob W1 W2 := by rw [← hW2]; exact (Upd.refl nob W1).alloc _
  have hs2 : W2.heap.size = w.heap.size + 1 := by rw [← hW2]; simp [hs1]
  have bk2 : Blk W2 w.heap.size 24 #[.int .i64 k, .int .i64 n, .slice A ks.length c] := by rw [← hW2, ← hs1]; exact Blk.new _ _ _
  have hu02 : Upd (fun q => q = nb) w W2 := hu1.trans (hu2.mono (fun _ f => f.elim))
  have hb2 := hb1.upd hu2 (fun f => f)
  have ho2 : Old D w W2 := Old.of_upd hu02 fun q hq => ⟨fun h => hnb (h ▸ hq), hD q hq⟩
  have hD2 := hD.up hu02
  have k0 : W2.cell? ⟨w.heap.size, 0, none⟩ = some (.int .i64 k) := bk2.cell 0
  have k1 : W2.cell? ⟨w.heap.size, 1, none⟩ = some (.int .i64 n) := bk2.cell 1
  have k2 : W2.cell? ⟨w.heap.size, 2, none⟩ = some (.slice A ks.length c) := bk2.cell 2
  have c2 : W2.cell? ⟨nb, 0, none⟩ = some (.int .i64 ((cn : Int) + 1)) := hb2.cell 0
  have hks2 := hks.old ho2 (fun _ h => h)
  have hlt2 := bk2.lt
  have hnb2 : nb < W2.heap.size := by omega
  have HB2 := Lib.hid hb2
  have HKS := Lib.hid hks2
  rw [← hW1] at hW2
  have HW2 := Lib.hid hW2
  clear hW1 hW2 hb1 hb2 bk2 hks2 hks hb
  have hb2' : Blk W2 nb 3 #[.int .i64 ((cn + 1 : Nat) : Int)] := HB2.out
  have HB3 := Lib.hid hb2'
  obtain ⟨q, hq⟩ : ∃ q, lar k = q := ⟨_, rfl⟩
  have hTA : ∀ wx : World, Calls Try.prog 67 #[.int .i64 k] wx fun e w' => e = .returned (.int .i64 q) ∧ w' = wx := fun wx => hq ▸ rarity_any k wx
  have hx := HX.out
  rw [hq] at hx
  have hqk : (k = 1 → q = 0) ∧ (k = 2 → q = 0) := by rw [← hq]; exact ⟨fun h => by subst h; rfl, fun h => by subst h; rfl⟩
  have HX1 := Lib.hid hx
  have TA := Lib.hid hTA
  clear hb2' hTA hx HX hq
  have fin : ∀ W3 : World, Upd nob W2 W3 → (X1, X2) = (false, cn + 1) → (Ending.returned (Value.bool false) = .returned (.bool X1)) ∧ Blk W3 nb 3 #[.int .i64 X2] ∧ Upd (fun q => q = nb) w W3 := fun W3 hu h => by
   injection h with h1 h2
   subst h1 h2
   exact ⟨rfl, HB3.out.upd hu (fun f => f), hu02.trans (hu.mono (fun _ f => f.elim))⟩
  have FIN := Lib.hid fin
  clear fin
  by_cases ha : 256 < d
  · have hx := HX1.out
    rw [if_pos (.inl ha)] at hx
    have t1 : decide ((256 : Int) < d) = true := by simp; omega
    have HX2 := Lib.hid hx.symm
    clear HX1 hx
    go_enter Try.func42, Try.ntmps42
    go_wp2_with fail
    rw [HW2.out]
    refine wp_region_P (by kernel_rfl) ?_
    refine wpAny_of_held (S := fun X : World => ∀ p : Addr, p.block < W2.heap.size → X.cell? p = W2.cell? p) _ _ _ _ ?_
    have hS : ∀ p : Addr, p.block < W2.heap.size → W2.drew.cell? p = W2.cell? p := fun _ _ => rfl
    refine hT 0 ?_ rfl (by kernel_rfl) (by rfl) ?_ hS ?_
    rotate_left; · intro wx hx; clear hx; go_simp; with_reducible rfl
    try simp only [tl]
    refine hT 1 ?_ rfl (by kernel_rfl) (by rfl) ?_ hS ?_
    rotate_left; · intro wx hx; clear hx; go_simp; with_reducible rfl
    try simp only [tl]
    refine hT 2 ?_ rfl (by kernel_rfl) (by rfl) ?_ hS ?_
    rotate_left; · intro wx hx; clear hx; go_simp; with_reducible rfl
    try simp only [tl]
    refine wpAnyH_take (i := 3) (v := undef) rfl (by kernel_rfl) (by kernel_rfl) (by kernel_rfl) (fun _ _ _ h => h) (Or.inr ⟨by rfl, by rfl⟩) hS ?_
    try simp only [tl]
    refine wpAnyH_take (i := 4) (v := undef) rfl (by kernel_rfl) (by kernel_rfl) (by kernel_rfl) (fun _ _ _ h => h) (Or.inr ⟨by rfl, by rfl⟩) hS ?_
    try simp only [tl]
    refine wpAnyH_take (i := 5) (v := undef) rfl (by kernel_rfl) (by kernel_rfl) (by kernel_rfl) (fun _ _ _ h => h) (Or.inr ⟨by rfl, by rfl⟩) hS ?_
    try simp only [tl]
    refine wpAnyH_take (i := 6) (v := undef) rfl (by kernel_rfl) (by kernel_rfl) (by kernel_rfl) (fun _ _ _ h => h) (Or.inr ⟨by rfl, by rfl⟩) hS ?_
    try simp only [tl]
    refine hT 7 ?_ rfl (by kernel_rfl) (by rfl) ?_ hS ?_
    rotate_left; · intro wx hx; clear hx; go_simp; with_reducible rfl
    try simp only [tl]
    refine hT 8 ?_ rfl (by kernel_rfl) (by rfl) ?_ hS ?_
    rotate_left; · intro wx hx; clear hx; go_simp; with_reducible rfl
    try simp only [tl]
    refine wpAnyH_take (i := 9) (v := undef) rfl (by kernel_rfl) (by kernel_rfl) (by kernel_rfl) (fun _ _ _ h => h) (Or.inr ⟨by rfl, by rfl⟩) hS ?_
    try simp only [tl]
    refine wpAnyH_take (i := 10) (v := undef) rfl (by kernel_rfl) (by kernel_rfl) (by kernel_rfl) (fun _ _ _ h => h) (Or.inr ⟨by rfl, by rfl⟩) hS ?_
    try simp only [tl]
    refine wpAnyH_take (i := 11) (v := undef) rfl (by kernel_rfl) (by kernel_rfl) (by kernel_rfl) (fun _ _ _ h => h) (Or.inr ⟨by rfl, by rfl⟩) hS ?_
    try simp only [tl]
    refine wpAnyH_take (i := 12) (v := undef) rfl (by kernel_rfl) (by kernel_rfl) (by kernel_rfl) (fun _ _ _ h => h) (Or.inr ⟨by rfl, by rfl⟩) hS ?_
    try simp only [tl]
    refine hT 13 ?_ rfl (by kernel_rfl) (by rfl) ?_ hS ?_
    rotate_left; · intro wx hx; clear hx; go_simp; with_reducible rfl
    try simp only [tl]
    refine hT 14 ?_ rfl (by kernel_rfl) (by rfl) ?_ hS ?_
    rotate_left; · intro wx hx; clear hx; go_simp; with_reducible rfl
    try simp only [tl]
    refine wpAnyH_take (i := 15) (v := undef) rfl (by kernel_rfl) (by kernel_rfl) (by kernel_rfl) (fun _ _ _ h => h) (Or.inr ⟨by rfl, by rfl⟩) hS ?_
    try simp only [tl]
    refine wpAnyH_take (i := 16) (v := undef) rfl (by kernel_rfl) (by kernel_rfl) (by kernel_rfl) (fun _ _ _ h => h) (Or.inr ⟨by rfl, by rfl⟩) hS ?_
    try simp only [tl]
    refine wpAnyH_take (i := 17) (v := undef) rfl (by kernel_rfl) (by kernel_rfl) (by kernel_rfl) (fun _ _ _ h => h) (Or.inr ⟨by rfl, by rfl⟩) hS ?_
    try simp only [tl]
    refine wpAnyH_take (i := 18) (v := undef) rfl (by kernel_rfl) (by kernel_rfl) (by kernel_rfl) (fun _ _ _ h => h) (Or.inr ⟨by rfl, by rfl⟩) hS ?_
    try simp only [tl]
    refine wpAnyH_take (i := 19) (v := undef) rfl (by kernel_rfl) (by kernel_rfl) (by kernel_rfl) (fun _ _ _ h => h) (Or.inr ⟨by rfl, by rfl⟩) hS ?_
    try simp only [tl]
    refine wpAnyH_take (i := 20) (v := undef) rfl (by kernel_rfl) (by kernel_rfl) (by kernel_rfl) (fun _ _ _ h => h) (Or.inr ⟨by rfl, by rfl⟩) hS ?_
    try simp only [tl]
    refine wpAnyH_take (i := 21) (v := undef) rfl (by kernel_rfl) (by kernel_rfl) (by kernel_rfl) (fun _ _ _ h => h) (Or.inr ⟨by rfl, by rfl⟩) hS ?_
    try simp only [tl]
    refine hT 22 ?_ rfl (by kernel_rfl) (by rfl) ?_ hS ?_
    rotate_left; · intro wx hx; clear hx; go_simp; with_reducible rfl
    try simp only [tl]
    refine wpAnyH_done (by kernel_rfl) ?_ _
    refine NoPanic.normal ?_
    go_wp2_with fail
    go_ret
    exact FIN.out _ ((Upd.refl nob W2).drew) HX2.out
  have t1 : decide ((256 : Int) < d) = false := by simp; omega
  by_cases hb : 1000 < cn + 1
  · have hx := HX1.out
    rw [if_pos (.inr (.inl hb))] at hx
    have t2 : decide ((1000 : Int) < (cn : Int) + 1) = true := by simp; omega
    have HX2 := Lib.hid hx.symm
    clear HX1 hx
    go_enter Try.func42, Try.ntmps42
    go_wp2_with fail
    rw [HW2.out]
    refine wp_region_P (by kernel_rfl) ?_
    refine wpAny_of_held (S := fun X : World => ∀ p : Addr, p.block < W2.heap.size → X.cell? p = W2.cell? p) _ _ _ _ ?_
    have hS : ∀ p : Addr, p.block < W2.heap.size → W2.drew.cell? p = W2.cell? p := fun _ _ => rfl
    refine hT 0 ?_ rfl (by kernel_rfl) (by rfl) ?_ hS ?_
    rotate_left; · intro wx hx; clear hx; go_simp; with_reducible rfl
    try simp only [tl]
    refine hT 1 ?_ rfl (by kernel_rfl) (by rfl) ?_ hS ?_
    rotate_left; · intro wx hx; clear hx; go_simp; with_reducible rfl
    try simp only [tl]
    refine hT 2 ?_ rfl (by kernel_rfl) (by rfl) ?_ hS ?_
    rotate_left; · intro wx hx; clear hx; go_simp; with_reducible rfl
    try simp only [tl]
    refine hT 3 ?_ rfl (by kernel_rfl) (by rfl) ?_ hS ?_
    rotate_left; · intro wx hx; clear hx; go_simp; with_reducible rfl
    try simp only [tl]
    refine hT 4 ?_ rfl (by kernel_rfl) (by rfl) ?_ hS ?_
    rotate_left; · intro wx hx; clear hx; go_simp; with_reducible rfl
    try simp only [tl]
    refine hT 5 ?_ rfl (by kernel_rfl) (by rfl) ?_ hS ?_
    rotate_left
    · intro wx hx
      have q0 := (hx ⟨nb, 0, none⟩ hnb2).trans c2
      clear hx
      go_simp
      with_reducible rfl
    try simp only [tl]
    refine hT 6 ?_ rfl (by kernel_rfl) (by rfl) ?_ hS ?_
    rotate_left; · intro wx hx; clear hx; go_simp; with_reducible rfl
    try simp only [tl]
    refine hT 7 ?_ rfl (by kernel_rfl) (by rfl) ?_ hS ?_
    rotate_left; · intro wx hx; clear hx; go_simp; with_reducible rfl
    try simp only [tl]
    refine hT 8 ?_ rfl (by kernel_rfl) (by rfl) ?_ hS ?_
    rotate_left; · intro wx hx; clear hx; go_simp; with_reducible rfl
    try simp only [tl]
    refine wpAnyH_take (i := 9) (v := undef) rfl (by kernel_rfl) (by kernel_rfl) (by kernel_rfl) (fun _ _ _ h => h) (Or.inr ⟨by rfl, by rfl⟩) hS ?_
    try simp only [tl]
    refine wpAnyH_take (i := 10) (v := undef) rfl (by kernel_rfl) (by kernel_rfl) (by kernel_rfl) (fun _ _ _ h => h) (Or.inr ⟨by rfl, by rfl⟩) hS ?_
    try simp only [tl]
    refine wpAnyH_take (i := 11) (v := undef) rfl (by kernel_rfl) (by kernel_rfl) (by kernel_rfl) (fun _ _ _ h => h) (Or.inr ⟨by rfl, by rfl⟩) hS ?_
    try simp only [tl]
    refine wpAnyH_take (i := 12) (v := undef) rfl (by kernel_rfl) (by kernel_rfl) (by kernel_rfl) (fun _ _ _ h => h) (Or.inr ⟨by rfl, by rfl⟩) hS ?_
    try simp only [tl]
    refine hT 13 ?_ rfl (by kernel_rfl) (by rfl) ?_ hS ?_
    rotate_left; · intro wx hx; clear hx; go_simp; with_reducible rfl
    try simp only [tl]
    refine hT 14 ?_ rfl (by kernel_rfl) (by rfl) ?_ hS ?_
    rotate_left; · intro wx hx; clear hx; go_simp; with_reducible rfl
    try simp only [tl]
    refine wpAnyH_take (i := 15) (v := undef) rfl (by kernel_rfl) (by kernel_rfl) (by kernel_rfl) (fun _ _ _ h => h) (Or.inr ⟨by rfl, by rfl⟩) hS ?_
    try simp only [tl]
    refine wpAnyH_take (i := 16) (v := undef) rfl (by kernel_rfl) (by kernel_rfl) (by kernel_rfl) (fun _ _ _ h => h) (Or.inr ⟨by rfl, by rfl⟩) hS ?_
    try simp only [tl]
    refine wpAnyH_take (i := 17) (v := undef) rfl (by kernel_rfl) (by kernel_rfl) (by kernel_rfl) (fun _ _ _ h => h) (Or.inr ⟨by rfl, by rfl⟩) hS ?_
    try simp only [tl]
    refine wpAnyH_take (i := 18) (v := undef) rfl (by kernel_rfl) (by kernel_rfl) (by kernel_rfl) (fun _ _ _ h => h) (Or.inr ⟨by rfl, by rfl⟩) hS ?_
    try simp only [tl]
    refine wpAnyH_take (i := 19) (v := undef) rfl (by kernel_rfl) (by kernel_rfl) (by kernel_rfl) (fun _ _ _ h => h) (Or.inr ⟨by rfl, by rfl⟩) hS ?_
    try simp only [tl]
    refine wpAnyH_take (i := 20) (v := undef) rfl (by kernel_rfl) (by kernel_rfl) (by kernel_rfl) (fun _ _ _ h => h) (Or.inr ⟨by rfl, by rfl⟩) hS ?_
    try simp only [tl]
    refine wpAnyH_take (i := 21) (v := undef) rfl (by kernel_rfl) (by kernel_rfl) (by kernel_rfl) (fun _ _ _ h => h) (Or.inr ⟨by rfl, by rfl⟩) hS ?_
    try simp only [tl]
    refine hT 22 ?_ rfl (by kernel_rfl) (by rfl) ?_ hS ?_
    rotate_left; · intro wx hx; clear hx; go_simp; with_reducible rfl
    try simp only [tl]
    refine wpAnyH_done (by kernel_rfl) ?_ _
    refine NoPanic.normal ?_
    go_wp2_with fail
    go_ret
    exact FIN.out _ ((Upd.refl nob W2).drew) HX2.out
  have t2 : decide ((1000 : Int) < (cn : Int) + 1) = false := by simp; omega
  by_cases hq0 : q < 0
  · have hx := HX1.out
    rw [if_pos (.inr (.inr (.inl hq0)))] at hx
    have t3 : decide (q < 0) = true := by simpa using hq0
    have HX2 := Lib.hid hx.symm
    clear HX1 hx
    go_enter Try.func42, Try.ntmps42
    go_wp2_with fail
    rw [HW2.out]
    refine wp_region_P (by kernel_rfl) ?_
    refine wpAny_of_held (S := fun X : World => ∀ p : Addr, p.block < W2.heap.size → X.cell? p = W2.cell? p) _ _ _ _ ?_
    have hS : ∀ p : Addr, p.block < W2.heap.size → W2.drew.cell? p = W2.cell? p := fun _ _ => rfl
    refine hT 0 ?_ rfl (by kernel_rfl) (by rfl) ?_ hS ?_
    rotate_left; · intro wx hx; clear hx; go_simp; with_reducible rfl
    try simp only [tl]
    refine hT 1 ?_ rfl (by kernel_rfl) (by rfl) ?_ hS ?_
    rotate_left; · intro wx hx; clear hx; go_simp; with_reducible rfl
    try simp only [tl]
    refine hT 2 ?_ rfl (by kernel_rfl) (by rfl) ?_ hS ?_
    rotate_left; · intro wx hx; clear hx; go_simp; with_reducible rfl
    try simp only [tl]
    refine hT 3 ?_ rfl (by kernel_rfl) (by rfl) ?_ hS ?_
    rotate_left; · intro wx hx; clear hx; go_simp; with_reducible rfl
    try simp only [tl]
    refine hT 4 ?_ rfl (by kernel_rfl) (by rfl) ?_ hS ?_
    rotate_left; · intro wx hx; clear hx; go_simp; with_reducible rfl
    try simp only [tl]
    refine hT 5 ?_ rfl (by kernel_rfl) (by rfl) ?_ hS ?_
    rotate_left
    · intro wx hx
      have q0 := (hx ⟨nb, 0, none⟩ hnb2).trans c2
      clear hx
      go_simp
      with_reducible rfl
    try simp only [tl]
    refine hT 6 ?_ rfl (by kernel_rfl) (by rfl) ?_ hS ?_
    rotate_left; · intro wx hx; clear hx; go_simp; with_reducible rfl
    try simp only [tl]
    refine hT 7 ?_ rfl (by kernel_rfl) (by rfl) ?_ hS ?_
    rotate_left; · intro wx hx; clear hx; go_simp; with_reducible rfl
    try simp only [tl]
    refine hT 8 ?_ rfl (by kernel_rfl) (by rfl) ?_ hS ?_
    rotate_left; · intro wx hx; clear hx; go_simp; with_reducible rfl
    try simp only [tl]
    refine hT 9 ?_ rfl (by kernel_rfl) (by rfl) ?_ hS ?_
    rotate_left; · intro wx hx; clear hx; go_simp; with_reducible rfl
    try simp only [tl]
    refine hT 10 ?_ rfl (by kernel_rfl) (by rfl) ?_ hS ?_
    rotate_left
    · intro wx hx
      have q0 := (hx ⟨w.heap.size, 0, none⟩ hlt2).trans k0
      clear hx
      go_simp
      with_reducible rfl
    try simp only [tl]
    refine wpAnyH_alone (i := 11) (by kernel_rfl) rfl (by rfl) fun K hK => ?_
    go_simp
    refine (TA.out W2.drew).mono ?_
    rintro e w4 ⟨rfl, rfl⟩
    refine hK _ _ (fun _ _ => rfl) ?_
    clear hK K; try simp only [tl]
    refine hT 12 ?_ rfl (by kernel_rfl) (by rfl) ?_ hS ?_
    rotate_left; · intro wx hx; clear hx; go_simp; with_reducible rfl
    try simp only [tl]
    refine hT 13 ?_ rfl (by kernel_rfl) (by rfl) ?_ hS ?_
    rotate_left; · intro wx hx; clear hx; go_simp; with_reducible rfl
    try simp only [tl]
    refine hT 14 ?_ rfl (by kernel_rfl) (by rfl) ?_ hS ?_
    rotate_left; · intro wx hx; clear hx; go_simp; with_reducible rfl
    try simp only [tl]
    refine wpAnyH_take (i := 15) (v := undef) rfl (by kernel_rfl) (by kernel_rfl) (by kernel_rfl) (fun _ _ _ h => h) (Or.inr ⟨by rfl, by rfl⟩) hS ?_
    try simp only [tl]
    refine wpAnyH_take (i := 16) (v := undef) rfl (by kernel_rfl) (by kernel_rfl) (by kernel_rfl) (fun _ _ _ h => h) (Or.inr ⟨by rfl, by rfl⟩) hS ?_
    try simp only [tl]
    refine wpAnyH_take (i := 17) (v := undef) rfl (by kernel_rfl) (by kernel_rfl) (by kernel_rfl) (fun _ _ _ h => h) (Or.inr ⟨by rfl, by rfl⟩) hS ?_
    try simp only [tl]
    refine wpAnyH_take (i := 18) (v := undef) rfl (by kernel_rfl) (by kernel_rfl) (by kernel_rfl) (fun _ _ _ h => h) (Or.inr ⟨by rfl, by rfl⟩) hS ?_
    try simp only [tl]
    refine wpAnyH_take (i := 19) (v := undef) rfl (by kernel_rfl) (by kernel_rfl) (by kernel_rfl) (fun _ _ _ h => h) (Or.inr ⟨by rfl, by rfl⟩) hS ?_
    try simp only [tl]
    refine wpAnyH_take (i := 20) (v := undef) rfl (by kernel_rfl) (by kernel_rfl) (by kernel_rfl) (fun _ _ _ h => h) (Or.inr ⟨by rfl, by rfl⟩) hS ?_
    try simp only [tl]
    refine wpAnyH_take (i := 21) (v := undef) rfl (by kernel_rfl) (by kernel_rfl) (by kernel_rfl) (fun _ _ _ h => h) (Or.inr ⟨by rfl, by rfl⟩) hS ?_
    try simp only [tl]
    refine hT 22 ?_ rfl (by kernel_rfl) (by rfl) ?_ hS ?_
    rotate_left; · intro wx hx; clear hx; go_simp; with_reducible rfl
    try simp only [tl]
    refine wpAnyH_done (by kernel_rfl) ?_ _
    refine NoPanic.normal ?_
    go_wp2_with fail
    go_ret
    exact FIN.out _ ((Upd.refl nob W2).drew) HX2.out
  have t3 : decide (q < 0) = false := by simpa using hq0
  by_cases hlq : (ks.length : Int) ≠ q
  · have hx := HX1.out
    rw [if_pos (.inr (.inr (.inr hlq)))] at hx
    have t4 : ((ks.length : Int) != q) = true := by simpa using hlq
    have HX2 := Lib.hid hx.symm
    clear HX1 hx
    go_enter Try.func42, Try.ntmps42
    go_wp2_with fail
    rw [HW2.out]
    refine wp_region_P (by kernel_rfl) ?_
    refine wpAny_of_held (S := fun X : World => ∀ p : Addr, p.block < W2.heap.size → X.cell? p = W2.cell? p) _ _ _ _ ?_
    have hS : ∀ p : Addr, p.block < W2.heap.size → W2.drew.cell? p = W2.cell? p := fun _ _ => rfl
    refine hT 0 ?_ rfl (by kernel_rfl) (by rfl) ?_ hS ?_
    rotate_left; · intro wx hx; clear hx; go_simp; with_reducible rfl
    try simp only [tl]
    refine hT 1 ?_ rfl (by kernel_rfl) (by rfl) ?_ hS ?_
    rotate_left; · intro wx hx; clear hx; go_simp; with_reducible rfl
    try simp only [tl]
    refine hT 2 ?_ rfl (by kernel_rfl) (by rfl) ?_ hS ?_
    rotate_left; · intro wx hx; clear hx; go_simp; with_reducible rfl
    try simp only [tl]
    refine hT 3 ?_ rfl (by kernel_rfl) (by rfl) ?_ hS ?_
    rotate_left; · intro wx hx; clear hx; go_simp; with_reducible rfl
    try simp only [tl]
    refine hT 4 ?_ rfl (by kernel_rfl) (by rfl) ?_ hS ?_
    rotate_left; · intro wx hx; clear hx; go_simp; with_reducible rfl
    try simp only [tl]
    refine hT 5 ?_ rfl (by kernel_rfl) (by rfl) ?_ hS ?_
    rotate_left
    · intro wx hx
      have q0 := (hx ⟨nb, 0, none⟩ hnb2).trans c2
      clear hx
      go_simp
      with_reducible rfl
    try simp only [tl]
    refine hT 6 ?_ rfl (by kernel_rfl) (by rfl) ?_ hS ?_
    rotate_left; · intro wx hx; clear hx; go_simp; with_reducible rfl
    try simp only [tl]
    refine hT 7 ?_ rfl (by kernel_rfl) (by rfl) ?_ hS ?_
    rotate_left; · intro wx hx; clear hx; go_simp; with_reducible rfl
    try simp only [tl]
    refine hT 8 ?_ rfl (by kernel_rfl) (by rfl) ?_ hS ?_
    rotate_left; · intro wx hx; clear hx; go_simp; with_reducible rfl
    try simp only [tl]
    refine hT 9 ?_ rfl (by kernel_rfl) (by rfl) ?_ hS ?_
    rotate_left; · intro wx hx; clear hx; go_simp; with_reducible rfl
    try simp only [tl]
    refine hT 10 ?_ rfl (by kernel_rfl) (by rfl) ?_ hS ?_
    rotate_left
    · intro wx hx
      have q0 := (hx ⟨w.heap.size, 0, none⟩ hlt2).trans k0
      clear hx
      go_simp
      with_reducible rfl
    try simp only [tl]
    refine wpAnyH_alone (i := 11) (by kernel_rfl) rfl (by rfl) fun K hK => ?_
    go_simp
    refine (TA.out W2.drew).mono ?_
    rintro e w4 ⟨rfl, rfl⟩
    refine hK _ _ (fun _ _ => rfl) ?_
    clear hK K; try simp only [tl]
    refine hT 12 ?_ rfl (by kernel_rfl) (by rfl) ?_ hS ?_
    rotate_left; · intro wx hx; clear hx; go_simp; with_reducible rfl
    try simp only [tl]
    refine hT 13 ?_ rfl (by kernel_rfl) (by rfl) ?_ hS ?_
    rotate_left; · intro wx hx; clear hx; go_simp; with_reducible rfl
    try simp only [tl]
    refine hT 14 ?_ rfl (by kernel_rfl) (by rfl) ?_ hS ?_
    rotate_left; · intro wx hx; clear hx; go_simp; with_reducible rfl
    try simp only [tl]
    refine hT 15 ?_ rfl (by kernel_rfl) (by rfl) ?_ hS ?_
    rotate_left; · intro wx hx; clear hx; go_simp; with_reducible rfl
    try simp only [tl]
    refine hT 16 ?_ rfl (by kernel_rfl) (by rfl) ?_ hS ?_
    rotate_left
    · intro wx hx
      have q0 := (hx ⟨w.heap.size, 2, none⟩ hlt2).trans k2
      clear hx
      go_simp
      with_reducible rfl
    try simp only [tl]
    refine hT 17 ?_ rfl (by kernel_rfl) (by rfl) ?_ hS ?_
    rotate_left; · intro wx hx; clear hx; go_simp; with_reducible rfl
    try simp only [tl]
    refine hT 18 ?_ rfl (by kernel_rfl) (by rfl) ?_ hS ?_
    rotate_left; · intro wx hx; clear hx; go_simp; with_reducible rfl
    try simp only [tl]
    refine hT 19 ?_ rfl (by kernel_rfl) (by rfl) ?_ hS ?_
    rotate_left
    · intro wx hx
      have q0 := (hx ⟨w.heap.size, 0, none⟩ hlt2).trans k0
      clear hx
      go_simp
      with_reducible rfl
    try simp only [tl]
    refine wpAnyH_alone (i := 20) (by kernel_rfl) rfl (by rfl) fun K hK => ?_
    go_simp
    refine (TA.out W2.drew).mono ?_
    rintro e w4 ⟨rfl, rfl⟩
    refine hK _ _ (fun _ _ => rfl) ?_
    clear hK K; try simp only [tl]
    refine hT 21 ?_ rfl (by kernel_rfl) (by rfl) ?_ hS ?_
    rotate_left; · intro wx hx; clear hx; go_simp; with_reducible rfl
    try simp only [tl]
    refine hT 22 ?_ rfl (by kernel_rfl) (by rfl) ?_ hS ?_
    rotate_left; · intro wx hx; clear hx; go_simp; with_reducible rfl
    try simp only [tl]
    refine wpAnyH_done (by kernel_rfl) ?_ _
    refine NoPanic.normal ?_
    go_wp2_with fail
    go_ret
    exact FIN.out _ ((Upd.refl nob W2).drew) HX2.out
  have t4 : ((ks.length : Int) != q) = false := by simpa using hlq
  have hx := HX1.out
  rw [if_neg (fun h => by rcases h with h | h | h | h; exact ha h; exact hb h; exact hq0 h; exact hlq h)] at hx
  have HX3 := Lib.hid hx
  clear hx HX1
  go_enter Try.func42, Try.ntmps42
  go_wp2_with fail
  rw [HW2.out]
  refine wp_region_P (by kernel_rfl) ?_
  refine wpAny_of_held (S := fun X : World => ∀ p : Addr, p.block < W2.heap.size → X.cell? p = W2.cell? p) _ _ _ _ ?_
  have hS : ∀ p : Addr, p.block < W2.heap.size → W2.drew.cell? p = W2.cell? p := fun _ _ => rfl
  refine hT 0 ?_ rfl (by kernel_rfl) (by rfl) ?_ hS ?_
  rotate_left; · intro wx hx; clear hx; go_simp; with_reducible rfl
  try simp only [tl]
  refine hT 1 ?_ rfl (by kernel_rfl) (by rfl) ?_ hS ?_
  rotate_left; · intro wx hx; clear hx; go_simp; with_reducible rfl
  try simp only [tl]
  refine hT 2 ?_ rfl (by kernel_rfl) (by rfl) ?_ hS ?_
  rotate_left; · intro wx hx; clear hx; go_simp; with_reducible rfl
  try simp only [tl]
  refine hT 3 ?_ rfl (by kernel_rfl) (by rfl) ?_ hS ?_
  rotate_left; · intro wx hx; clear hx; go_simp; with_reducible rfl
  try simp only [tl]
  refine hT 4 ?_ rfl (by kernel_rfl) (by rfl) ?_ hS ?_
  rotate_left; · intro wx hx; clear hx; go_simp; with_reducible rfl
  try simp only [tl]
  refine hT 5 ?_ rfl (by kernel_rfl) (by rfl) ?_ hS ?_
  rotate_left
  · intro wx hx
    have q0 := (hx ⟨nb, 0, none⟩ hnb2).trans c2
    clear hx
    go_simp
    with_reducible rfl
  try simp only [tl]
  refine hT 6 ?_ rfl (by kernel_rfl) (by rfl) ?_ hS ?_
  rotate_left; · intro wx hx; clear hx; go_simp; with_reducible rfl
  try simp only [tl]
  refine hT 7 ?_ rfl (by kernel_rfl) (by rfl) ?_ hS ?_
  rotate_left; · intro wx hx; clear hx; go_simp; with_reducible rfl
  try simp only [tl]
  refine hT 8 ?_ rfl (by kernel_rfl) (by rfl) ?_ hS ?_
  rotate_left; · intro wx hx; clear hx; go_simp; with_reducible rfl
  try simp only [tl]
  refine hT 9 ?_ rfl (by kernel_rfl) (by rfl) ?_ hS ?_
  rotate_left; · intro wx hx; clear hx; go_simp; with_reducible rfl
  try simp only [tl]
  refine hT 10 ?_ rfl (by kernel_rfl) (by rfl) ?_ hS ?_
  rotate_left
  · intro wx hx
    have q0 := (hx ⟨w.heap.size, 0, none⟩ hlt2).trans k0
    clear hx
    go_simp
    with_reducible rfl
  try simp only [tl]
  refine wpAnyH_alone (i := 11) (by kernel_rfl) rfl (by rfl) fun K hK => ?_
  go_simp
  refine (TA.out W2.drew).mono ?_
  rintro e w4 ⟨rfl, rfl⟩
  refine hK _ _ (fun _ _ => rfl) ?_
  clear hK K; try simp only [tl]
  refine hT 12 ?_ rfl (by kernel_rfl) (by rfl) ?_ hS ?_
  rotate_left; · intro wx hx; clear hx; go_simp; with_reducible rfl
  try simp only [tl]
  refine hT 13 ?_ rfl (by kernel_rfl) (by rfl) ?_ hS ?_
  rotate_left; · intro wx hx; clear hx; go_simp; with_reducible rfl
  try simp only [tl]
  refine hT 14 ?_ rfl (by kernel_rfl) (by rfl) ?_ hS ?_
  rotate_left; · intro wx hx; clear hx; go_simp; with_reducible rfl
  try simp only [tl]
  refine hT 15 ?_ rfl (by kernel_rfl) (by rfl) ?_ hS ?_
  rotate_left; · intro wx hx; clear hx; go_simp; with_reducible rfl
  try simp only [tl]
  refine hT 16 ?_ rfl (by kernel_rfl) (by rfl) ?_ hS ?_
  rotate_left
  · intro wx hx
    have q0 := (hx ⟨w.heap.size, 2, none⟩ hlt2).trans k2
    clear hx
    go_simp
    with_reducible rfl
  try simp only [tl]
  refine hT 17 ?_ rfl (by kernel_rfl) (by rfl) ?_ hS ?_
  rotate_left; · intro wx hx; clear hx; go_simp; with_reducible rfl
  try simp only [tl]
  refine hT 18 ?_ rfl (by kernel_rfl) (by rfl) ?_ hS ?_
  rotate_left; · intro wx hx; clear hx; go_simp; with_reducible rfl
  try simp only [tl]
  refine hT 19 ?_ rfl (by kernel_rfl) (by rfl) ?_ hS ?_
  rotate_left
  · intro wx hx
    have q0 := (hx ⟨w.heap.size, 0, none⟩ hlt2).trans k0
    clear hx
    go_simp
    with_reducible rfl
  try simp only [tl]
  refine wpAnyH_alone (i := 20) (by kernel_rfl) rfl (by rfl) fun K hK => ?_
  go_simp
  refine (TA.out W2.drew).mono ?_
  rintro e w4 ⟨rfl, rfl⟩
  refine hK _ _ (fun _ _ => rfl) ?_
  clear hK K; try simp only [tl]
  refine hT 21 ?_ rfl (by kernel_rfl) (by rfl) ?_ hS ?_
  rotate_left; · intro wx hx; clear hx; go_simp; with_reducible rfl
  try simp only [tl]
  refine hT 22 ?_ rfl (by kernel_rfl) (by rfl) ?_ hS ?_
  rotate_left; · intro wx hx; clear hx; go_simp; with_reducible rfl
  try simp only [tl]
  refine wpAnyH_done (by kernel_rfl) ?_ _
  refine NoPanic.normal ?_
  by_cases h1 : k = 1
  · subst h1
    have hx := HX3.out
    have hx9 : (decide (0 ≤ n) && decide (n ≤ 1099511627776), cn + 1) = (X1, X2) := by simpa using hx
    injection hx9 with h1 h2
    have hb9 := HB3.out.upd ((Upd.refl nob W2).drew) (fun f => f)
    rw [h2] at hb9
    have HB9 := Lib.hid hb9
    clear hx HX3 hb9
    by_cases hn0 : 0 ≤ n
    · have t5 : decide (0 ≤ n) = true := by simpa using hn0
      rw [t5, Bool.true_and] at h1
      have H1 := Lib.hid h1
      clear h1 HB3 HB2
      go_wp2_with fail
      go_ret
      exact ⟨by rw [← H1.out]; rfl, HB9.out, hu02.trans (((Upd.refl nob W2).drew).mono (fun _ f => f.elim))⟩
    have t5 : decide (0 ≤ n) = false := by simpa using hn0
    rw [t5, Bool.false_and] at h1
    have H1 := Lib.hid h1
    clear h1 HB3 HB2 hn0
    go_wp2_with fail
    go_ret
    exact ⟨by rw [← H1.out]; rfl, HB9.out, hu02.trans (((Upd.refl nob W2).drew).mono (fun _ f => f.elim))⟩
  have e1 : (k == 1) = false := by simpa using h1
  by_cases h2 : k = 2
  · subst h2
    have hx := HX3.out
    have hx9 : (decide (0 ≤ n) && decide (n ≤ 1000), cn + 1) = (X1, X2) := by simpa using hx
    injection hx9 with h1 h2
    have hb9 := HB3.out.upd ((Upd.refl nob W2).drew) (fun f => f)
    rw [h2] at hb9
    have HB9 := Lib.hid hb9
    clear hx HX3 hb9
    by_cases hn0 : 0 ≤ n
    · have t5 : decide (0 ≤ n) = true := by simpa using hn0
      rw [t5, Bool.true_and] at h1
      have H1 := Lib.hid h1
      clear h1 HB3 HB2
      go_wp2_with fail
      go_ret
      exact ⟨by rw [← H1.out]; rfl, HB9.out, hu02.trans (((Upd.refl nob W2).drew).mono (fun _ f => f.elim))⟩
    have t5 : decide (0 ≤ n) = false := by simpa using hn0
    rw [t5, Bool.false_and] at h1
    have H1 := Lib.hid h1
    clear h1 HB3 HB2 hn0
    go_wp2_with fail
    go_ret
    exact ⟨by rw [← H1.out]; rfl, HB9.out, hu02.trans (((Upd.refl nob W2).drew).mono (fun _ f => f.elim))⟩
  have e2 : (k == 2) = false := by simpa using h2
  by_cases h3 : k = 3
  · subst h3
    have hx := HX3.out
    rw [if_neg (by decide), if_neg (by decide)] at hx
    have hd9 : Upd nob W2 W2.drew := (Upd.refl nob W2).drew
    by_cases hn1 : n < 1
    · have t5 : decide (n < 1) = true := by simpa using hn1
      rw [if_pos ⟨rfl, .inl hn1⟩] at hx
      have HX4 := Lib.hid hx.symm
      clear hx HX3
      go_wp2_with fail
      go_ret
      exact FIN.out _ hd9 HX4.out
    have t5 : decide (n < 1) = false := by simpa using hn1
    by_cases hn2 : 1099511627776 < n
    · have t6 : decide (1099511627776 < n) = true := by simpa using hn2
      rw [if_pos ⟨rfl, .inr hn2⟩] at hx
      have HX4 := Lib.hid hx.symm
      clear hx HX3
      go_wp2_with fail
      go_ret
      exact FIN.out _ hd9 HX4.out
    have t6 : decide (1099511627776 < n) = false := by simpa using hn2
    rw [if_neg (fun h => h.2.elim hn1 hn2)] at hx
    have HXL := Lib.hid hx
    clear hx HX3
    go_wp2_with fail
    have hu3 : Upd nob W2 W2.drew := (Upd.refl nob W2).drew
    go_loopg [72] ks.length (fun r v wr => ∃ (j cc : Nat), j + r = ks.length ∧ v = .int .i64 j ∧ Blk wr nb 3 #[.int .i64 cc] ∧ cc ≤ 1000 ∧ rsnds (ks.drop j) d cc = (X1, X2) ∧ Upd (fun q => q = nb) W2 wr)
    case atStart => exact ⟨0, cn + 1, by omega, rfl, HB3.out, by omega, by rw [List.drop_zero]; exact HXL.out, hu3.mono (fun _ f => f.elim)⟩
    case round =>
     clear HXL HB2 HB3
     obtain ⟨j, cc, hj, rfl, hbc, hcc, hrc, hus⟩ := hrel
     have hws := hus.size
     have ho3 : Old D W2 wr := Old.of_upd hus fun q hq => ⟨fun h => hnb (h ▸ hq), hD2 q hq⟩
     have hDr : Within D wr := hD2.up hus
     have HBC := Lib.hid hbc
     have HRC := Lib.hid hrc
     clear hbc hrc
     by_cases hlt : j < ks.length
     · have t8 : decide ((j : Int) < ks.length) = true := by simp [hlt]
       obtain ⟨a, csj, hA, hab, hrow, hlj⟩ := HKS.out.at_ (List.getElem?_eq_getElem hlt)
       rw [Nat.zero_add] at hrow
       have hrow' := hrow.old ho3 (by rw [Addr_add_block]; exact hab)
       have hlj' := hlj.old ho3 (fun _ h => h)
       have hsj := hlj.oneCell
       have hsij : (Try.prog.info? 24).map (·.size) = some csj.size := by rw [hsj.1]; exact lv_size
       have hdr : ks.drop j = ks[j] :: ks.drop (j + 1) := List.drop_eq_getElem_cons hlt
       have hrc := HRC.out
       rw [hdr, rsnds] at hrc
       have HRC2 := Lib.hid hrc
       have HA := Lib.hid hA
       have HLJ := Lib.hid hlj'
       have HIH := Lib.hid (ih ks[j] (List.getElem_mem hlt))
       have hdd : IntKind.i64.wrap ((d : Int) + 1) = ((d + 1 : Nat) : Int) := (IntWalk.i64_in _ (by omega)).trans (by omega)
       clear hA hrc hdr HRC hrow hlj hlj'
       go_wp2_with (first
                                 | ((with_reducible refine this_op (.indexAddr 22 (.tmp 70) (.tmp 72)) ?_); refine wpList_index_at rfl 22 (.tmp 70) (.tmp 72) rfl _ a _ _ rfl HA.out j rfl hlt 24 Try.underlying22 3 lv_size ?_)
                                 | ((with_reducible refine this_op (.load 24 (.tmp 74)) ?_); refine wpList_at rfl 24 (.tmp 74) rfl (a.add (j * 3)) rfl _ _ hrow' Try.underlying24 rfl hsij ?_)
                                 | ((with_reducible refine this_op (.store 24 (.tmp 8) (.tmp 75)) ?_); refine wpList_store_row rfl 24 (.tmp 8) (.tmp 75) rfl wr.heap.size _ rfl rfl 24 _ (Blk.new wr _ _) hsij (by rw [hsj.1]; rfl) hsj.2 ?_
                                    obtain ⟨W7, hW7⟩ : ∃ W7, (wr.alloc (.cells #[.int .i64 0, .int .i64 0, .slice none 0 0] 24)).setRow wr.heap.size csj = W7 := ⟨_, rfl⟩
                                    have hu7 : Upd nob wr W7 := by rw [← hW7]; exact ((Upd.refl nob wr).alloc _).setRow (.inr (Nat.le_refl _)) _
                                    have hb7 : Blk W7 wr.heap.size 24 csj := by rw [← hW7]; exact (Blk.new wr _ _).row _
                                    rw [hW7]
                                    clear hW7
                                    have r7 := hb7.rowAt
                                    have HB7 := Lib.hid (HBC.out.upd hu7 (fun f => f))
                                    clear hb7)
                                 | ((with_reducible refine this_op (.load 24 (.tmp 8)) ?_); refine wpList_at rfl 24 (.tmp 8) rfl ⟨wr.heap.size, 0, none⟩ rfl _ _ r7 Try.underlying24 rfl hsij ?_))
       refine (HIH.out csj D (d + 1) cc nb W7 (HLJ.out.old (hDr.old hu7) (fun _ h => h)) (hDr.up hu7) hnb HB7.out hcc (by omega)).mono ?_
       rintro e w8 ⟨rfl, hb8, hu8⟩
       have hrc := HRC2.out
       have hle := rsnd_le ks[j] (d + 1) cc
       obtain ⟨⟨Y1, Y2⟩, hY⟩ : ∃ Y, rsnd ks[j] (d + 1) cc = Y := ⟨_, rfl⟩
       rw [hY] at hrc hb8 hle ⊢
       simp only at hrc hb8 hle ⊢
       have hu38 : Upd (fun q => q = nb) W2 w8 := hus.trans ((hu7.mono (fun _ f => f.elim)).trans hu8)
       have HB8 := Lib.hid hb8
       clear hb8 hY HRC2 r7
       cases Y1 with
       | true =>
        rw [if_pos rfl] at hrc
        have HRC4 := Lib.hid hrc
        have hle2 := hle rfl
        clear hrc hle
        go_wp2_with fail
        go_roundg (gk - 1)
        case measure => omega
        case rel => exact ⟨j + 1, Y2, by omega, by go_num, HB8.out, hle2, HRC4.out, hu38⟩
       | false =>
        rw [if_neg (by decide)] at hrc
        injection hrc with h1 h2
        subst h1 h2
        go_wp2_with fail
        go_ret
        exact ⟨rfl, HB8.out, hu02.trans hu38⟩
     have t8 : decide ((j : Int) < ks.length) = false := by simp; omega
     have hrc := HRC.out
     rw [List.drop_eq_nil_of_le (by omega), rsnds] at hrc
     injection hrc with h1 h2
     subst h1 h2
     clear HRC
     go_wp2_with fail
     go_ret
     exact ⟨rfl, HBC.out, hu02.trans hus⟩
  have e3 : (k == 3) = false := by simpa using h3
  have hx := HX3.out
  rw [if_neg h1, if_neg h2, if_neg (fun h => h3 h.1)] at hx
  have HXL := Lib.hid hx
  clear hx HX3
  go_wp2_with fail
  have hu3 : Upd nob W2 W2.drew := (Upd.refl nob W2).drew
  go_loopg [72] ks.length (fun r v wr => ∃ (j cc : Nat), j + r = ks.length ∧ v = .int .i64 j ∧ Blk wr nb 3 #[.int .i64 cc] ∧ cc ≤ 1000 ∧ rsnds (ks.drop j) d cc = (X1, X2) ∧ Upd (fun q => q = nb) W2 wr)
  case atStart => exact ⟨0, cn + 1, by omega, rfl, HB3.out, by omega, by rw [List.drop_zero]; exact HXL.out, hu3.mono (fun _ f => f.elim)⟩
  case round =>
   clear HXL HB2 HB3
   obtain ⟨j, cc, hj, rfl, hbc, hcc, hrc, hus⟩ := hrel
   have hws := hus.size
   have ho3 : Old D W2 wr := Old.of_upd hus fun q hq => ⟨fun h => hnb (h ▸ hq), hD2 q hq⟩
   have hDr : Within D wr := hD2.up hus
   have HBC := Lib.hid hbc
   have HRC := Lib.hid hrc
   clear hbc hrc
   by_cases hlt : j < ks.length
   · have t8 : decide ((j : Int) < ks.length) = true := by simp [hlt]
     obtain ⟨a, csj, hA, hab, hrow, hlj⟩ := HKS.out.at_ (List.getElem?_eq_getElem hlt)
     rw [Nat.zero_add] at hrow
     have hrow' := hrow.old ho3 (by rw [Addr_add_block]; exact hab)
     have hlj' := hlj.old ho3 (fun _ h => h)
     have hsj := hlj.oneCell
     have hsij : (Try.prog.info? 24).map (·.size) = some csj.size := by rw [hsj.1]; exact lv_size
     have hdr : ks.drop j = ks[j] :: ks.drop (j + 1) := List.drop_eq_getElem_cons hlt
     have hrc := HRC.out
     rw [hdr, rsnds] at hrc
     have HRC2 := Lib.hid hrc
     have HA := Lib.hid hA
     have HLJ := Lib.hid hlj'
     have HIH := Lib.hid (ih ks[j] (List.getElem_mem hlt))
     have hdd : IntKind.i64.wrap ((d : Int) + 1) = ((d + 1 : Nat) : Int) := (IntWalk.i64_in _ (by omega)).trans (by omega)
     clear hA hrc hdr HRC hrow hlj hlj'
     go_wp2_with (first
                         | ((with_reducible refine this_op (.indexAddr 22 (.tmp 70) (.tmp 72)) ?_); refine wpList_index_at rfl 22 (.tmp 70) (.tmp 72) rfl _ a _ _ rfl HA.out j rfl hlt 24 Try.underlying22 3 lv_size ?_)
                         | ((with_reducible refine this_op (.load 24 (.tmp 74)) ?_); refine wpList_at rfl 24 (.tmp 74) rfl (a.add (j * 3)) rfl _ _ hrow' Try.underlying24 rfl hsij ?_)
                         | ((with_reducible refine this_op (.store 24 (.tmp 8) (.tmp 75)) ?_); refine wpList_store_row rfl 24 (.tmp 8) (.tmp 75) rfl wr.heap.size _ rfl rfl 24 _ (Blk.new wr _ _) hsij (by rw [hsj.1]; rfl) hsj.2 ?_
                            obtain ⟨W7, hW7⟩ : ∃ W7, (wr.alloc (.cells #[.int .i64 0, .int .i64 0, .slice none 0 0] 24)).setRow wr.heap.size csj = W7 := ⟨_, rfl⟩
                            have hu7 : Upd nob wr W7 := by rw [← hW7]; exact ((Upd.refl nob wr).alloc _).setRow (.inr (Nat.le_refl _)) _
                            have hb7 : Blk W7 wr.heap.size 24 csj := by rw [← hW7]; exact (Blk.new wr _ _).row _
                            rw [hW7]
                            clear hW7
                            have r7 := hb7.rowAt
                            have HB7 := Lib.hid (HBC.out.upd hu7 (fun f => f))
                            clear hb7)
                         | ((with_reducible refine this_op (.load 24 (.tmp 8)) ?_); refine wpList_at rfl 24 (.tmp 8) rfl ⟨wr.heap.size, 0, none⟩ rfl _ _ r7 Try.underlying24 rfl hsij ?_))
     refine (HIH.out csj D (d + 1) cc nb W7 (HLJ.out.old (hDr.old hu7) (fun _ h => h)) (hDr.up hu7) hnb HB7.out hcc (by omega)).mono ?_
     rintro e w8 ⟨rfl, hb8, hu8⟩
     have hrc := HRC2.out
     have hle := rsnd_le ks[j] (d + 1) cc
     obtain ⟨⟨Y1, Y2⟩, hY⟩ : ∃ Y, rsnd ks[j] (d + 1) cc = Y := ⟨_, rfl⟩
     rw [hY] at hrc hb8 hle ⊢
     simp only at hrc hb8 hle ⊢
     have hu38 : Upd (fun q => q = nb) W2 w8 := hus.trans ((hu7.mono (fun _ f => f.elim)).trans hu8)
     have HB8 := Lib.hid hb8
     clear hb8 hY HRC2 r7
     cases Y1 with
     | true =>
      rw [if_pos rfl] at hrc
      have HRC4 := Lib.hid hrc
      have hle2 := hle rfl
      clear hrc hle
      go_wp2_with fail
      go_roundg (gk - 1)
      case measure => omega
      case rel => exact ⟨j + 1, Y2, by omega, by go_num, HB8.out, hle2, HRC4.out, hu38⟩
     | false =>
      rw [if_neg (by decide)] at hrc
      injection hrc with h1 h2
      subst h1 h2
      go_wp2_with fail
      go_ret
      exact ⟨rfl, HB8.out, hu02.trans hu38⟩
   have t8 : decide ((j : Int) < ks.length) = false := by simp; omega
   have hrc := HRC.out
   rw [List.drop_eq_nil_of_le (by omega), rsnds] at hrc
   injection hrc with h1 h2
   subst h1 h2
   clear HRC
   go_wp2_with fail
   go_ret
   exact ⟨rfl, HBC.out, hu02.trans hus⟩
theorem rsound_any (l : Lv) (cs : Array Value) (D : Nat → Prop) (w : World) (hD : Within D w) (hl : LvIs D w l cs) :
    Calls Try.prog 13 #[.agg cs] w fun e w' => e = .returned (.bool (rsound l)) ∧ Below w.heap.size w w' := by
 have hs := hl.oneCell
 have hsi : (Try.prog.info? 24).map (·.size) = some cs.size := by rw [hs.1]; exact lv_size
 obtain ⟨W1, hW1⟩ : ∃ W1, (w.alloc (.cells cs 24)).alloc (.cells #[.int .i64 0] 3) = W1 := ⟨_, rfl⟩
 have huW1 : Upd nob w W1 := by rw [← hW1]; exact ((Upd.refl nob w).alloc _).alloc _
 have hsW1 : W1.heap.size = w.heap.size + 2 := by rw [← hW1]; simp
 have bk0 : Blk W1 (w.heap.size) 24 cs := by
  rw [← hW1]
  have h := Blk.new (w) 24 cs
  exact h.alloc _
 have bk1 : Blk W1 (w.heap.size + 1) 3 #[.int .i64 0] := by
  rw [← hW1]
  have h := Blk.new (w.alloc (.cells cs 24)) 3 #[.int .i64 0]
  rw [World.size_alloc] at h
  exact h
 have hl1 := hl.old (hD.old huW1) (fun _ h => h)
 have hD1 := hD.up huW1
 have r0 := bk0.rowAt
 have HB1 := Lib.hid bk1
 have HW1 := Lib.hid hW1
 rw [← hW1] at r0
 have HL1 := Lib.hid hl1
 clear hW1 bk0 bk1 hl hl1
 go_enter Try.func13, Try.ntmps13
 go_wp2_with (first
     | ((with_reducible refine this_op (.load 24 (.tmp 1)) ?_); refine wpList_at rfl 24 (.tmp 1) rfl ⟨w.heap.size, 0, none⟩ rfl _ _ r0 Try.underlying24 rfl hsi ?_))
 rw [HW1.out]
 refine (rsnd_any l cs D 1 0 (w.heap.size + 1) W1 HL1.out hD1 (fun h => by have := hD _ h; omega) HB1.out (by omega) (by omega)).mono ?_
 rintro e w2 ⟨rfl, _, hu2⟩
 have hb : Below w.heap.size w w2 := (huW1.trans' hu2 (fun q hq h => by omega)).below
 clear r0
 go_wp2_with fail
 go_ret
 exact ⟨rfl, hb⟩
end Go.Proofs.Ytiampoebdmflgaa
/- The reference's tidy. -/
namespace Go.Proofs.Ytiampoebdmflgaa
open Go.RowKit
set_option linter.unusedVariables false
set_option maxRecDepth 100000
set_option maxHeartbeats 4000000
set_option linter.unusedSimpArgs false
def tstep (c x : Int) : Int := if c ≤ x then 0 else c
def Nm.tks (n : Nm) : List Int := n.ks.take (trimN n.ks n.ks.length)
def Nm.tidy (n : Nm) : Nm := ⟨n.tks.foldl tstep n.c, n.tks⟩
theorem tstep_ok : ∀ (l : List Int) (c : Int), 0 ≤ c ∧ c ≤ 1099511627776 → 0 ≤ l.foldl tstep c ∧ l.foldl tstep c ≤ 1099511627776
 | [], _, h => h
 | x :: l, c, h => by
  rw [List.foldl_cons]
  refine tstep_ok l _ ?_
  unfold tstep; split
  · exact ⟨by omega, by omega⟩
  exact h
theorem Nm.tidy_ok {n : Nm} (h : n.Ok) : n.tidy.Ok := by
 refine ⟨tstep_ok _ _ h.1, fun x hx => h.2.1 x (List.mem_of_mem_take hx), ?_⟩
 have := trimN_le n.ks n.ks.length
 simp only [Nm.tidy, Nm.tks, List.length_take]; have := h.2.2; omega
theorem fm_zero (w : World) : (zeroValue 132).run Try.prog w = .ok (.agg #[.int .i64 0, .slice none 0 0]) w := by kernel_rfl
theorem fm_size : (Try.prog.info? 132).map (·.size) = some 2 := by kernel_rfl
theorem rtidy_any (n : Nm) (cs : Array Value) (D : Nat → Prop) (w : World) (hD : Within D w) (hn : NmIs D w n cs) :
    Calls Try.prog 114 #[.agg cs] w fun e w' => ∃ cs', e = .returned (.agg cs') ∧ NmIs D w' n.tidy cs' ∧ Below w.heap.size w w' := by
 have hz := fm_zero
 obtain ⟨A, c, rfl, ⟨hok, hcap⟩, hzs⟩ := hn
 have hlen := hok.2.2
 have HOK := Lib.hid (Nm.tidy_ok hok)
 clear hok
 -- what is left at the end
 have fin : ∀ (z : Int) (k : Nat) (W' : World) (c' : Nat), k = trimN n.ks n.ks.length → z = n.tks.foldl tstep n.c → k ≤ c' → Upd nob w W' →
     ∃ cs', Ending.returned (.agg #[.int .i64 z, .slice A k c']) = .returned (.agg cs') ∧ NmIs D W' n.tidy cs' ∧ Below w.heap.size w W' := by
  intro z k W' c' hk hzz hkc hfin
  have h2 : n.tidy.ks.length = k := by
   have := trimN_le n.ks n.ks.length
   simp only [Nm.tidy, Nm.tks, List.length_take]; omega
  refine ⟨_, rfl, ⟨A, c', ?_, ⟨HOK.out, by rw [h2]; exact hkc⟩, ?_⟩, hfin.below⟩
  · have h1 : n.tidy.c = z := hzz.symm
    rw [h1, h2]
  intro j y hj
  refine (hzs.old (hD.old hfin) (fun _ h => h)) j y ?_
  simp only [Nm.tidy, Nm.tks] at hj
  rw [List.getElem?_take] at hj
  split at hj
  · exact hj
  cases hj
 have FIN := Lib.hid fin; clear fin
 obtain ⟨W1, hW1⟩ : ∃ W1, (w.alloc (.cells #[.int .i64 n.c, .slice A n.ks.length c] 132)).alloc (.cells #[.int .i64 0, .slice none 0 0] 132) = W1 := ⟨_, rfl⟩
 have huW1 : Upd nob w W1 := by rw [← hW1]; exact ((Upd.refl nob w).alloc _).alloc _
 have hsW1 : W1.heap.size = w.heap.size + 2 := by rw [← hW1]; simp
 have bk0 : Blk W1 (w.heap.size) 132 #[.int .i64 n.c, .slice A n.ks.length c] := by
  rw [← hW1]
  have h := Blk.new (w) 132 #[.int .i64 n.c, .slice A n.ks.length c]
  exact h.alloc _
 have bk1 : Blk W1 (w.heap.size + 1) 132 #[.int .i64 0, .slice none 0 0] := by
  rw [← hW1]
  have h := Blk.new (w.alloc (.cells #[.int .i64 n.c, .slice A n.ks.length c] 132)) 132 #[.int .i64 0, .slice none 0 0]
  rw [World.size_alloc] at h
  exact h
 have HB0 := Lib.hid bk0
 have HB1 := Lib.hid bk1
 have HW1 := Lib.hid hW1
 clear bk0 bk1 hW1
 by_cases hne : n.ks = []
 · have hl0 : n.ks.length = 0 := by rw [hne]; rfl
   have FIN0 : Hid (∀ (W' : World) (c' : Nat), Upd nob w W' → ∃ cs', (Ending.returned (.agg #[.int .i64 n.c, .slice A 0 c'])) = .returned (.agg cs') ∧ NmIs D W' n.tidy cs' ∧ Below w.heap.size w W') := Lib.hid fun W' c' h => FIN.out n.c 0 W' c' (by rw [hl0]; rfl) (by unfold Nm.tks; rw [hne]; rfl) (Nat.zero_le _) h
   rw [hl0] at HW1 HB0 ⊢
   have r1 := HB0.out.rowAt
   have HU1 := Lib.hid huW1
   clear hne hl0 FIN huW1
   go_enter Try.func114, Try.ntmps114
   go_wp2_with fail
   refine wp_loop_once ?_
   go_wp2_with fail
   refine wp_loop_once ?_
   rw [← HW1.out] at r1
   have hb1 := HB1.out
   rw [← HW1.out] at hb1
   go_wp2_with (first
           | ((with_reducible refine this_op (.load 132 (.tmp 1)) ?_); refine wpList_at rfl 132 (.tmp 1) rfl ⟨w.heap.size, 0, none⟩ rfl _ _ r1 Try.underlying132 rfl fm_size ?_)
           | ((with_reducible refine this_op (.store 132 (.tmp 2) (.tmp 41)) ?_); refine wpList_store_row rfl 132 (.tmp 2) (.tmp 41) rfl (w.heap.size + 1) _ rfl rfl 132 _ hb1 fm_size rfl (by simp [Value.oneCell']) ?_))
   refine bodyPost_ret (results_cell_row rfl _ _ (w.heap.size + 1) 132 #[.int .i64 n.c, .slice A 0 c] (0, 0) _ rfl (hb1.row _) Try.underlying132 rfl fm_size) rfl ?_
   exact FIN0.out _ c ((((Upd.refl nob w).alloc _).alloc _).setRow (.inr (by omega)) _)
 have h0 : 0 < n.ks.length := List.length_pos_iff.2 hne
 obtain ⟨a, hA, hab, _⟩ := hzs 0 _ (List.getElem?_eq_getElem h0)
 subst hA
 clear hne
 go_enter Try.func114, Try.ntmps114
 go_wp2_with fail
 rw [HW1.out]
 clear HW1
 go_loopg [19] n.ks.length (fun k _ wr => k ≤ n.ks.length ∧ trimN n.ks k = trimN n.ks n.ks.length ∧ Blk wr w.heap.size 132 #[.int .i64 n.c, .slice (some a) k c] ∧ Blk wr (w.heap.size + 1) 132 #[.int .i64 0, .slice none 0 0] ∧ Upd nob w wr)
 case atStart => exact ⟨Nat.le_refl _, rfl, HB0.out, HB1.out, huW1⟩
 case round =>
  clear HB0 HB1 huW1 hsW1
  obtain ⟨hk, htr, c0, c1, hu⟩ := hrel
  have q0 : wr.cell? ⟨w.heap.size, 0, none⟩ = some (.int .i64 n.c) := c0.cell 0
  have q1 : wr.cell? ⟨w.heap.size, 1, none⟩ = some (.slice (some a) gk c) := c0.cell 1
  have f1 := c0.frozen 1
  have C0 := Lib.hid c0
  have C1 := Lib.hid c1
  have HT := Lib.hid htr
  have hbl := c0.lt
  clear c0 c1 htr
  rcases Nat.eq_zero_or_pos gk with hk0 | hk0
  · subst hk0
    have HTK : Hid (0 = trimN n.ks n.ks.length) := HT
    have HC0 := C0
    have HC1 := C1
    go_wp2_with fail
    refine wp_loop_once ?_
    have r1 := C0.out.rowAt
    go_wp2_with (first
                | ((with_reducible refine this_op (.load 132 (.tmp 1)) ?_); refine wpList_at rfl 132 (.tmp 1) rfl ⟨w.heap.size, 0, none⟩ rfl _ _ r1 Try.underlying132 rfl fm_size ?_)
                | ((with_reducible refine this_op (.store 132 (.tmp 2) (.tmp 41)) ?_); refine wpList_store_row rfl 132 (.tmp 2) (.tmp 41) rfl (w.heap.size + 1) _ rfl rfl 132 _ C1.out fm_size rfl (by simp [Value.oneCell']) ?_))
    refine bodyPost_ret (results_cell_row rfl _ _ (w.heap.size + 1) 132 #[.int .i64 n.c, .slice (some a) 0 c] (0, 0) _ rfl (C1.out.row _) Try.underlying132 rfl fm_size) rfl ?_
    exact FIN.out n.c 0 _ c HTK.out (by unfold Nm.tks; rw [← HTK.out, List.take_zero]; rfl) (Nat.zero_le _) (hu.trans' ((Upd.refl (fun x => x = w.heap.size + 1) wr).setRow (.inl rfl) _) (fun x hx h => by omega))
  obtain ⟨k', rfl⟩ : ∃ k', gk = k' + 1 := ⟨gk - 1, by omega⟩
  have hlt : k' < n.ks.length := by omega
  obtain ⟨a', hA, _, hcell, _⟩ := hzs k' _ (List.getElem?_eq_getElem hlt)
  obtain rfl : a = a' := by simpa using hA
  obtain ⟨x, hx⟩ : ∃ x, n.ks[k'] = x := ⟨_, rfl⟩
  rw [hx] at hcell
  have hcell' : wr.cell? (a.add k') = some (.int .i64 x) := ((hD.old hu).cell (by rw [Addr_add_block]; exact hab)).trans hcell
  have hgd : n.ks.getD k' 0 = x := by simp [hlt, hx]
  have htr' : trimN n.ks (k' + 1) = if x < 0 then trimN n.ks k' else k' + 1 := by rw [trimN, hgd]
  have HT' := Lib.hid htr'
  clear hcell hA hgd htr'
  have t5 : decide (0 < k' + 1) = true := by simp
  have h5 : 0 < k' + 1 := by omega
  have hint : (((k' + 1 : Nat) : Int) - 1) = (k' : Int) := by omega
  by_cases hx0 : x < 0
  · have t2 : decide (x < 0) = true := by simp [hx0]
    go_wp2_with fail
    go_roundg k'
    case measure => omega
    case rel =>
     have hst : Upd nob w (wr.setCell ⟨w.heap.size, 1, none⟩ (.slice (some a) k' c)) := hu.setCell (p := ⟨w.heap.size, 1, none⟩) (.inr (Nat.le_refl _)) _
     refine ⟨by omega, ?_, C0.out.set 1 _, C1.out.far (p := ⟨w.heap.size, 1, none⟩) (by show w.heap.size + 1 ≠ w.heap.size; omega) _, hst⟩
     rw [← HT.out, HT'.out, if_pos hx0]
  have t2 : decide (x < 0) = false := by simp; omega
  have htk : k' + 1 = trimN n.ks n.ks.length := by rw [← HT.out, HT'.out, if_neg hx0]
  have HTK0 := Lib.hid htk
  clear htk HT HT'
  go_wp2_with fail
  obtain ⟨m, hm⟩ : ∃ m, k' + 1 = m := ⟨_, rfl⟩
  have HTK : Hid (m = trimN n.ks n.ks.length) := Lib.hid (hm ▸ HTK0.out)
  have hmk : m ≤ n.ks.length := by omega
  clear HTK0
  have C0m := C0.out
  have hm2 : ((k' : Int) + 1) = (m : Int) := by omega
  rw [hm] at C0m ⊢
  rw [hm2]
  clear hm2
  have hxm : k' < m := by omega
  clear hm hint h5 t5 hx0 t2 hx hcell' q0 q1 f1 C0
  have C0 := Lib.hid C0m
  clear C0m
  go_loopg [31] m (fun r v w2 => ∃ (j : Nat) (z : Int), j + r = m ∧ v = .int .i64 j ∧ Blk w2 w.heap.size 132 #[.int .i64 z, .slice (some a) m c] ∧ Blk w2 (w.heap.size + 1) 132 #[.int .i64 0, .slice none 0 0] ∧ (n.tks.drop j).foldl tstep z = n.tks.foldl tstep n.c ∧ Upd nob w w2)
  case atStart => exact ⟨0, n.c, by omega, rfl, C0.out, C1.out, by rw [List.drop_zero], hu⟩
  case round =>
   clear C0 C1 hu
   obtain ⟨j, z, hj, rfl, c0, c1, hfo, hu⟩ := hrel
   have q0 : wr.cell? ⟨w.heap.size, 0, none⟩ = some (.int .i64 z) := c0.cell 0
   have f0 := c0.frozen 0
   have r1 := c0.rowAt
   have C0 := Lib.hid c0
   have C1 := Lib.hid c1
   have HFO := Lib.hid hfo
   clear c0 c1 hfo
   have hzl : n.tks.length = m := by rw [Nm.tks, List.length_take, ← HTK.out]; omega
   have HZL := Lib.hid hzl
   clear hzl
   by_cases hlj : j < m
   · have t8 : decide ((j : Int) < m) = true := by simp [hlj]
     have hjn : j < n.ks.length := by omega
     obtain ⟨a', hA, _, hcell, _⟩ := hzs j _ (List.getElem?_eq_getElem hjn)
     obtain rfl : a = a' := by simpa using hA
     obtain ⟨x, hx⟩ : ∃ x, n.ks[j] = x := ⟨_, rfl⟩
     rw [hx] at hcell
     have hcell' : wr.cell? (a.add j) = some (.int .i64 x) := ((hD.old hu).cell (by rw [Addr_add_block]; exact hab)).trans hcell
     have hdr : n.tks.drop j = x :: n.tks.drop (j + 1) := by
      rw [List.drop_eq_getElem_cons (by rw [HZL.out]; exact hlj)]
      congr 1
      rw [← hx]
      simp only [Nm.tks, List.getElem_take]
     have hfo := HFO.out
     rw [hdr, List.foldl_cons] at hfo
     have HFO2 := Lib.hid hfo
     clear hA hx hcell hdr hfo HFO
     by_cases hzx : z ≤ x
     · have t9 : decide (z ≤ x) = true := by simpa using hzx
       go_wp2_with fail
       go_roundg (gk - 1)
       case measure => omega
       case rel =>
        have hst : Upd nob w (wr.setCell ⟨w.heap.size, 0, none⟩ (.int .i64 0)) := hu.setCell (p := ⟨w.heap.size, 0, none⟩) (.inr (Nat.le_refl _)) _
        refine ⟨j + 1, 0, by omega, by go_num, C0.out.set 0 _, C1.out.far (p := ⟨w.heap.size, 0, none⟩) (by show w.heap.size + 1 ≠ w.heap.size; omega) _, ?_, hst⟩
        rw [← HFO2.out, tstep, if_pos hzx]
     have t9 : decide (z ≤ x) = false := by simpa using hzx
     go_wp2_with fail
     go_roundg (gk - 1)
     case measure => omega
     case rel =>
      refine ⟨j + 1, z, by omega, by go_num, C0.out, C1.out, ?_, hu⟩
      rw [← HFO2.out, tstep, if_neg (by omega)]
   have t8 : decide ((j : Int) < m) = false := by simp; omega
   have hfo := HFO.out
   rw [List.drop_eq_nil_of_le (by rw [HZL.out]; omega), List.foldl_nil] at hfo
   have HFO2 := Lib.hid hfo
   clear hfo HFO
   go_wp2_with (first
                     | ((with_reducible refine this_op (.load 132 (.tmp 1)) ?_); refine wpList_at rfl 132 (.tmp 1) rfl ⟨w.heap.size, 0, none⟩ rfl _ _ r1 Try.underlying132 rfl fm_size ?_)
                     | ((with_reducible refine this_op (.store 132 (.tmp 2) (.tmp 41)) ?_); refine wpList_store_row rfl 132 (.tmp 2) (.tmp 41) rfl (w.heap.size + 1) _ rfl rfl 132 _ C1.out fm_size rfl (by simp [Value.oneCell']) ?_))
   refine bodyPost_ret (results_cell_row rfl _ _ (w.heap.size + 1) 132 #[.int .i64 z, .slice (some a) m c] (0, 0) _ rfl (C1.out.row _) Try.underlying132 rfl fm_size) rfl ?_
   exact FIN.out z m _ c HTK.out HFO2.out (by omega) (hu.trans' ((Upd.refl (fun x => x = w.heap.size + 1) wr).setRow (.inl rfl) _) (fun x hx h => by omega))
end Go.Proofs.Ytiampoebdmflgaa
/- The reference's plus. -/
namespace Go.Proofs.Ytiampoebdmflgaa
open Go.RowKit
set_option linter.unusedVariables false
set_option maxRecDepth 100000
set_option maxHeartbeats 4000000
set_option linter.unusedSimpArgs false
def rplus1 (k x : Int) : Int := if 0 ≤ x then min (x + k) 1099511627776 else x
def Nm.rpl (n : Nm) (k : Int) : Nm := ⟨if n.ks = [] ∨ 0 < n.c then min (n.c + k) 1099511627776 else n.c, n.ks.map (rplus1 k)⟩
def Nm.rplus (n : Nm) (k : Int) : Nm := (n.rpl k).tidy
theorem Nm.rpl_ok {n : Nm} {k : Int} (h : n.Ok) (hk : 0 ≤ k) : (n.rpl k).Ok := by
 refine ⟨?_, fun x hx => ?_, by simpa [Nm.rpl] using h.2.2⟩
 · simp only [Nm.rpl]; have := h.1; split <;> omega
 simp only [Nm.rpl, List.mem_map] at hx
 obtain ⟨y, hy, rfl⟩ := hx
 have := h.2.1 y hy
 unfold rplus1; split <;> omega
theorem rplus_any (n : Nm) (k : Int) (cs : Array Value) (D : Nat → Prop) (w : World) (hk0 : 0 ≤ k) (hk1 : k ≤ 1099511627776) (hD : Within D w) (hn : NmIs D w n cs) :
    Calls Try.prog 88 #[.agg cs, .int .i64 k] w fun e w' => ∃ cs', e = .returned (.agg cs') ∧ NmIs (fresh w w') w' (n.rplus k) cs' ∧ Below w.heap.size w w' := by
 have hz := fm_zero
 obtain ⟨A, c, rfl, ⟨hok, hcap⟩, hzs⟩ := hn
 have hok2 := Nm.rpl_ok (k := k) hok hk0
 obtain ⟨⟨hc0, hc1⟩, hx, hlen⟩ := hok
 have HX := Lib.hid hx; clear hx
 obtain ⟨C, hC⟩ : ∃ C, (if n.ks = [] ∨ 0 < n.c then min (n.c + k) 1099511627776 else n.c) = C := ⟨_, rfl⟩
 have hrp : n.rpl k = ⟨C, n.ks.map (rplus1 k)⟩ := by unfold Nm.rpl; rw [hC]
 have hX : n.rplus k = (Nm.mk C (n.ks.map (rplus1 k))).tidy := by unfold Nm.rplus; rw [hrp]
 rw [hX]
 rw [hrp] at hok2
 have HFO := Lib.hid hok2
 have HC := Lib.hid hC
 clear hok2 hrp hX hC
 obtain ⟨W1, hW1⟩ : ∃ W1, ((w.alloc (.cells #[.int .i64 n.c, .slice A n.ks.length c] 132)).alloc (.cells #[.int .i64 0, .slice none 0 0] 132)).alloc (.cells #[.int .i64 C, .slice none 0 0] 132) = W1 := ⟨_, rfl⟩
 have huW1 : Upd nob w W1 := by rw [← hW1]; exact (((Upd.refl nob w).alloc _).alloc _).alloc _
 have hsW1 : W1.heap.size = w.heap.size + 3 := by rw [← hW1]; simp
 have bk0 : Blk W1 (w.heap.size) 132 #[.int .i64 n.c, .slice A n.ks.length c] := by
  rw [← hW1]
  have h := Blk.new (w) 132 #[.int .i64 n.c, .slice A n.ks.length c]
  exact (h.alloc _).alloc _
 have bk1 : Blk W1 (w.heap.size + 1) 132 #[.int .i64 0, .slice none 0 0] := by
  rw [← hW1]
  have h := Blk.new (w.alloc (.cells #[.int .i64 n.c, .slice A n.ks.length c] 132)) 132 #[.int .i64 0, .slice none 0 0]
  rw [World.size_alloc] at h
  exact h.alloc _
 have bk2 : Blk W1 (w.heap.size + 1 + 1) 132 #[.int .i64 C, .slice none 0 0] := by
  rw [← hW1]
  have h := Blk.new ((w.alloc (.cells #[.int .i64 n.c, .slice A n.ks.length c] 132)).alloc (.cells #[.int .i64 0, .slice none 0 0] 132)) 132 #[.int .i64 C, .slice none 0 0]
  rw [World.size_alloc, World.size_alloc] at h
  exact h
 have hck : IntKind.i64.wrap (n.c + k) = n.c + k := IntWalk.i64_in _ (by omega)
 have HB1 := Lib.hid bk1
 have HB2 := Lib.hid bk2
 have HW1 := Lib.hid hW1
 have HB0 := Lib.hid bk0
 clear bk0 bk1 bk2 hW1
 by_cases he : n.ks = []
 · have hl0 : n.ks.length = 0 := by rw [he]; rfl
   have HCC : Hid (min (n.c + k) 1099511627776 = C) := Lib.hid (by rw [← HC.out, if_pos (.inl he)])
   have e0 : ((n.ks.length : Int) == 0) = true := by simp [hl0]
   clear hl0
   clear HC he
   go_enter Try.func88, Try.ntmps88
   go_wp2_with fail
   rw [HCC.out, HW1.out]
   clear HW1 HCC
   obtain ⟨L, hL⟩ : ∃ L, n.ks.length = L := ⟨_, rfl⟩
   have hLl : (n.ks.map (rplus1 k)).length = L := by rw [List.length_map, hL]
   have HLN := Lib.hid hL
   have HLEN0 := Lib.hid hLl
   have c00 := HB0.out
   rw [hL] at c00 hcap ⊢
   have hlL : L ≤ 1001 := by omega
   have C00 := Lib.hid c00
   clear hL hLl c00 HB0
   go_loopg [29] L (fun r v wr => ∃ (j : Nat) (sv : Value), j + r = L ∧ v = .int .i64 j ∧ Blk wr w.heap.size 132 #[.int .i64 n.c, .slice A L c] ∧ Blk wr (w.heap.size + 1) 132 #[.int .i64 0, .slice none 0 0] ∧ Blk wr (w.heap.size + 1 + 1) 132 #[.int .i64 C, sv] ∧
       Coll intR nob (w.heap.size + 3) 3 wr sv ((n.ks.map (rplus1 k)).take j) ∧ Upd nob w wr ∧ w.heap.size + 3 ≤ wr.heap.size)
   case atStart => exact ⟨0, .slice none 0 0, by omega, rfl, C00.out, HB1.out, HB2.out, Coll.nil_, huW1, by omega⟩
   case round =>
    clear C00 HB1 HB2 huW1 hsW1
    obtain ⟨j, sv, hj, rfl, c0, c1, c2, hco, hu, hsz⟩ := hrel
    obtain ⟨sA, sc, hsv, hcp⟩ := hco.form
    have hjl : ((n.ks.map (rplus1 k)).take j).length = j := by rw [List.length_take, HLEN0.out]; omega
    rw [hjl] at hsv hcp
    subst hsv
    have e2 : wr.cell? ⟨w.heap.size + 1 + 1, 1, none⟩ = some (.slice sA j sc) := c2.cell 1
    have C0 := Lib.hid c0
    have C4 := Lib.hid c1
    have C5 := Lib.hid c2
    have HCO := Lib.hid hco
    have HJ := Lib.hid hjl
    clear c0 c1 c2 hco hjl
    by_cases hlt : j < L
    · have t2 : decide ((j : Int) < L) = true := by simp [hlt]
      have hjn : j < n.ks.length := by rw [HLN.out]; exact hlt
      obtain ⟨a, hA, hab, hcell, _⟩ := hzs j _ (List.getElem?_eq_getElem hjn)
      obtain ⟨x, hxj⟩ : ∃ x, n.ks[j] = x := ⟨_, rfl⟩
      have hx2 := HX.out n.ks[j] (List.getElem_mem hjn)
      rw [hxj] at hcell hx2
      have hcell' : wr.cell? (a.add j) = some (.int .i64 x) := ((hD.old hu).cell (by rw [Addr_add_block]; exact hab)).trans hcell
      have htk : (n.ks.map (rplus1 k)).take (j + 1) = (n.ks.map (rplus1 k)).take j ++ [rplus1 k x] := by
       rw [take_map_succ _ _ _ hjn, hxj]
      have hxk : IntKind.i64.wrap (x + k) = x + k := IntWalk.i64_in _ (by omega)
      have HA := Lib.hid hA
      have HTK := Lib.hid htk
      have hnO : ∀ q, (Value.slice sA j sc).ownBlock = some q → w.heap.size + 3 ≤ q := fun q h => (HCO.out.lt h).1
      have key : ∀ y : Int, Coll intR nob (w.heap.size + 3) 3 (wr.alloc (.cells #[.int .i64 y] 3)) (.slice sA j sc) ((n.ks.map (rplus1 k)).take j) := fun y => HCO.out.upd ((Upd.refl nob wr).alloc _) (fun _ f => f.elim) (fun _ f => f.elim)
      have KEY := Lib.hid key
      clear hA hcell hxj htk key
      by_cases hx3 : 0 ≤ x
      · have t3 : decide (0 ≤ x) = true := by simp [hx3]
        go_wp2_with (first
            | ((with_reducible refine this_op (.indexAddr 130 (.tmp 27) (.tmp 29)) ?_); refine wpList_index_at rfl 130 (.tmp 27) (.tmp 29) rfl _ a _ _ rfl HA.out j rfl hlt 3 Try.underlying130 1 int_size ?_)
            | (at_builtin; refine wpList_collect rfl (.tmp 40) (.tmp 42) 130 rfl _ 8 Try.underlying130 int_info (by kernel_rfl) (by decide) rfl (KEY.out (min (x + k) 1099511627776)) (fun _ f => f.elim) wr.heap.size #[.int .i64 (min (x + k) 1099511627776)] rfl (Blk.new _ _ _) (min (x + k) 1099511627776) nob rfl (fun _ f => f.elim) j HJ.out (by omega) (by omega) (by simp; omega) ?_
               intro sA6 sc6 w6 hc6 hu6 _
               have hu7 : Upd (fun z => (Value.slice sA j sc).ownBlock = some z) wr w6 := (((Upd.refl nob wr).alloc _).mono (fun _ f => f.elim)).trans hu6
               have b6 := C5.out.upd hu7 (fun h => by have := hnO _ h; omega)
               have e6 : w6.cell? ⟨w.heap.size + 1 + 1, 1, none⟩ = some (.slice sA j sc) := b6.cell 1
               have f6 := b6.frozen 1
               have HC6 := Lib.hid hc6
               have HU7 := Lib.hid hu7
               clear hc6 hu6 hu7 b6))
        go_roundg (gk - 1)
        case measure => omega
        case rel =>
         have hp : rplus1 k x = min (x + k) 1099511627776 := by unfold rplus1; rw [if_pos hx3]
         have hfin : Upd (fun z => (Value.slice sA j sc).ownBlock = some z ∨ z = w.heap.size + 1 + 1) wr (w6.setCell ⟨w.heap.size + 1 + 1, 1, none⟩ (.slice sA6 (j + 1) sc6)) := (HU7.out.mono fun _ h => .inl h).setCell (p := ⟨w.heap.size + 1 + 1, 1, none⟩) (.inl (.inr rfl)) _
         have hnot : ∀ z, z < w.heap.size + 1 + 1 → ¬ ((Value.slice sA j sc).ownBlock = some z ∨ z = w.heap.size + 1 + 1) := fun z hz h => by
          rcases h with h | h
          · have := hnO z h; omega
          omega
         refine ⟨j + 1, .slice sA6 (j + 1) sc6, by omega, by go_num, C0.out.upd hfin (hnot _ (by omega)), C4.out.upd hfin (hnot _ (by omega)), (C5.out.upd HU7.out (fun h => by have := hnO _ h; omega)).set 1 _, ?_, hu.trans' hfin (fun z hz h => hnot z (by omega) h), by have := hfin.size; omega⟩
         rw [HTK.out, hp]
         exact HC6.out.upd ((Upd.refl (fun z => z = w.heap.size + 1 + 1) w6).setCell (p := ⟨w.heap.size + 1 + 1, 1, none⟩) (.inl rfl) _) (fun z hz => ⟨by omega, fun f => f⟩) (fun _ f => f.elim)
      have t3 : decide (0 ≤ x) = false := by simp; omega
      go_wp2_with (first
          | ((with_reducible refine this_op (.indexAddr 130 (.tmp 27) (.tmp 29)) ?_); refine wpList_index_at rfl 130 (.tmp 27) (.tmp 29) rfl _ a _ _ rfl HA.out j rfl hlt 3 Try.underlying130 1 int_size ?_)
          | (at_builtin; refine wpList_collect rfl (.tmp 40) (.tmp 42) 130 rfl _ 8 Try.underlying130 int_info (by kernel_rfl) (by decide) rfl (KEY.out (x)) (fun _ f => f.elim) wr.heap.size #[.int .i64 (x)] rfl (Blk.new _ _ _) (x) nob rfl (fun _ f => f.elim) j HJ.out (by omega) (by omega) (by simp; omega) ?_
             intro sA6 sc6 w6 hc6 hu6 _
             have hu7 : Upd (fun z => (Value.slice sA j sc).ownBlock = some z) wr w6 := (((Upd.refl nob wr).alloc _).mono (fun _ f => f.elim)).trans hu6
             have b6 := C5.out.upd hu7 (fun h => by have := hnO _ h; omega)
             have e6 : w6.cell? ⟨w.heap.size + 1 + 1, 1, none⟩ = some (.slice sA j sc) := b6.cell 1
             have f6 := b6.frozen 1
             have HC6 := Lib.hid hc6
             have HU7 := Lib.hid hu7
             clear hc6 hu6 hu7 b6))
      go_roundg (gk - 1)
      case measure => omega
      case rel =>
       have hp : rplus1 k x = x := by unfold rplus1; rw [if_neg (by omega)]
       have hfin : Upd (fun z => (Value.slice sA j sc).ownBlock = some z ∨ z = w.heap.size + 1 + 1) wr (w6.setCell ⟨w.heap.size + 1 + 1, 1, none⟩ (.slice sA6 (j + 1) sc6)) := (HU7.out.mono fun _ h => .inl h).setCell (p := ⟨w.heap.size + 1 + 1, 1, none⟩) (.inl (.inr rfl)) _
       have hnot : ∀ z, z < w.heap.size + 1 + 1 → ¬ ((Value.slice sA j sc).ownBlock = some z ∨ z = w.heap.size + 1 + 1) := fun z hz h => by
        rcases h with h | h
        · have := hnO z h; omega
        omega
       refine ⟨j + 1, .slice sA6 (j + 1) sc6, by omega, by go_num, C0.out.upd hfin (hnot _ (by omega)), C4.out.upd hfin (hnot _ (by omega)), (C5.out.upd HU7.out (fun h => by have := hnO _ h; omega)).set 1 _, ?_, hu.trans' hfin (fun z hz h => hnot z (by omega) h), by have := hfin.size; omega⟩
       rw [HTK.out, hp]
       exact HC6.out.upd ((Upd.refl (fun z => z = w.heap.size + 1 + 1) w6).setCell (p := ⟨w.heap.size + 1 + 1, 1, none⟩) (.inl rfl) _) (fun z hz => ⟨by omega, fun f => f⟩) (fun _ f => f.elim)
    have t2 : decide ((j : Int) < L) = false := by simp; omega
    have hjL : j = L := by omega
    subst hjL
    have hfull : (n.ks.map (rplus1 k)).take j = n.ks.map (rplus1 k) := List.take_of_length_le (by rw [HLEN0.out]; exact Nat.le_refl _)
    have HLEN : Hid ((n.ks.map (rplus1 k)).length = j) := HLEN0
    have hco := HCO.out
    rw [hfull] at hco
    have HCO := Lib.hid hco
    clear hco hfull HJ e2
    obtain ⟨sA9, sc9, hv9, hcp9, hints⟩ := HCO.out.ints (D := fun q => w.heap.size + 3 ≤ q ∧ q < wr.heap.size) (fun q h => h)
    rw [HLEN.out] at hv9 hcp9
    injection hv9 with z1 z2 z3
    subst z1 z3
    have hnm : NmIs (fun q => w.heap.size + 3 ≤ q ∧ q < wr.heap.size) wr (Nm.mk C (n.ks.map (rplus1 k))) #[.int .i64 C, .slice sA j sc] := ⟨sA, sc, by rw [HLEN.out], ⟨HFO.out, by rw [HLEN.out]; exact hcp9⟩, hints⟩
    have r5 := C5.out.rowAt
    have HNM := Lib.hid hnm
    clear hints hnm
    go_wp2_with (first
        | ((with_reducible refine this_op (.load 132 (.tmp 5)) ?_); refine wpList_at rfl 132 (.tmp 5) rfl ⟨w.heap.size + 1 + 1, 0, none⟩ rfl _ _ r5 Try.underlying132 rfl fm_size ?_))
    refine (rtidy_any (Nm.mk C (n.ks.map (rplus1 k))) #[.int .i64 C, .slice sA j sc] (fun q => w.heap.size + 3 ≤ q ∧ q < wr.heap.size) wr (fun q h => h.2) HNM.out).mono ?_
    rintro e w8 ⟨cs8, rfl, hn8, hb8⟩
    have hu8 : Upd nob wr w8 := Upd.of_below hb8
    have hw8s := hu8.size
    have hs8 := hn8.cells
    have hsi8 : (Try.prog.info? 132).map (·.size) = some cs8.size := by rw [hs8.1]; exact fm_size
    have c48 := C4.out.upd hu8 (fun f => f)
    have HN8 := Lib.hid hn8
    clear hn8
    go_wp2_with (first
        | ((with_reducible refine this_op (.store 132 (.tmp 4) (.tmp 47)) ?_); refine wpList_store_row rfl 132 (.tmp 4) (.tmp 47) rfl (w.heap.size + 1) _ rfl rfl 132 _ c48 hsi8 (by rw [hs8.1]; rfl) hs8.2 ?_))
    refine bodyPost_ret (results_cell_row rfl _ _ (w.heap.size + 1) 132 cs8 (0, 0) _ rfl (c48.row _) Try.underlying132 rfl hsi8) rfl ?_
    have hfin : Upd (fun q => q = w.heap.size + 1) w8 (w8.setRow (w.heap.size + 1) cs8) := (Upd.refl (fun q => q = w.heap.size + 1) w8).setRow (.inl rfl) _
    have hsf : (w8.setRow (w.heap.size + 1) cs8).heap.size = w8.heap.size := by simp
    exact ⟨cs8, rfl, HN8.out.old (Old.of_upd hfin fun q hq => ⟨fun h => by have := hq.1; omega, by have := hq.2; omega⟩) (fun q hq => ⟨by have := hq.1; omega, by have := hq.2; omega⟩), ((hu.trans hu8).trans' hfin (fun q hq h => by omega)).below⟩
 have hl1 : 0 < n.ks.length := List.length_pos_iff.2 he
 have e0 : ((n.ks.length : Int) == 0) = false := by simp; omega
 by_cases hc : 0 < n.c
 · have HCC : Hid (min (n.c + k) 1099511627776 = C) := Lib.hid (by rw [← HC.out, if_pos (.inr hc)])
   have e1 : decide (0 < n.c) = true := by simpa using hc
   clear HC he
   go_enter Try.func88, Try.ntmps88
   go_wp2_with fail
   rw [HCC.out, HW1.out]
   clear HW1 HCC
   obtain ⟨L, hL⟩ : ∃ L, n.ks.length = L := ⟨_, rfl⟩
   have hLl : (n.ks.map (rplus1 k)).length = L := by rw [List.length_map, hL]
   have HLN := Lib.hid hL
   have HLEN0 := Lib.hid hLl
   have c00 := HB0.out
   rw [hL] at c00 hcap ⊢
   have hlL : L ≤ 1001 := by omega
   have C00 := Lib.hid c00
   clear hL hLl c00 HB0
   go_loopg [29] L (fun r v wr => ∃ (j : Nat) (sv : Value), j + r = L ∧ v = .int .i64 j ∧ Blk wr w.heap.size 132 #[.int .i64 n.c, .slice A L c] ∧ Blk wr (w.heap.size + 1) 132 #[.int .i64 0, .slice none 0 0] ∧ Blk wr (w.heap.size + 1 + 1) 132 #[.int .i64 C, sv] ∧
       Coll intR nob (w.heap.size + 3) 3 wr sv ((n.ks.map (rplus1 k)).take j) ∧ Upd nob w wr ∧ w.heap.size + 3 ≤ wr.heap.size)
   case atStart => exact ⟨0, .slice none 0 0, by omega, rfl, C00.out, HB1.out, HB2.out, Coll.nil_, huW1, by omega⟩
   case round =>
    clear C00 HB1 HB2 huW1 hsW1
    obtain ⟨j, sv, hj, rfl, c0, c1, c2, hco, hu, hsz⟩ := hrel
    obtain ⟨sA, sc, hsv, hcp⟩ := hco.form
    have hjl : ((n.ks.map (rplus1 k)).take j).length = j := by rw [List.length_take, HLEN0.out]; omega
    rw [hjl] at hsv hcp
    subst hsv
    have e2 : wr.cell? ⟨w.heap.size + 1 + 1, 1, none⟩ = some (.slice sA j sc) := c2.cell 1
    have C0 := Lib.hid c0
    have C4 := Lib.hid c1
    have C5 := Lib.hid c2
    have HCO := Lib.hid hco
    have HJ := Lib.hid hjl
    clear c0 c1 c2 hco hjl
    by_cases hlt : j < L
    · have t2 : decide ((j : Int) < L) = true := by simp [hlt]
      have hjn : j < n.ks.length := by rw [HLN.out]; exact hlt
      obtain ⟨a, hA, hab, hcell, _⟩ := hzs j _ (List.getElem?_eq_getElem hjn)
      obtain ⟨x, hxj⟩ : ∃ x, n.ks[j] = x := ⟨_, rfl⟩
      have hx2 := HX.out n.ks[j] (List.getElem_mem hjn)
      rw [hxj] at hcell hx2
      have hcell' : wr.cell? (a.add j) = some (.int .i64 x) := ((hD.old hu).cell (by rw [Addr_add_block]; exact hab)).trans hcell
      have htk : (n.ks.map (rplus1 k)).take (j + 1) = (n.ks.map (rplus1 k)).take j ++ [rplus1 k x] := by
       rw [take_map_succ _ _ _ hjn, hxj]
      have hxk : IntKind.i64.wrap (x + k) = x + k := IntWalk.i64_in _ (by omega)
      have HA := Lib.hid hA
      have HTK := Lib.hid htk
      have hnO : ∀ q, (Value.slice sA j sc).ownBlock = some q → w.heap.size + 3 ≤ q := fun q h => (HCO.out.lt h).1
      have key : ∀ y : Int, Coll intR nob (w.heap.size + 3) 3 (wr.alloc (.cells #[.int .i64 y] 3)) (.slice sA j sc) ((n.ks.map (rplus1 k)).take j) := fun y => HCO.out.upd ((Upd.refl nob wr).alloc _) (fun _ f => f.elim) (fun _ f => f.elim)
      have KEY := Lib.hid key
      clear hA hcell hxj htk key
      by_cases hx3 : 0 ≤ x
      · have t3 : decide (0 ≤ x) = true := by simp [hx3]
        go_wp2_with (first
            | ((with_reducible refine this_op (.indexAddr 130 (.tmp 27) (.tmp 29)) ?_); refine wpList_index_at rfl 130 (.tmp 27) (.tmp 29) rfl _ a _ _ rfl HA.out j rfl hlt 3 Try.underlying130 1 int_size ?_)
            | (at_builtin; refine wpList_collect rfl (.tmp 40) (.tmp 42) 130 rfl _ 8 Try.underlying130 int_info (by kernel_rfl) (by decide) rfl (KEY.out (min (x + k) 1099511627776)) (fun _ f => f.elim) wr.heap.size #[.int .i64 (min (x + k) 1099511627776)] rfl (Blk.new _ _ _) (min (x + k) 1099511627776) nob rfl (fun _ f => f.elim) j HJ.out (by omega) (by omega) (by simp; omega) ?_
               intro sA6 sc6 w6 hc6 hu6 _
               have hu7 : Upd (fun z => (Value.slice sA j sc).ownBlock = some z) wr w6 := (((Upd.refl nob wr).alloc _).mono (fun _ f => f.elim)).trans hu6
               have b6 := C5.out.upd hu7 (fun h => by have := hnO _ h; omega)
               have e6 : w6.cell? ⟨w.heap.size + 1 + 1, 1, none⟩ = some (.slice sA j sc) := b6.cell 1
               have f6 := b6.frozen 1
               have HC6 := Lib.hid hc6
               have HU7 := Lib.hid hu7
               clear hc6 hu6 hu7 b6))
        go_roundg (gk - 1)
        case measure => omega
        case rel =>
         have hp : rplus1 k x = min (x + k) 1099511627776 := by unfold rplus1; rw [if_pos hx3]
         have hfin : Upd (fun z => (Value.slice sA j sc).ownBlock = some z ∨ z = w.heap.size + 1 + 1) wr (w6.setCell ⟨w.heap.size + 1 + 1, 1, none⟩ (.slice sA6 (j + 1) sc6)) := (HU7.out.mono fun _ h => .inl h).setCell (p := ⟨w.heap.size + 1 + 1, 1, none⟩) (.inl (.inr rfl)) _
         have hnot : ∀ z, z < w.heap.size + 1 + 1 → ¬ ((Value.slice sA j sc).ownBlock = some z ∨ z = w.heap.size + 1 + 1) := fun z hz h => by
          rcases h with h | h
          · have := hnO z h; omega
          omega
         refine ⟨j + 1, .slice sA6 (j + 1) sc6, by omega, by go_num, C0.out.upd hfin (hnot _ (by omega)), C4.out.upd hfin (hnot _ (by omega)), (C5.out.upd HU7.out (fun h => by have := hnO _ h; omega)).set 1 _, ?_, hu.trans' hfin (fun z hz h => hnot z (by omega) h), by have := hfin.size; omega⟩
         rw [HTK.out, hp]
         exact HC6.out.upd ((Upd.refl (fun z => z = w.heap.size + 1 + 1) w6).setCell (p := ⟨w.heap.size + 1 + 1, 1, none⟩) (.inl rfl) _) (fun z hz => ⟨by omega, fun f => f⟩) (fun _ f => f.elim)
      have t3 : decide (0 ≤ x) = false := by simp; omega
      go_wp2_with (first
          | ((with_reducible refine this_op (.indexAddr 130 (.tmp 27) (.tmp 29)) ?_); refine wpList_index_at rfl 130 (.tmp 27) (.tmp 29) rfl _ a _ _ rfl HA.out j rfl hlt 3 Try.underlying130 1 int_size ?_)
          | (at_builtin; refine wpList_collect rfl (.tmp 40) (.tmp 42) 130 rfl _ 8 Try.underlying130 int_info (by kernel_rfl) (by decide) rfl (KEY.out (x)) (fun _ f => f.elim) wr.heap.size #[.int .i64 (x)] rfl (Blk.new _ _ _) (x) nob rfl (fun _ f => f.elim) j HJ.out (by omega) (by omega) (by simp; omega) ?_
             intro sA6 sc6 w6 hc6 hu6 _
             have hu7 : Upd (fun z => (Value.slice sA j sc).ownBlock = some z) wr w6 := (((Upd.refl nob wr).alloc _).mono (fun _ f => f.elim)).trans hu6
             have b6 := C5.out.upd hu7 (fun h => by have := hnO _ h; omega)
             have e6 : w6.cell? ⟨w.heap.size + 1 + 1, 1, none⟩ = some (.slice sA j sc) := b6.cell 1
             have f6 := b6.frozen 1
             have HC6 := Lib.hid hc6
             have HU7 := Lib.hid hu7
             clear hc6 hu6 hu7 b6))
      go_roundg (gk - 1)
      case measure => omega
      case rel =>
       have hp : rplus1 k x = x := by unfold rplus1; rw [if_neg (by omega)]
       have hfin : Upd (fun z => (Value.slice sA j sc).ownBlock = some z ∨ z = w.heap.size + 1 + 1) wr (w6.setCell ⟨w.heap.size + 1 + 1, 1, none⟩ (.slice sA6 (j + 1) sc6)) := (HU7.out.mono fun _ h => .inl h).setCell (p := ⟨w.heap.size + 1 + 1, 1, none⟩) (.inl (.inr rfl)) _
       have hnot : ∀ z, z < w.heap.size + 1 + 1 → ¬ ((Value.slice sA j sc).ownBlock = some z ∨ z = w.heap.size + 1 + 1) := fun z hz h => by
        rcases h with h | h
        · have := hnO z h; omega
        omega
       refine ⟨j + 1, .slice sA6 (j + 1) sc6, by omega, by go_num, C0.out.upd hfin (hnot _ (by omega)), C4.out.upd hfin (hnot _ (by omega)), (C5.out.upd HU7.out (fun h => by have := hnO _ h; omega)).set 1 _, ?_, hu.trans' hfin (fun z hz h => hnot z (by omega) h), by have := hfin.size; omega⟩
       rw [HTK.out, hp]
       exact HC6.out.upd ((Upd.refl (fun z => z = w.heap.size + 1 + 1) w6).setCell (p := ⟨w.heap.size + 1 + 1, 1, none⟩) (.inl rfl) _) (fun z hz => ⟨by omega, fun f => f⟩) (fun _ f => f.elim)
    have t2 : decide ((j : Int) < L) = false := by simp; omega
    have hjL : j = L := by omega
    subst hjL
    have hfull : (n.ks.map (rplus1 k)).take j = n.ks.map (rplus1 k) := List.take_of_length_le (by rw [HLEN0.out]; exact Nat.le_refl _)
    have HLEN : Hid ((n.ks.map (rplus1 k)).length = j) := HLEN0
    have hco := HCO.out
    rw [hfull] at hco
    have HCO := Lib.hid hco
    clear hco hfull HJ e2
    obtain ⟨sA9, sc9, hv9, hcp9, hints⟩ := HCO.out.ints (D := fun q => w.heap.size + 3 ≤ q ∧ q < wr.heap.size) (fun q h => h)
    rw [HLEN.out] at hv9 hcp9
    injection hv9 with z1 z2 z3
    subst z1 z3
    have hnm : NmIs (fun q => w.heap.size + 3 ≤ q ∧ q < wr.heap.size) wr (Nm.mk C (n.ks.map (rplus1 k))) #[.int .i64 C, .slice sA j sc] := ⟨sA, sc, by rw [HLEN.out], ⟨HFO.out, by rw [HLEN.out]; exact hcp9⟩, hints⟩
    have r5 := C5.out.rowAt
    have HNM := Lib.hid hnm
    clear hints hnm
    go_wp2_with (first
        | ((with_reducible refine this_op (.load 132 (.tmp 5)) ?_); refine wpList_at rfl 132 (.tmp 5) rfl ⟨w.heap.size + 1 + 1, 0, none⟩ rfl _ _ r5 Try.underlying132 rfl fm_size ?_))
    refine (rtidy_any (Nm.mk C (n.ks.map (rplus1 k))) #[.int .i64 C, .slice sA j sc] (fun q => w.heap.size + 3 ≤ q ∧ q < wr.heap.size) wr (fun q h => h.2) HNM.out).mono ?_
    rintro e w8 ⟨cs8, rfl, hn8, hb8⟩
    have hu8 : Upd nob wr w8 := Upd.of_below hb8
    have hw8s := hu8.size
    have hs8 := hn8.cells
    have hsi8 : (Try.prog.info? 132).map (·.size) = some cs8.size := by rw [hs8.1]; exact fm_size
    have c48 := C4.out.upd hu8 (fun f => f)
    have HN8 := Lib.hid hn8
    clear hn8
    go_wp2_with (first
        | ((with_reducible refine this_op (.store 132 (.tmp 4) (.tmp 47)) ?_); refine wpList_store_row rfl 132 (.tmp 4) (.tmp 47) rfl (w.heap.size + 1) _ rfl rfl 132 _ c48 hsi8 (by rw [hs8.1]; rfl) hs8.2 ?_))
    refine bodyPost_ret (results_cell_row rfl _ _ (w.heap.size + 1) 132 cs8 (0, 0) _ rfl (c48.row _) Try.underlying132 rfl hsi8) rfl ?_
    have hfin : Upd (fun q => q = w.heap.size + 1) w8 (w8.setRow (w.heap.size + 1) cs8) := (Upd.refl (fun q => q = w.heap.size + 1) w8).setRow (.inl rfl) _
    have hsf : (w8.setRow (w.heap.size + 1) cs8).heap.size = w8.heap.size := by simp
    exact ⟨cs8, rfl, HN8.out.old (Old.of_upd hfin fun q hq => ⟨fun h => by have := hq.1; omega, by have := hq.2; omega⟩) (fun q hq => ⟨by have := hq.1; omega, by have := hq.2; omega⟩), ((hu.trans hu8).trans' hfin (fun q hq h => by omega)).below⟩
 have HCC : Hid (n.c = C) := Lib.hid (by rw [← HC.out, if_neg (fun h => h.elim he hc)])
 have e1 : decide (0 < n.c) = false := by simpa using hc
 clear HC he
 go_enter Try.func88, Try.ntmps88
 go_wp2_with fail
 have HW1' := HW1.out
 rw [← HCC.out] at HW1'
 rw [HW1']
 clear HW1'
 clear HW1 HCC
 obtain ⟨L, hL⟩ : ∃ L, n.ks.length = L := ⟨_, rfl⟩
 have hLl : (n.ks.map (rplus1 k)).length = L := by rw [List.length_map, hL]
 have HLN := Lib.hid hL
 have HLEN0 := Lib.hid hLl
 have c00 := HB0.out
 rw [hL] at c00 hcap ⊢
 have hlL : L ≤ 1001 := by omega
 have C00 := Lib.hid c00
 clear hL hLl c00 HB0
 go_loopg [29] L (fun r v wr => ∃ (j : Nat) (sv : Value), j + r = L ∧ v = .int .i64 j ∧ Blk wr w.heap.size 132 #[.int .i64 n.c, .slice A L c] ∧ Blk wr (w.heap.size + 1) 132 #[.int .i64 0, .slice none 0 0] ∧ Blk wr (w.heap.size + 1 + 1) 132 #[.int .i64 C, sv] ∧
     Coll intR nob (w.heap.size + 3) 3 wr sv ((n.ks.map (rplus1 k)).take j) ∧ Upd nob w wr ∧ w.heap.size + 3 ≤ wr.heap.size)
 case atStart => exact ⟨0, .slice none 0 0, by omega, rfl, C00.out, HB1.out, HB2.out, Coll.nil_, huW1, by omega⟩
 case round =>
  clear C00 HB1 HB2 huW1 hsW1
  obtain ⟨j, sv, hj, rfl, c0, c1, c2, hco, hu, hsz⟩ := hrel
  obtain ⟨sA, sc, hsv, hcp⟩ := hco.form
  have hjl : ((n.ks.map (rplus1 k)).take j).length = j := by rw [List.length_take, HLEN0.out]; omega
  rw [hjl] at hsv hcp
  subst hsv
  have e2 : wr.cell? ⟨w.heap.size + 1 + 1, 1, none⟩ = some (.slice sA j sc) := c2.cell 1
  have C0 := Lib.hid c0
  have C4 := Lib.hid c1
  have C5 := Lib.hid c2
  have HCO := Lib.hid hco
  have HJ := Lib.hid hjl
  clear c0 c1 c2 hco hjl
  by_cases hlt : j < L
  · have t2 : decide ((j : Int) < L) = true := by simp [hlt]
    have hjn : j < n.ks.length := by rw [HLN.out]; exact hlt
    obtain ⟨a, hA, hab, hcell, _⟩ := hzs j _ (List.getElem?_eq_getElem hjn)
    obtain ⟨x, hxj⟩ : ∃ x, n.ks[j] = x := ⟨_, rfl⟩
    have hx2 := HX.out n.ks[j] (List.getElem_mem hjn)
    rw [hxj] at hcell hx2
    have hcell' : wr.cell? (a.add j) = some (.int .i64 x) := ((hD.old hu).cell (by rw [Addr_add_block]; exact hab)).trans hcell
    have htk : (n.ks.map (rplus1 k)).take (j + 1) = (n.ks.map (rplus1 k)).take j ++ [rplus1 k x] := by
     rw [take_map_succ _ _ _ hjn, hxj]
    have hxk : IntKind.i64.wrap (x + k) = x + k := IntWalk.i64_in _ (by omega)
    have HA := Lib.hid hA
    have HTK := Lib.hid htk
    have hnO : ∀ q, (Value.slice sA j sc).ownBlock = some q → w.heap.size + 3 ≤ q := fun q h => (HCO.out.lt h).1
    have key : ∀ y : Int, Coll intR nob (w.heap.size + 3) 3 (wr.alloc (.cells #[.int .i64 y] 3)) (.slice sA j sc) ((n.ks.map (rplus1 k)).take j) := fun y => HCO.out.upd ((Upd.refl nob wr).alloc _) (fun _ f => f.elim) (fun _ f => f.elim)
    have KEY := Lib.hid key
    clear hA hcell hxj htk key
    by_cases hx3 : 0 ≤ x
    · have t3 : decide (0 ≤ x) = true := by simp [hx3]
      go_wp2_with (first
          | ((with_reducible refine this_op (.indexAddr 130 (.tmp 27) (.tmp 29)) ?_); refine wpList_index_at rfl 130 (.tmp 27) (.tmp 29) rfl _ a _ _ rfl HA.out j rfl hlt 3 Try.underlying130 1 int_size ?_)
          | (at_builtin; refine wpList_collect rfl (.tmp 40) (.tmp 42) 130 rfl _ 8 Try.underlying130 int_info (by kernel_rfl) (by decide) rfl (KEY.out (min (x + k) 1099511627776)) (fun _ f => f.elim) wr.heap.size #[.int .i64 (min (x + k) 1099511627776)] rfl (Blk.new _ _ _) (min (x + k) 1099511627776) nob rfl (fun _ f => f.elim) j HJ.out (by omega) (by omega) (by simp; omega) ?_
             intro sA6 sc6 w6 hc6 hu6 _
             have hu7 : Upd (fun z => (Value.slice sA j sc).ownBlock = some z) wr w6 := (((Upd.refl nob wr).alloc _).mono (fun _ f => f.elim)).trans hu6
             have b6 := C5.out.upd hu7 (fun h => by have := hnO _ h; omega)
             have e6 : w6.cell? ⟨w.heap.size + 1 + 1, 1, none⟩ = some (.slice sA j sc) := b6.cell 1
             have f6 := b6.frozen 1
             have HC6 := Lib.hid hc6
             have HU7 := Lib.hid hu7
             clear hc6 hu6 hu7 b6))
      go_roundg (gk - 1)
      case measure => omega
      case rel =>
       have hp : rplus1 k x = min (x + k) 1099511627776 := by unfold rplus1; rw [if_pos hx3]
       have hfin : Upd (fun z => (Value.slice sA j sc).ownBlock = some z ∨ z = w.heap.size + 1 + 1) wr (w6.setCell ⟨w.heap.size + 1 + 1, 1, none⟩ (.slice sA6 (j + 1) sc6)) := (HU7.out.mono fun _ h => .inl h).setCell (p := ⟨w.heap.size + 1 + 1, 1, none⟩) (.inl (.inr rfl)) _
       have hnot : ∀ z, z < w.heap.size + 1 + 1 → ¬ ((Value.slice sA j sc).ownBlock = some z ∨ z = w.heap.size + 1 + 1) := fun z hz h => by
        rcases h with h | h
        · have := hnO z h; omega
        omega
       refine ⟨j + 1, .slice sA6 (j + 1) sc6, by omega, by go_num, C0.out.upd hfin (hnot _ (by omega)), C4.out.upd hfin (hnot _ (by omega)), (C5.out.upd HU7.out (fun h => by have := hnO _ h; omega)).set 1 _, ?_, hu.trans' hfin (fun z hz h => hnot z (by omega) h), by have := hfin.size; omega⟩
       rw [HTK.out, hp]
       exact HC6.out.upd ((Upd.refl (fun z => z = w.heap.size + 1 + 1) w6).setCell (p := ⟨w.heap.size + 1 + 1, 1, none⟩) (.inl rfl) _) (fun z hz => ⟨by omega, fun f => f⟩) (fun _ f => f.elim)
    have t3 : decide (0 ≤ x) = false := by simp; omega
    go_wp2_with (first
        | ((with_reducible refine this_op (.indexAddr 130 (.tmp 27) (.tmp 29)) ?_); refine wpList_index_at rfl 130 (.tmp 27) (.tmp 29) rfl _ a _ _ rfl HA.out j rfl hlt 3 Try.underlying130 1 int_size ?_)
        | (at_builtin; refine wpList_collect rfl (.tmp 40) (.tmp 42) 130 rfl _ 8 Try.underlying130 int_info (by kernel_rfl) (by decide) rfl (KEY.out (x)) (fun _ f => f.elim) wr.heap.size #[.int .i64 (x)] rfl (Blk.new _ _ _) (x) nob rfl (fun _ f => f.elim) j HJ.out (by omega) (by omega) (by simp; omega) ?_
           intro sA6 sc6 w6 hc6 hu6 _
           have hu7 : Upd (fun z => (Value.slice sA j sc).ownBlock = some z) wr w6 := (((Upd.refl nob wr).alloc _).mono (fun _ f => f.elim)).trans hu6
           have b6 := C5.out.upd hu7 (fun h => by have := hnO _ h; omega)
           have e6 : w6.cell? ⟨w.heap.size + 1 + 1, 1, none⟩ = some (.slice sA j sc) := b6.cell 1
           have f6 := b6.frozen 1
           have HC6 := Lib.hid hc6
           have HU7 := Lib.hid hu7
           clear hc6 hu6 hu7 b6))
    go_roundg (gk - 1)
    case measure => omega
    case rel =>
     have hp : rplus1 k x = x := by unfold rplus1; rw [if_neg (by omega)]
     have hfin : Upd (fun z => (Value.slice sA j sc).ownBlock = some z ∨ z = w.heap.size + 1 + 1) wr (w6.setCell ⟨w.heap.size + 1 + 1, 1, none⟩ (.slice sA6 (j + 1) sc6)) := (HU7.out.mono fun _ h => .inl h).setCell (p := ⟨w.heap.size + 1 + 1, 1, none⟩) (.inl (.inr rfl)) _
     have hnot : ∀ z, z < w.heap.size + 1 + 1 → ¬ ((Value.slice sA j sc).ownBlock = some z ∨ z = w.heap.size + 1 + 1) := fun z hz h => by
      rcases h with h | h
      · have := hnO z h; omega
      omega
     refine ⟨j + 1, .slice sA6 (j + 1) sc6, by omega, by go_num, C0.out.upd hfin (hnot _ (by omega)), C4.out.upd hfin (hnot _ (by omega)), (C5.out.upd HU7.out (fun h => by have := hnO _ h; omega)).set 1 _, ?_, hu.trans' hfin (fun z hz h => hnot z (by omega) h), by have := hfin.size; omega⟩
     rw [HTK.out, hp]
     exact HC6.out.upd ((Upd.refl (fun z => z = w.heap.size + 1 + 1) w6).setCell (p := ⟨w.heap.size + 1 + 1, 1, none⟩) (.inl rfl) _) (fun z hz => ⟨by omega, fun f => f⟩) (fun _ f => f.elim)
  have t2 : decide ((j : Int) < L) = false := by simp; omega
  have hjL : j = L := by omega
  subst hjL
  have hfull : (n.ks.map (rplus1 k)).take j = n.ks.map (rplus1 k) := List.take_of_length_le (by rw [HLEN0.out]; exact Nat.le_refl _)
  have HLEN : Hid ((n.ks.map (rplus1 k)).length = j) := HLEN0
  have hco := HCO.out
  rw [hfull] at hco
  have HCO := Lib.hid hco
  clear hco hfull HJ e2
  obtain ⟨sA9, sc9, hv9, hcp9, hints⟩ := HCO.out.ints (D := fun q => w.heap.size + 3 ≤ q ∧ q < wr.heap.size) (fun q h => h)
  rw [HLEN.out] at hv9 hcp9
  injection hv9 with z1 z2 z3
  subst z1 z3
  have hnm : NmIs (fun q => w.heap.size + 3 ≤ q ∧ q < wr.heap.size) wr (Nm.mk C (n.ks.map (rplus1 k))) #[.int .i64 C, .slice sA j sc] := ⟨sA, sc, by rw [HLEN.out], ⟨HFO.out, by rw [HLEN.out]; exact hcp9⟩, hints⟩
  have r5 := C5.out.rowAt
  have HNM := Lib.hid hnm
  clear hints hnm
  go_wp2_with (first
      | ((with_reducible refine this_op (.load 132 (.tmp 5)) ?_); refine wpList_at rfl 132 (.tmp 5) rfl ⟨w.heap.size + 1 + 1, 0, none⟩ rfl _ _ r5 Try.underlying132 rfl fm_size ?_))
  refine (rtidy_any (Nm.mk C (n.ks.map (rplus1 k))) #[.int .i64 C, .slice sA j sc] (fun q => w.heap.size + 3 ≤ q ∧ q < wr.heap.size) wr (fun q h => h.2) HNM.out).mono ?_
  rintro e w8 ⟨cs8, rfl, hn8, hb8⟩
  have hu8 : Upd nob wr w8 := Upd.of_below hb8
  have hw8s := hu8.size
  have hs8 := hn8.cells
  have hsi8 : (Try.prog.info? 132).map (·.size) = some cs8.size := by rw [hs8.1]; exact fm_size
  have c48 := C4.out.upd hu8 (fun f => f)
  have HN8 := Lib.hid hn8
  clear hn8
  go_wp2_with (first
      | ((with_reducible refine this_op (.store 132 (.tmp 4) (.tmp 47)) ?_); refine wpList_store_row rfl 132 (.tmp 4) (.tmp 47) rfl (w.heap.size + 1) _ rfl rfl 132 _ c48 hsi8 (by rw [hs8.1]; rfl) hs8.2 ?_))
  refine bodyPost_ret (results_cell_row rfl _ _ (w.heap.size + 1) 132 cs8 (0, 0) _ rfl (c48.row _) Try.underlying132 rfl hsi8) rfl ?_
  have hfin : Upd (fun q => q = w.heap.size + 1) w8 (w8.setRow (w.heap.size + 1) cs8) := (Upd.refl (fun q => q = w.heap.size + 1) w8).setRow (.inl rfl) _
  have hsf : (w8.setRow (w.heap.size + 1) cs8).heap.size = w8.heap.size := by simp
  exact ⟨cs8, rfl, HN8.out.old (Old.of_upd hfin fun q hq => ⟨fun h => by have := hq.1; omega, by have := hq.2; omega⟩) (fun q hq => ⟨by have := hq.1; omega, by have := hq.2; omega⟩), ((hu.trans hu8).trans' hfin (fun q hq h => by omega)).below⟩
end Go.Proofs.Ytiampoebdmflgaa
/- The reference's both. -/
namespace Go.Proofs.Ytiampoebdmflgaa
open Go.RowKit
set_option linter.unusedVariables false
set_option maxRecDepth 100000
set_option maxHeartbeats 4000000
set_option linter.unusedSimpArgs false
def Nm.rboth (n m : Nm) : Nm := (n.or m).tidy
theorem rboth_any (n m : Nm) (cs ds : Array Value) (D : Nat → Prop) (w : World) (hD : Within D w) (hn : NmIs D w n cs) (hm : NmIs D w m ds) :
    Calls Try.prog 89 #[.agg cs, .agg ds] w fun e w' => ∃ cs', e = .returned (.agg cs') ∧ NmIs (fresh w w') w' (n.rboth m) cs' ∧ Below w.heap.size w w' := by
 have hz := fm_zero
 obtain ⟨A, c, rfl, ⟨hok, hcap⟩, hzs⟩ := hn
 obtain ⟨B, c2, rfl, ⟨hokm, hcapm⟩, hzm⟩ := hm
 have HFO := Lib.hid (Nm.or_ok hok hokm)
 have hln := hok.2.2
 have hlm := hokm.2.2
 have HOKN := Lib.hid hok
 have HOKM := Lib.hid hokm
 have hX : n.rboth m = (Nm.mk (max n.c m.c) (orK n m)).tidy := rfl
 rw [hX]
 have HFO : Hid ((Nm.mk (max n.c m.c) (orK n m)).Ok) := HFO
 clear hX hok hokm
 obtain ⟨W1, hW1⟩ : ∃ W1, (((w.alloc (.cells #[.int .i64 n.c, .slice A n.ks.length c] 132)).alloc (.cells #[.int .i64 m.c, .slice B m.ks.length c2] 132)).alloc (.cells #[.int .i64 0, .slice none 0 0] 132)).alloc (.cells #[.int .i64 (max n.c m.c), .slice none 0 0] 132) = W1 := ⟨_, rfl⟩
 have huW1 : Upd nob w W1 := by rw [← hW1]; exact ((((Upd.refl nob w).alloc _).alloc _).alloc _).alloc _
 have hsW1 : W1.heap.size = w.heap.size + 4 := by rw [← hW1]; simp
 have bk0 : Blk W1 (w.heap.size) 132 #[.int .i64 n.c, .slice A n.ks.length c] := by
  rw [← hW1]
  have h := Blk.new (w) 132 #[.int .i64 n.c, .slice A n.ks.length c]
  exact ((h.alloc _).alloc _).alloc _
 have bk1 : Blk W1 (w.heap.size + 1) 132 #[.int .i64 m.c, .slice B m.ks.length c2] := by
  rw [← hW1]
  have h := Blk.new (w.alloc (.cells #[.int .i64 n.c, .slice A n.ks.length c] 132)) 132 #[.int .i64 m.c, .slice B m.ks.length c2]
  rw [World.size_alloc] at h
  exact (h.alloc _).alloc _
 have bk2 : Blk W1 (w.heap.size + 1 + 1) 132 #[.int .i64 0, .slice none 0 0] := by
  rw [← hW1]
  have h := Blk.new ((w.alloc (.cells #[.int .i64 n.c, .slice A n.ks.length c] 132)).alloc (.cells #[.int .i64 m.c, .slice B m.ks.length c2] 132)) 132 #[.int .i64 0, .slice none 0 0]
  rw [World.size_alloc, World.size_alloc] at h
  exact h.alloc _
 have bk3 : Blk W1 (w.heap.size + 1 + 1 + 1) 132 #[.int .i64 (max n.c m.c), .slice none 0 0] := by
  rw [← hW1]
  have h := Blk.new (((w.alloc (.cells #[.int .i64 n.c, .slice A n.ks.length c] 132)).alloc (.cells #[.int .i64 m.c, .slice B m.ks.length c2] 132)).alloc (.cells #[.int .i64 0, .slice none 0 0] 132)) 132 #[.int .i64 (max n.c m.c), .slice none 0 0]
  rw [World.size_alloc, World.size_alloc, World.size_alloc] at h
  exact h
 obtain ⟨L1, hL1⟩ : ∃ L, n.ks.length = L := ⟨_, rfl⟩
 obtain ⟨L2, hL2⟩ : ∃ L, m.ks.length = L := ⟨_, rfl⟩
 obtain ⟨L, hL⟩ : ∃ L, max L1 L2 = L := ⟨_, rfl⟩
 have hmx : max (L1 : Int) (L2 : Int) = (L : Int) := by omega
 have HLN1 := Lib.hid hL1
 have HLN2 := Lib.hid hL2
 have hLl : (orK n m).length = L := by unfold orK; rw [List.length_map, List.length_range, hL1, hL2, hL]
 have HLEN0 := Lib.hid hLl
 rw [hL1] at hcap hln bk0 hW1 ⊢
 rw [hL2] at hcapm hlm bk1 hW1 ⊢
 have hlL : L ≤ 1001 := by omega
 have HLM := Lib.hid hL
 have HB0 := Lib.hid bk0
 have HB1 := Lib.hid bk1
 have HB2 := Lib.hid bk2
 have HB3 := Lib.hid bk3
 have HW1 := Lib.hid hW1
 clear hL1 hL2 hL hLl bk0 bk1 bk2 bk3 hW1
 go_enter Try.func89, Try.ntmps89
 go_wp2_with fail
 rw [HW1.out]
 clear HW1
 go_loopg [21] L (fun r v wr => ∃ (j : Nat) (sv : Value), j + r = L ∧ v = .int .i64 j ∧ Blk wr w.heap.size 132 #[.int .i64 n.c, .slice A L1 c] ∧ Blk wr (w.heap.size + 1) 132 #[.int .i64 m.c, .slice B L2 c2] ∧ Blk wr (w.heap.size + 1 + 1) 132 #[.int .i64 0, .slice none 0 0] ∧ Blk wr (w.heap.size + 1 + 1 + 1) 132 #[.int .i64 (max n.c m.c), sv] ∧
     Coll intR nob (w.heap.size + 4) 3 wr sv ((orK n m).take j) ∧ Upd nob w wr ∧ w.heap.size + 4 ≤ wr.heap.size)
 case atStart => exact ⟨0, .slice none 0 0, by omega, rfl, HB0.out, HB1.out, HB2.out, HB3.out, Coll.nil_, huW1, by omega⟩
 case round =>
  clear HB0 HB1 HB2 HB3 huW1 hsW1
  obtain ⟨j, sv, hj, rfl, c0, c1, c2b, c3, hco, hu, hsz⟩ := hrel
  obtain ⟨sA, sc, hsv, hcp⟩ := hco.form
  have hjl : ((orK n m).take j).length = j := by rw [List.length_take, HLEN0.out]; omega
  rw [hjl] at hsv hcp
  subst hsv
  have q0 : wr.cell? ⟨w.heap.size, 1, none⟩ = some (.slice A L1 c) := c0.cell 1
  have q1 : wr.cell? ⟨w.heap.size + 1, 1, none⟩ = some (.slice B L2 c2) := c1.cell 1
  have e2 : wr.cell? ⟨w.heap.size + 1 + 1 + 1, 1, none⟩ = some (.slice sA j sc) := c3.cell 1
  have C0 := Lib.hid c0
  have C1 := Lib.hid c1
  have C4 := Lib.hid c2b
  have C5 := Lib.hid c3
  have HCO := Lib.hid hco
  have HJ := Lib.hid hjl
  clear c0 c1 c2b c3 hco hjl
  by_cases hlt : j < L
  · have t2 : decide ((j : Int) < L) = true := by simp [hlt]
    have htk : (orK n m).take (j + 1) = (orK n m).take j ++ [max (n.at_ j) (m.at_ j)] := by
     have hlt' : j < (List.range (max n.ks.length m.ks.length)).length := by rw [List.length_range, HLN1.out, HLN2.out, HLM.out]; exact hlt
     unfold orK
     rw [take_map_succ _ _ _ hlt', List.getElem_range]
    have HTK := Lib.hid htk
    have hnO : ∀ q, (Value.slice sA j sc).ownBlock = some q → w.heap.size + 4 ≤ q := fun q h => (HCO.out.lt h).1
    have key : ∀ y : Int, Coll intR nob (w.heap.size + 4) 3 (wr.alloc (.cells #[.int .i64 y] 3)) (.slice sA j sc) ((orK n m).take j) := fun y => HCO.out.upd ((Upd.refl nob wr).alloc _) (fun _ f => f.elim) (fun _ f => f.elim)
    have KEY := Lib.hid key
    clear htk key
    by_cases hl1 : j < L1
    · have t3 : decide ((j : Int) < L1) = true := by simp [hl1]
      have hj1 : j < n.ks.length := by rw [HLN1.out]; exact hl1
      obtain ⟨a, hA, hab, hcell, _⟩ := hzs j _ (List.getElem?_eq_getElem hj1)
      obtain ⟨x, hxj⟩ : ∃ x, n.ks[j] = x := ⟨_, rfl⟩
      have hx2 := HOKN.out.2.1 n.ks[j] (List.getElem_mem hj1)
      have hat1 : n.at_ j = x := by unfold Nm.at_; simp [hj1, hxj]
      rw [hxj] at hcell hx2
      have hcell1 : wr.cell? (a.add j) = some (.int .i64 x) := ((hD.old hu).cell (by rw [Addr_add_block]; exact hab)).trans hcell
      have HA := Lib.hid hA
      have HAT1 := Lib.hid hat1
      clear hA hcell hxj hat1
      by_cases hl2 : j < L2
      · have t4 : decide ((j : Int) < L2) = true := by simp [hl2]
        have hj2 : j < m.ks.length := by rw [HLN2.out]; exact hl2
        obtain ⟨b, hB, hbb, hcellb, _⟩ := hzm j _ (List.getElem?_eq_getElem hj2)
        obtain ⟨y, hyj⟩ : ∃ y, m.ks[j] = y := ⟨_, rfl⟩
        have hat2 : m.at_ j = y := by unfold Nm.at_; simp [hj2, hyj]
        rw [hyj] at hcellb
        have hcell2 : wr.cell? (b.add j) = some (.int .i64 y) := ((hD.old hu).cell (by rw [Addr_add_block]; exact hbb)).trans hcellb
        have HB := Lib.hid hB
        have HAT2 := Lib.hid hat2
        clear hB hcellb hyj hat2
        go_wp2_with (first
            | ((with_reducible refine this_op (.indexAddr 130 (.tmp 30) (.tmp 31)) ?_); refine wpList_index_at rfl 130 (.tmp 30) (.tmp 31) rfl _ a _ _ rfl HA.out j rfl hl1 3 Try.underlying130 1 int_size ?_)
            | ((with_reducible refine this_op (.indexAddr 130 (.tmp 41) (.tmp 42)) ?_); refine wpList_index_at rfl 130 (.tmp 41) (.tmp 42) rfl _ b _ _ rfl HB.out j rfl hl2 3 Try.underlying130 1 int_size ?_)
            | (at_builtin; refine wpList_collect rfl (.tmp 47) (.tmp 49) 130 rfl _ 8 Try.underlying130 int_info (by kernel_rfl) (by decide) rfl (KEY.out (max x y)) (fun _ f => f.elim) wr.heap.size #[.int .i64 (max x y)] rfl (Blk.new _ _ _) (max x y) nob rfl (fun _ f => f.elim) j HJ.out (by omega) (by omega) (by simp; omega) ?_
               intro sA6 sc6 w6 hc6 hu6 _
               have hu7 : Upd (fun z => (Value.slice sA j sc).ownBlock = some z) wr w6 := (((Upd.refl nob wr).alloc _).mono (fun _ f => f.elim)).trans hu6
               have b6 := C5.out.upd hu7 (fun h => by have := hnO _ h; omega)
               have e6 : w6.cell? ⟨w.heap.size + 1 + 1 + 1, 1, none⟩ = some (.slice sA j sc) := b6.cell 1
               have f6 := b6.frozen 1
               have HC6 := Lib.hid hc6
               have HU7 := Lib.hid hu7
               clear hc6 hu6 hu7 b6))
        go_roundg (gk - 1)
        case measure => omega
        case rel =>
         have hp : max (n.at_ j) (m.at_ j) = max x y := by rw [HAT1.out, HAT2.out]
         have hfin : Upd (fun z => (Value.slice sA j sc).ownBlock = some z ∨ z = w.heap.size + 1 + 1 + 1) wr (w6.setCell ⟨w.heap.size + 1 + 1 + 1, 1, none⟩ (.slice sA6 (j + 1) sc6)) := (HU7.out.mono fun _ h => .inl h).setCell (p := ⟨w.heap.size + 1 + 1 + 1, 1, none⟩) (.inl (.inr rfl)) _
         have hnot : ∀ z, z < w.heap.size + 1 + 1 + 1 → ¬ ((Value.slice sA j sc).ownBlock = some z ∨ z = w.heap.size + 1 + 1 + 1) := fun z hz h => by
          rcases h with h | h
          · have := hnO z h; omega
          omega
         refine ⟨j + 1, .slice sA6 (j + 1) sc6, by omega, by go_num, C0.out.upd hfin (hnot _ (by omega)), C1.out.upd hfin (hnot _ (by omega)), C4.out.upd hfin (hnot _ (by omega)), (C5.out.upd HU7.out (fun h => by have := hnO _ h; omega)).set 1 _, ?_, hu.trans' hfin (fun z hz h => hnot z (by omega) h), by have := hfin.size; omega⟩
         rw [HTK.out, hp]
         exact HC6.out.upd ((Upd.refl (fun z => z = w.heap.size + 1 + 1 + 1) w6).setCell (p := ⟨w.heap.size + 1 + 1 + 1, 1, none⟩) (.inl rfl) _) (fun z hz => ⟨by omega, fun f => f⟩) (fun _ f => f.elim)
      have t4 : decide ((j : Int) < L2) = false := by simp; omega
      have hat2 : m.at_ j = -1 := by unfold Nm.at_; rw [List.getD_eq_getElem?_getD, List.getElem?_eq_none (by have := HLN2.out; omega)]; rfl
      have HAT2 := Lib.hid hat2
      clear hat2
      go_wp2_with (first
          | ((with_reducible refine this_op (.indexAddr 130 (.tmp 30) (.tmp 31)) ?_); refine wpList_index_at rfl 130 (.tmp 30) (.tmp 31) rfl _ a _ _ rfl HA.out j rfl hl1 3 Try.underlying130 1 int_size ?_)
          | (at_builtin; refine wpList_collect rfl (.tmp 47) (.tmp 49) 130 rfl _ 8 Try.underlying130 int_info (by kernel_rfl) (by decide) rfl (KEY.out (x)) (fun _ f => f.elim) wr.heap.size #[.int .i64 (x)] rfl (Blk.new _ _ _) (x) nob rfl (fun _ f => f.elim) j HJ.out (by omega) (by omega) (by simp; omega) ?_
             intro sA6 sc6 w6 hc6 hu6 _
             have hu7 : Upd (fun z => (Value.slice sA j sc).ownBlock = some z) wr w6 := (((Upd.refl nob wr).alloc _).mono (fun _ f => f.elim)).trans hu6
             have b6 := C5.out.upd hu7 (fun h => by have := hnO _ h; omega)
             have e6 : w6.cell? ⟨w.heap.size + 1 + 1 + 1, 1, none⟩ = some (.slice sA j sc) := b6.cell 1
             have f6 := b6.frozen 1
             have HC6 := Lib.hid hc6
             have HU7 := Lib.hid hu7
             clear hc6 hu6 hu7 b6))
      go_roundg (gk - 1)
      case measure => omega
      case rel =>
       have hp : max (n.at_ j) (m.at_ j) = x := by rw [HAT1.out, HAT2.out]; omega
       have hfin : Upd (fun z => (Value.slice sA j sc).ownBlock = some z ∨ z = w.heap.size + 1 + 1 + 1) wr (w6.setCell ⟨w.heap.size + 1 + 1 + 1, 1, none⟩ (.slice sA6 (j + 1) sc6)) := (HU7.out.mono fun _ h => .inl h).setCell (p := ⟨w.heap.size + 1 + 1 + 1, 1, none⟩) (.inl (.inr rfl)) _
       have hnot : ∀ z, z < w.heap.size + 1 + 1 + 1 → ¬ ((Value.slice sA j sc).ownBlock = some z ∨ z = w.heap.size + 1 + 1 + 1) := fun z hz h => by
        rcases h with h | h
        · have := hnO z h; omega
        omega
       refine ⟨j + 1, .slice sA6 (j + 1) sc6, by omega, by go_num, C0.out.upd hfin (hnot _ (by omega)), C1.out.upd hfin (hnot _ (by omega)), C4.out.upd hfin (hnot _ (by omega)), (C5.out.upd HU7.out (fun h => by have := hnO _ h; omega)).set 1 _, ?_, hu.trans' hfin (fun z hz h => hnot z (by omega) h), by have := hfin.size; omega⟩
       rw [HTK.out, hp]
       exact HC6.out.upd ((Upd.refl (fun z => z = w.heap.size + 1 + 1 + 1) w6).setCell (p := ⟨w.heap.size + 1 + 1 + 1, 1, none⟩) (.inl rfl) _) (fun z hz => ⟨by omega, fun f => f⟩) (fun _ f => f.elim)
    have t3 : decide ((j : Int) < L1) = false := by simp; omega
    have hat1 : n.at_ j = -1 := by unfold Nm.at_; rw [List.getD_eq_getElem?_getD, List.getElem?_eq_none (by have := HLN1.out; omega)]; rfl
    have HAT1 := Lib.hid hat1
    have hl2 : j < L2 := by have := HLM.out; omega
    have t4 : decide ((j : Int) < L2) = true := by simp [hl2]
    have hj2 : j < m.ks.length := by rw [HLN2.out]; exact hl2
    obtain ⟨b, hB, hbb, hcellb, _⟩ := hzm j _ (List.getElem?_eq_getElem hj2)
    obtain ⟨y, hyj⟩ : ∃ y, m.ks[j] = y := ⟨_, rfl⟩
    have hat2 : m.at_ j = y := by unfold Nm.at_; simp [hj2, hyj]
    rw [hyj] at hcellb
    have hcell2 : wr.cell? (b.add j) = some (.int .i64 y) := ((hD.old hu).cell (by rw [Addr_add_block]; exact hbb)).trans hcellb
    have HB := Lib.hid hB
    have HAT2 := Lib.hid hat2
    clear hB hcellb hyj hat2 hat1
    go_wp2_with (first
        | ((with_reducible refine this_op (.indexAddr 130 (.tmp 41) (.tmp 42)) ?_); refine wpList_index_at rfl 130 (.tmp 41) (.tmp 42) rfl _ b _ _ rfl HB.out j rfl hl2 3 Try.underlying130 1 int_size ?_)
        | (at_builtin; refine wpList_collect rfl (.tmp 47) (.tmp 49) 130 rfl _ 8 Try.underlying130 int_info (by kernel_rfl) (by decide) rfl (KEY.out (max (-1) y)) (fun _ f => f.elim) wr.heap.size #[.int .i64 (max (-1) y)] rfl (Blk.new _ _ _) (max (-1) y) nob rfl (fun _ f => f.elim) j HJ.out (by omega) (by omega) (by simp; omega) ?_
           intro sA6 sc6 w6 hc6 hu6 _
           have hu7 : Upd (fun z => (Value.slice sA j sc).ownBlock = some z) wr w6 := (((Upd.refl nob wr).alloc _).mono (fun _ f => f.elim)).trans hu6
           have b6 := C5.out.upd hu7 (fun h => by have := hnO _ h; omega)
           have e6 : w6.cell? ⟨w.heap.size + 1 + 1 + 1, 1, none⟩ = some (.slice sA j sc) := b6.cell 1
           have f6 := b6.frozen 1
           have HC6 := Lib.hid hc6
           have HU7 := Lib.hid hu7
           clear hc6 hu6 hu7 b6))
    go_roundg (gk - 1)
    case measure => omega
    case rel =>
     have hp : max (n.at_ j) (m.at_ j) = max (-1) y := by rw [HAT1.out, HAT2.out]
     have hfin : Upd (fun z => (Value.slice sA j sc).ownBlock = some z ∨ z = w.heap.size + 1 + 1 + 1) wr (w6.setCell ⟨w.heap.size + 1 + 1 + 1, 1, none⟩ (.slice sA6 (j + 1) sc6)) := (HU7.out.mono fun _ h => .inl h).setCell (p := ⟨w.heap.size + 1 + 1 + 1, 1, none⟩) (.inl (.inr rfl)) _
     have hnot : ∀ z, z < w.heap.size + 1 + 1 + 1 → ¬ ((Value.slice sA j sc).ownBlock = some z ∨ z = w.heap.size + 1 + 1 + 1) := fun z hz h => by
      rcases h with h | h
      · have := hnO z h; omega
      omega
     refine ⟨j + 1, .slice sA6 (j + 1) sc6, by omega, by go_num, C0.out.upd hfin (hnot _ (by omega)), C1.out.upd hfin (hnot _ (by omega)), C4.out.upd hfin (hnot _ (by omega)), (C5.out.upd HU7.out (fun h => by have := hnO _ h; omega)).set 1 _, ?_, hu.trans' hfin (fun z hz h => hnot z (by omega) h), by have := hfin.size; omega⟩
     rw [HTK.out, hp]
     exact HC6.out.upd ((Upd.refl (fun z => z = w.heap.size + 1 + 1 + 1) w6).setCell (p := ⟨w.heap.size + 1 + 1 + 1, 1, none⟩) (.inl rfl) _) (fun z hz => ⟨by omega, fun f => f⟩) (fun _ f => f.elim)
  have t2 : decide ((j : Int) < L) = false := by simp; omega
  have hjL : j = L := by omega
  subst hjL
  have hfull : (orK n m).take j = orK n m := List.take_of_length_le (by rw [HLEN0.out]; exact Nat.le_refl _)
  have HLEN : Hid ((orK n m).length = j) := HLEN0
  have hco := HCO.out
  rw [hfull] at hco
  have HCO := Lib.hid hco
  clear hco hfull HJ e2
  obtain ⟨sA9, sc9, hv9, hcp9, hints⟩ := HCO.out.ints (D := fun q => w.heap.size + 4 ≤ q ∧ q < wr.heap.size) (fun q h => h)
  rw [HLEN.out] at hv9 hcp9
  injection hv9 with z1 z2 z3
  subst z1 z3
  have hnm : NmIs (fun q => w.heap.size + 4 ≤ q ∧ q < wr.heap.size) wr (Nm.mk (max n.c m.c) (orK n m)) #[.int .i64 (max n.c m.c), .slice sA j sc] := ⟨sA, sc, by rw [HLEN.out], ⟨HFO.out, by rw [HLEN.out]; exact hcp9⟩, hints⟩
  have r5 := C5.out.rowAt
  have HNM := Lib.hid hnm
  clear hints hnm
  go_wp2_with (first
      | ((with_reducible refine this_op (.load 132 (.tmp 5)) ?_); refine wpList_at rfl 132 (.tmp 5) rfl ⟨w.heap.size + 1 + 1 + 1, 0, none⟩ rfl _ _ r5 Try.underlying132 rfl fm_size ?_))
  refine (rtidy_any (Nm.mk (max n.c m.c) (orK n m)) #[.int .i64 (max n.c m.c), .slice sA j sc] (fun q => w.heap.size + 4 ≤ q ∧ q < wr.heap.size) wr (fun q h => h.2) HNM.out).mono ?_
  rintro e w8 ⟨cs8, rfl, hn8, hb8⟩
  have hu8 : Upd nob wr w8 := Upd.of_below hb8
  have hw8s := hu8.size
  have hs8 := hn8.cells
  have hsi8 : (Try.prog.info? 132).map (·.size) = some cs8.size := by rw [hs8.1]; exact fm_size
  have c48 := C4.out.upd hu8 (fun f => f)
  have HN8 := Lib.hid hn8
  clear hn8
  go_wp2_with (first
      | ((with_reducible refine this_op (.store 132 (.tmp 4) (.tmp 54)) ?_); refine wpList_store_row rfl 132 (.tmp 4) (.tmp 54) rfl (w.heap.size + 1 + 1) _ rfl rfl 132 _ c48 hsi8 (by rw [hs8.1]; rfl) hs8.2 ?_))
  refine bodyPost_ret (results_cell_row rfl _ _ (w.heap.size + 1 + 1) 132 cs8 (0, 0) _ rfl (c48.row _) Try.underlying132 rfl hsi8) rfl ?_
  have hfin : Upd (fun q => q = w.heap.size + 1 + 1) w8 (w8.setRow (w.heap.size + 1 + 1) cs8) := (Upd.refl (fun q => q = w.heap.size + 1 + 1) w8).setRow (.inl rfl) _
  have hsf : (w8.setRow (w.heap.size + 1 + 1) cs8).heap.size = w8.heap.size := by simp
  exact ⟨cs8, rfl, HN8.out.old (Old.of_upd hfin fun q hq => ⟨fun h => by have := hq.1; omega, by have := hq.2; omega⟩) (fun q hq => ⟨by have := hq.1; omega, by have := hq.2; omega⟩), ((hu.trans hu8).trans' hfin (fun q hq h => by omega)).below⟩
end Go.Proofs.Ytiampoebdmflgaa
/- The reference's Norm. -/
namespace Go.Proofs.Ytiampoebdmflgaa
open Go.RowKit
set_option linter.unusedVariables false
set_option maxRecDepth 100000
set_option maxHeartbeats 4000000
set_option linter.unusedSimpArgs false
mutual
def rnorm : Lv → Nm
 | .mk k n ks => if k = 1 then ⟨n, []⟩ else if k = 2 then ⟨0, List.replicate n.toNat (-1) ++ [0]⟩ else if k = 3 then (rnormi ks 0).rplus n else (rnormi ks 0).rboth (rnormi ks 1)
def rnormi : List Lv → Nat → Nm
 | [], _ => ⟨0, []⟩
 | l :: _, 0 => rnorm l
 | _ :: ls, i + 1 => rnormi ls i
end
theorem rnormi_get : ∀ (ks : List Lv) (i : Nat) (h : i < ks.length), rnormi ks i = rnorm ks[i]
 | [], _, h => absurd h (by simp)
 | l :: ls, 0, _ => by simp [rnormi]
 | l :: ls, i + 1, h => by simp only [rnormi, List.getElem_cons_succ]; exact rnormi_get ls i (by simpa using h)
theorem rnorm_any (l : Lv) : ∀ (cs : Array Value) (D : Nat → Prop) (w : World), LOk l → Within D w → LvIs D w l cs →
    Calls Try.prog 66 #[.agg cs] w fun e w' => ∃ cs', e = .returned (.agg cs') ∧ NmIs (fresh w w') w' (rnorm l) cs' ∧ Below w.heap.size w w' := by
 induction l using Lv.ind with
 | h k n ks ih =>
  intro cs D w hok hD hl
  have hz := fm_zero
  simp only [LvIs] at hl
  obtain ⟨A, c, rfl, hk, hn, ⟨hlen, hcap⟩, hks⟩ := hl
  simp only [LOk] at hok
  obtain ⟨hr, hoks⟩ := hok
  have hcase := lright_cases hr
  have HO := Lib.hid hoks
  clear hr hoks
  obtain ⟨W1, hW1⟩ : ∃ W1, (w.alloc (.cells #[.int .i64 k, .int .i64 n, .slice A ks.length c] 24)).alloc (.cells #[.int .i64 0, .slice none 0 0] 132) = W1 := ⟨_, rfl⟩
  have huW1 : Upd nob w W1 := by rw [← hW1]; exact ((Upd.refl nob w).alloc _).alloc _
  have hsW1 : W1.heap.size = w.heap.size + 2 := by rw [← hW1]; simp
  have bk0 : Blk W1 (w.heap.size) 24 #[.int .i64 k, .int .i64 n, .slice A ks.length c] := by
   rw [← hW1]
   have h := Blk.new (w) 24 #[.int .i64 k, .int .i64 n, .slice A ks.length c]
   exact h.alloc _
  have bk1 : Blk W1 (w.heap.size + 1) 132 #[.int .i64 0, .slice none 0 0] := by
   rw [← hW1]
   have h := Blk.new (w.alloc (.cells #[.int .i64 k, .int .i64 n, .slice A ks.length c] 24)) 132 #[.int .i64 0, .slice none 0 0]
   rw [World.size_alloc] at h
   exact h
  have hD1 := hD.up huW1
  have hks1 := hks.old (hD.old huW1) (fun _ h => h)
  have k2 : W1.cell? ⟨w.heap.size, 2, none⟩ = some (.slice A ks.length c) := bk0.cell 2
  have k1 : W1.cell? ⟨w.heap.size, 1, none⟩ = some (.int .i64 n) := bk0.cell 1
  have hlt0 := bk0.lt
  have HB1 := Lib.hid bk1
  have HW1 := Lib.hid hW1
  have HKS := Lib.hid hks1
  clear hW1 bk0 bk1 hks hks1
  -- how each way ends: a form is stored in block 1
  have fin : ∀ (w3 : World) (x : Nm) (cs3 : Array Value) (D3 : Nat → Prop), Upd nob W1 w3 → NmIs D3 w3 x cs3 → (∀ y, D3 y → W1.heap.size ≤ y ∧ y < w3.heap.size) →
      NmIs (fresh w (w3.setRow (w.heap.size + 1) cs3)) (w3.setRow (w.heap.size + 1) cs3) x cs3 ∧ Below w.heap.size w (w3.setRow (w.heap.size + 1) cs3) ∧ Blk (w3.setRow (w.heap.size + 1) cs3) (w.heap.size + 1) 132 cs3 := by
   intro w3 x cs3 D3 hu3 hx hD3
   have hs3 := hu3.size
   have hfin : Upd (fun y => y = w.heap.size + 1) w3 (w3.setRow (w.heap.size + 1) cs3) := (Upd.refl (fun y => y = w.heap.size + 1) w3).setRow (.inl rfl) _
   have hs9 : (w3.setRow (w.heap.size + 1) cs3).heap.size = w3.heap.size := by simp
   refine ⟨hx.old (Old.of_upd hfin fun y hy => ⟨fun h => by have := (hD3 y hy).1; omega, (hD3 y hy).2⟩) (fun y hy => ⟨by have := (hD3 y hy).1; omega, by have := (hD3 y hy).2; omega⟩), ((huW1.trans hu3).trans' hfin (fun x hx h => by omega)).below, (HB1.out.upd hu3 (fun f => f)).row _⟩
  have FIN := Lib.hid fin
  clear fin
  rcases hcase with ⟨h1, h0, hn0, hn1⟩ | ⟨h1, h0, hn0, hn1⟩ | ⟨h1, h0, hn0, hn1⟩ | ⟨h1, h0⟩
  · subst h1
    have e : rnorm (.mk 1 n ks) = ⟨n, []⟩ := by rw [rnorm, if_pos rfl]
    rw [e]
    have hnm : NmIs nob W1 ⟨n, []⟩ #[.int .i64 n, .slice none 0 0] := ⟨none, 0, rfl, ⟨⟨⟨hn0, hn1⟩, fun x hx => by simp at hx, by simp⟩, Nat.le_refl _⟩, fun j z hj => by simp at hj⟩
    have hf := FIN.out W1 _ _ nob (Upd.refl _ _) hnm (fun _ f => f.elim)
    have HF := Lib.hid hf
    have hb1 := HB1.out
    rw [← HW1.out] at hb1
    clear e hnm hf h0 k1 k2
    go_enter Try.func66, Try.ntmps66
    go_wp2_with (first
              | ((with_reducible refine this_op (.store 132 (.tmp 2) (.tmp 10)) ?_); refine wpList_store_row rfl 132 (.tmp 2) (.tmp 10) rfl (w.heap.size + 1) _ rfl rfl 132 _ hb1 fm_size rfl (by simp [Value.oneCell']) ?_))
    rw [HW1.out]
    refine bodyPost_ret (results_cell_row rfl _ _ (w.heap.size + 1) 132 #[.int .i64 n, .slice none 0 0] (0, 0) _ rfl HF.out.2.2 Try.underlying132 rfl fm_size) rfl ?_
    exact ⟨_, rfl, HF.out.1, HF.out.2.1⟩
  · subst h1
    obtain ⟨q, hq⟩ : ∃ q : Nat, n = q := ⟨n.toNat, by omega⟩
    have hq2 : n.toNat = q := by omega
    have e : rnorm (.mk 2 n ks) = ⟨0, List.replicate q (-1) ++ [0]⟩ := by rw [rnorm, if_neg (by decide), if_pos rfl, hq2]
    rw [e]
    subst hq
    have hq1 : q ≤ 1000 := by omega
    obtain ⟨W3, hW3⟩ : ∃ W3, W1.alloc (.cells #[.int .i64 0, .slice none 0 0] 132) = W3 := ⟨_, rfl⟩
    have hu3 : Upd nob W1 W3 := by rw [← hW3]; exact (Upd.refl nob W1).alloc _
    have hs3 : W3.heap.size = w.heap.size + 3 := by rw [← hW3]; simp [hsW1]
    have hb3 : Blk W3 (w.heap.size + 1 + 1) 132 #[.int .i64 0, .slice none 0 0] := by
     rw [← hW3]
     have h9 := Blk.new W1 132 #[.int .i64 0, .slice none 0 0]
     rw [hsW1] at h9
     exact h9
    have HB3 := Lib.hid hb3
    rw [← HW1.out] at hW3
    have HW3 := Lib.hid hW3
    clear e hq2 h0 k1 k2 hW3 hb3
    go_enter Try.func66, Try.ntmps66
    go_wp2_with fail
    rw [HW3.out]
    clear HW3
    go_loopg [16] q (fun r v wr => ∃ (j : Nat) (sv : Value), j + r = q ∧ v = .int .i64 j ∧ Blk wr (w.heap.size + 1 + 1) 132 #[.int .i64 0, sv] ∧ Coll intR nob (w.heap.size + 3) 3 wr sv (List.replicate j (-1)) ∧ Upd (fun z => z = w.heap.size + 1 + 1) W1 wr ∧ w.heap.size + 3 ≤ wr.heap.size)
    case atStart => exact ⟨0, .slice none 0 0, by omega, rfl, HB3.out, Coll.nil_, hu3.mono (fun _ f => f.elim), by omega⟩
    case round =>
     clear HB3 hu3 hs3
     obtain ⟨j, sv, hj, rfl, c2, hco, hu, hsz⟩ := hrel
     obtain ⟨sA, sc, hsv, hcp⟩ := hco.form
     rw [List.length_replicate] at hsv hcp
     subst hsv
     have e2 : wr.cell? ⟨w.heap.size + 1 + 1, 1, none⟩ = some (.slice sA j sc) := c2.cell 1
     have C5 := Lib.hid c2
     have HCO := Lib.hid hco
     clear c2 hco
     have hnO : ∀ q, (Value.slice sA j sc).ownBlock = some q → w.heap.size + 3 ≤ q := fun q h => (HCO.out.lt h).1
     have key : ∀ y : Int, Coll intR nob (w.heap.size + 3) 3 (wr.alloc (.cells #[.int .i64 y] 3)) (.slice sA j sc) (List.replicate j (-1)) := fun y => HCO.out.upd ((Upd.refl nob wr).alloc _) (fun _ f => f.elim) (fun _ f => f.elim)
     have KEY := Lib.hid key
     clear key
     by_cases hlt : j < q
     · have t2 : decide ((j : Int) < q) = true := by simp [hlt]
       go_wp2_with (first
                     | (at_builtin; refine wpList_collect rfl (.tmp 19) (.tmp 20) 130 rfl _ 8 Try.underlying130 int_info (by kernel_rfl) (by decide) rfl (KEY.out (-1)) (fun _ f => f.elim) wr.heap.size #[.int .i64 (-1)] rfl (Blk.new _ _ _) (-1) nob rfl (fun _ f => f.elim) j (by rw [List.length_replicate]) (by omega) (by omega) (by simp; omega) ?_
                        intro sA6 sc6 w6 hc6 hu6 _
                        have hu7 : Upd (fun z => (Value.slice sA j sc).ownBlock = some z) wr w6 := (((Upd.refl nob wr).alloc _).mono (fun _ f => f.elim)).trans hu6
                        have b6 := C5.out.upd hu7 (fun h => by have := hnO _ h; omega)
                        have e6 : w6.cell? ⟨w.heap.size + 1 + 1, 1, none⟩ = some (.slice sA j sc) := b6.cell 1
                        have f6 := b6.frozen 1
                        have HC6 := Lib.hid hc6
                        have HU7 := Lib.hid hu7
                        clear hc6 hu6 hu7
                        clear b6))
       go_roundg (gk - 1)
       case measure => omega
       case rel =>
        have hfin : Upd (fun z => (Value.slice sA j sc).ownBlock = some z ∨ z = w.heap.size + 1 + 1) wr (w6.setCell ⟨w.heap.size + 1 + 1, 1, none⟩ (.slice sA6 (j + 1) sc6)) := (HU7.out.mono fun _ h => .inl h).setCell (p := ⟨w.heap.size + 1 + 1, 1, none⟩) (.inl (.inr rfl)) _
        refine ⟨j + 1, .slice sA6 (j + 1) sc6, by omega, by go_num, (C5.out.upd HU7.out (fun h => by have := hnO _ h; omega)).set 1 _, ?_, hu.trans' hfin (fun z hz h => by rcases h with h | h; (have := hnO z h; omega); exact h), by have := hfin.size; omega⟩
        rw [List.replicate_succ']
        exact HC6.out.upd ((Upd.refl (fun z => z = w.heap.size + 1 + 1) w6).setCell (p := ⟨w.heap.size + 1 + 1, 1, none⟩) (.inl rfl) _) (fun z hz => ⟨by omega, fun f => f⟩) (fun _ f => f.elim)
     have t2 : decide ((j : Int) < q) = false := by simp; omega
     have hjq : j = q := by omega
     subst hjq
     go_wp2_with (first
                   | (at_builtin; refine wpList_collect rfl (.tmp 25) (.tmp 26) 130 rfl _ 8 Try.underlying130 int_info (by kernel_rfl) (by decide) rfl (KEY.out (0)) (fun _ f => f.elim) wr.heap.size #[.int .i64 (0)] rfl (Blk.new _ _ _) (0) nob rfl (fun _ f => f.elim) j (by rw [List.length_replicate]) (by omega) (by omega) (by simp; omega) ?_
                      intro sA6 sc6 w6 hc6 hu6 _
                      have hu7 : Upd (fun z => (Value.slice sA j sc).ownBlock = some z) wr w6 := (((Upd.refl nob wr).alloc _).mono (fun _ f => f.elim)).trans hu6
                      have b6 := C5.out.upd hu7 (fun h => by have := hnO _ h; omega)
                      have e6 : w6.cell? ⟨w.heap.size + 1 + 1, 1, none⟩ = some (.slice sA j sc) := b6.cell 1
                      have f6 := b6.frozen 1
                      have HC6 := Lib.hid hc6
                      have HU7 := Lib.hid hu7
                      clear hc6 hu6 hu7
                      obtain ⟨W9, hW9⟩ : ∃ W9, w6.setCell ⟨w.heap.size + 1 + 1, 1, none⟩ (.slice sA6 (j + 1) sc6) = W9 := ⟨_, rfl⟩
                      have hu9 : Upd (fun z => z = w.heap.size + 1 + 1) w6 W9 := by rw [← hW9]; exact (Upd.refl (fun z => z = w.heap.size + 1 + 1) w6).setCell (p := ⟨w.heap.size + 1 + 1, 1, none⟩) (.inl rfl) _
                      have hb9 : Blk W9 (w.heap.size + 1 + 1) 132 #[.int .i64 0, .slice sA6 (j + 1) sc6] := by rw [← hW9]; exact b6.set 1 _
                      have r9 := hb9.rowAt
                      have hb19 := ((HB1.out.upd hu (fun h => absurd h (by show ¬ (w.heap.size + 1 = w.heap.size + 1 + 1); omega))).upd HU7.out (fun h => by have := hnO _ h; omega)).upd hu9 (fun h => absurd h (by show ¬ (w.heap.size + 1 = w.heap.size + 1 + 1); omega))
                      rw [← hW9] at r9 hb19
                      have hone9 : (#[Value.int .i64 0, .slice sA6 (j + 1) sc6]).all (·.oneCell') = true := by simp [Value.oneCell']
                      have HW9 := Lib.hid hW9
                      have hw6s := hu9.size
                      clear b6 hW9 hb9)
                   | ((with_reducible refine this_op (.load 132 (.tmp 3)) ?_); refine wpList_at rfl 132 (.tmp 3) rfl ⟨w.heap.size + 1 + 1, 0, none⟩ rfl _ _ r9 Try.underlying132 rfl fm_size ?_)
                   | ((with_reducible refine this_op (.store 132 (.tmp 2) (.tmp 29)) ?_); refine wpList_store_row rfl 132 (.tmp 2) (.tmp 29) rfl (w.heap.size + 1) _ rfl rfl 132 _ hb19 fm_size rfl hone9 ?_))
     obtain ⟨A9, c9, hv9, hcp9, hints⟩ := HC6.out.ints (D := fun q => w.heap.size + 3 ≤ q ∧ q < w6.heap.size) (fun q h => h)
     have hl9 : (List.replicate j (-1 : Int) ++ [0]).length = j + 1 := by simp
     rw [hl9] at hv9 hcp9
     injection hv9 with z1 z2 z3
     subst z1 z3
     have hnm : NmIs (fun q => w.heap.size + 3 ≤ q ∧ q < w6.heap.size) w6 ⟨0, List.replicate j (-1) ++ [0]⟩ #[.int .i64 0, .slice sA6 (j + 1) sc6] :=
      ⟨sA6, sc6, by rw [hl9], ⟨⟨⟨by show (0 : Int) ≤ 0; omega, by show (0 : Int) ≤ 1099511627776; omega⟩, fun x hx => by
       rcases List.mem_append.1 hx with hx | hx
       · rw [List.eq_of_mem_replicate hx]; omega
       rw [List.mem_singleton.1 hx]; omega, by show (List.replicate j (-1 : Int) ++ [0]).length ≤ 1001; rw [hl9]; omega⟩, by show (List.replicate j (-1 : Int) ++ [0]).length ≤ sc6; rw [hl9]; exact hcp9⟩, hints⟩
     rw [HW9.out] at hb19 ⊢
     refine bodyPost_ret (results_cell_row rfl _ _ (w.heap.size + 1) 132 #[.int .i64 0, .slice sA6 (j + 1) sc6] (0, 0) _ rfl (hb19.row _) Try.underlying132 rfl fm_size) rfl ?_
     have hfin : Upd (fun z => z = w.heap.size + 1) W9 (W9.setRow (w.heap.size + 1) #[.int .i64 0, .slice sA6 (j + 1) sc6]) := (Upd.refl (fun z => z = w.heap.size + 1) W9).setRow (.inl rfl) _
     have hsf : (W9.setRow (w.heap.size + 1) #[.int .i64 0, .slice sA6 (j + 1) sc6]).heap.size = W9.heap.size := by simp
     refine ⟨_, rfl, hnm.old ((Old.of_upd hu9 fun q hq => ⟨fun h => by have : q = w.heap.size + 1 + 1 := h; have := hq.1; omega, hq.2⟩).trans (Old.of_upd hfin fun q hq => ⟨fun h => by have := hq.1; omega, by have := hq.2; omega⟩)) (fun q hq => ⟨by have := hq.1; omega, by have := hq.2; omega⟩), ?_⟩
     exact ((((huW1.trans' hu (fun q hq h => by have : q = w.heap.size + 1 + 1 := h; omega)).trans' HU7.out (fun q hq h => by have := hnO q h; omega)).trans' hu9 (fun q hq h => by have : q = w.heap.size + 1 + 1 := h; omega)).trans' hfin (fun q hq h => by omega)).below
  · subst h1
    have hk0 : 0 < ks.length := by omega
    have e : rnorm (.mk 3 n ks) = (rnorm ks[0]).rplus n := by rw [rnorm, if_neg (by decide), if_neg (by decide), if_pos rfl, rnormi_get ks 0 hk0]
    rw [e]
    clear e
    obtain ⟨a, cs0, hA, hab, hrow, hl0⟩ := HKS.out.at_ (j := 0) (List.getElem?_eq_getElem hk0)
    have hs0 := hl0.oneCell
    have hsi0 : (Try.prog.info? 24).map (·.size) = some cs0.size := by rw [hs0.1]; exact lv_size
    have hok0 := HO.out.mem _ (List.getElem_mem hk0)
    have HA := Lib.hid hA
    have HL0 := Lib.hid hl0
    have hbl := hD1 _ hab
    have HIH := Lib.hid (ih ks[0] (List.getElem_mem hk0))
    clear hA hl0 h0
    go_enter Try.func66, Try.ntmps66
    go_wp2_with fail
    rw [HW1.out]
    clear HW1
    refine wp_region_P (by kernel_rfl) ?_
    refine wpAny_of_E (fun X : World => ∀ p : Addr, p.block < W1.heap.size → X.cell? p = W1.cell? p) 8 _ _ _ _ ?_
    have hS : ∀ p : Addr, p.block < W1.heap.size → W1.drew.cell? p = W1.cell? p := fun _ _ => rfl
    refine eT 0 ?_ [] rfl (by kernel_rfl) (by rfl) ?_ hS ?_
    rotate_left; · intro wx hx; clear hx; go_simp; with_reducible rfl
    try simp only [tl]
    refine eT 1 ?_ [] rfl (by kernel_rfl) (by rfl) ?_ hS ?_
    rotate_left
    · intro wx hx
      have q0 := (hx ⟨w.heap.size, 2, none⟩ hlt0).trans k2
      clear hx
      go_simp
      with_reducible rfl
    try simp only [tl]
    refine eT 2 (.pointer (some (Addr.add a (0 * 3)))) [] rfl (by kernel_rfl) (by rfl) ?_ hS ?_
    · intro wx hx
      exact run_index_at 22 (.tmp 33) (.const (.int .i64 0)) rfl _ a _ _ rfl HA.out 0 rfl hk0 24 Try.underlying22 3 lv_size
    try simp only [tl]
    refine eT 3 (.agg cs0) [] rfl (by kernel_rfl) (by rfl) ?_ hS ?_
    · intro wx hx
      exact run_load_at 24 (.tmp 34) rfl (Addr.add a (0 * 3)) rfl cs0 _ (row_on hrow (by rw [Addr_add_block]; exact hbl) hx) Try.underlying24 rfl hsi0
    try simp only [tl]
    refine eT 5 ?_ [] rfl (by kernel_rfl) (by rfl) ?_ hS ?_
    rotate_left; · intro wx hx; clear hx; go_simp; with_reducible rfl
    try simp only [tl]
    refine eT 6 ?_ [] rfl (by kernel_rfl) (by rfl) ?_ hS ?_
    rotate_left
    · intro wx hx
      have q0 := (hx ⟨w.heap.size, 1, none⟩ hlt0).trans k1
      clear hx
      go_simp
      with_reducible rfl
    try simp only [tl]
    refine wpAnyE_one (i := 4) (by kernel_rfl) (by kernel_rfl) rfl (by rfl) fun K hK => ?_
    go_simp
    refine (HIH.out cs0 D W1.drew hok0 hD1.drew HL0.out.drew).mono ?_
    rintro e w4 ⟨cs4, rfl, hn4, hb4⟩
    have hu4 : Upd nob W1 w4 := ((Upd.refl nob W1).drew).trans (Upd.of_below hb4)
    have hu4s := hu4.size
    have hn4' : NmIs (fun q => W1.heap.size ≤ q ∧ q < w4.heap.size) w4 (rnorm ks[0]) cs4 := hn4
    have HN4 := Lib.hid hn4'
    clear hn4 hn4'
    refine hK _ _ (cells_of_upd hu4) ?_
    clear hK K; try simp only [tl]
    refine wpAnyE_one (i := 7) (by kernel_rfl) (by kernel_rfl) rfl (by rfl) fun K hK => ?_
    go_simp
    refine (rplus_any (rnorm ks[0]) n cs4 (fun q => W1.heap.size ≤ q ∧ q < w4.heap.size) w4 (by omega) hn1 (fun q h => h.2) HN4.out).mono ?_
    rintro e w5 ⟨cs5, rfl, hn5, hb5⟩
    have hu5 : Upd nob w4 w5 := Upd.of_below hb5
    have hf := FIN.out w5 _ cs5 (fresh w4 w5) (hu4.trans hu5) hn5 (fun y hy => ⟨by have := hy.1; omega, hy.2⟩)
    have hs5 := hn5.cells
    have hsi5 : (Try.prog.info? 132).map (·.size) = some cs5.size := by rw [hs5.1]; exact fm_size
    have hb15 := HB1.out.upd (hu4.trans hu5) (fun f => f)
    have HF := Lib.hid hf
    clear hf hn5
    refine hK _ _ (cells_of_upd (hu4.trans hu5)) ?_
    clear hK K; try simp only [tl]
    refine wpAnyE_z (by kernel_rfl) rfl (by rfl) fun K hK => ?_
    refine owp_store_blk 132 (.tmp 2) (.tmp 39) rfl rfl (w.heap.size + 1) cs5 rfl rfl 132 _ hb15 hsi5 (by rw [hs5.1]; rfl) hs5.2 ?_
    refine hK _ _ ?_
    clear hK K; try simp only [tl]
    refine wpAny_done (by kernel_rfl) ?_ _
    refine NoPanic.normal ?_
    go_wp2_with fail
    refine bodyPost_ret (results_cell_row rfl _ _ (w.heap.size + 1) 132 cs5 (0, 0) _ rfl HF.out.2.2 Try.underlying132 rfl hsi5) rfl ?_
    exact ⟨_, rfl, HF.out.1, HF.out.2.1⟩
  subst h1
  have hk0 : 0 < ks.length := by omega
  have hk1 : 1 < ks.length := by omega
  have e : rnorm (.mk 4 n ks) = (rnorm ks[0]).rboth (rnorm ks[1]) := by rw [rnorm, if_neg (by decide), if_neg (by decide), if_neg (by decide), rnormi_get ks 0 hk0, rnormi_get ks 1 hk1]
  rw [e]
  clear e
  obtain ⟨a, cs0, hA, hab, hrow, hl0⟩ := HKS.out.at_ (j := 0) (List.getElem?_eq_getElem hk0)
  obtain ⟨a2, cs1, hA2, hab2, hrow1, hl1⟩ := HKS.out.at_ (List.getElem?_eq_getElem hk1)
  have haa : a = a2 := by rw [hA] at hA2; simpa using hA2
  subst haa
  have hs0 := hl0.oneCell
  have hsi0 : (Try.prog.info? 24).map (·.size) = some cs0.size := by rw [hs0.1]; exact lv_size
  have hs1 := hl1.oneCell
  have hsi1 : (Try.prog.info? 24).map (·.size) = some cs1.size := by rw [hs1.1]; exact lv_size
  have hok0 := HO.out.mem _ (List.getElem_mem hk0)
  have hok1 := HO.out.mem _ (List.getElem_mem hk1)
  have HA := Lib.hid hA
  have HL0 := Lib.hid hl0
  have HL1 := Lib.hid hl1
  have hbl := hD1 _ hab
  have HIH := Lib.hid (ih ks[0] (List.getElem_mem hk0))
  have HIH1 := Lib.hid (ih ks[1] (List.getElem_mem hk1))
  clear hA hA2 hl0 hl1 h0
  go_enter Try.func66, Try.ntmps66
  go_wp2_with fail
  rw [HW1.out]
  clear HW1
  refine wp_region_P (by kernel_rfl) ?_
  refine wpAny_of_E (fun X : World => ∀ p : Addr, p.block < W1.heap.size → X.cell? p = W1.cell? p) 11 _ _ _ _ ?_
  have hS : ∀ p : Addr, p.block < W1.heap.size → W1.drew.cell? p = W1.cell? p := fun _ _ => rfl
  refine eT 0 ?_ [] rfl (by kernel_rfl) (by rfl) ?_ hS ?_
  rotate_left; · intro wx hx; clear hx; go_simp; with_reducible rfl
  try simp only [tl]
  refine eT 1 ?_ [] rfl (by kernel_rfl) (by rfl) ?_ hS ?_
  rotate_left
  · intro wx hx
    have q0 := (hx ⟨w.heap.size, 2, none⟩ hlt0).trans k2
    clear hx
    go_simp
    with_reducible rfl
  try simp only [tl]
  refine eT 2 (.pointer (some (Addr.add a (0 * 3)))) [] rfl (by kernel_rfl) (by rfl) ?_ hS ?_
  · intro wx hx
    exact run_index_at 22 (.tmp 41) (.const (.int .i64 0)) rfl _ a _ _ rfl HA.out 0 rfl hk0 24 Try.underlying22 3 lv_size
  try simp only [tl]
  refine eT 3 (.agg cs0) [] rfl (by kernel_rfl) (by rfl) ?_ hS ?_
  · intro wx hx
    exact run_load_at 24 (.tmp 42) rfl (Addr.add a (0 * 3)) rfl cs0 _ (row_on hrow (by rw [Addr_add_block]; exact hbl) hx) Try.underlying24 rfl hsi0
  try simp only [tl]
  refine eT 5 ?_ [] rfl (by kernel_rfl) (by rfl) ?_ hS ?_
  rotate_left; · intro wx hx; clear hx; go_simp; with_reducible rfl
  try simp only [tl]
  refine eT 6 ?_ [] rfl (by kernel_rfl) (by rfl) ?_ hS ?_
  rotate_left
  · intro wx hx
    have q0 := (hx ⟨w.heap.size, 2, none⟩ hlt0).trans k2
    clear hx
    go_simp
    with_reducible rfl
  try simp only [tl]
  refine eT 7 (.pointer (some (Addr.add a (1 * 3)))) [] rfl (by kernel_rfl) (by rfl) ?_ hS ?_
  · intro wx hx
    exact run_index_at 22 (.tmp 46) (.const (.int .i64 1)) rfl _ a _ _ rfl HA.out 1 rfl hk1 24 Try.underlying22 3 lv_size
  try simp only [tl]
  refine eT 8 (.agg cs1) [] rfl (by kernel_rfl) (by rfl) ?_ hS ?_
  · intro wx hx
    exact run_load_at 24 (.tmp 47) rfl (Addr.add a (1 * 3)) rfl cs1 _ (row_on hrow1 (by rw [Addr_add_block]; exact hbl) hx) Try.underlying24 rfl hsi1
  try simp only [tl]
  refine wpAnyE_one (i := 4) (by kernel_rfl) (by kernel_rfl) rfl (by rfl) fun K hK => ?_
  go_simp
  refine (HIH.out cs0 D W1.drew hok0 hD1.drew HL0.out.drew).mono ?_
  rintro e w4 ⟨cs4, rfl, hn4, hb4⟩
  have hu4 : Upd nob W1 w4 := ((Upd.refl nob W1).drew).trans (Upd.of_below hb4)
  have hu4s := hu4.size
  have hn4' : NmIs (fun q => W1.heap.size ≤ q ∧ q < w4.heap.size) w4 (rnorm ks[0]) cs4 := hn4
  have HN4 := Lib.hid hn4'
  clear hn4 hn4'
  refine hK _ _ (cells_of_upd hu4) ?_
  clear hK K; try simp only [tl]
  refine wpAnyE_one (i := 9) (by kernel_rfl) (by kernel_rfl) rfl (by rfl) fun K hK => ?_
  go_simp
  refine (HIH1.out cs1 D w4 hok1 (hD1.up hu4) (HL1.out.old (hD1.old hu4) (fun _ h => h))).mono ?_
  rintro e w6 ⟨cs6, rfl, hn6, hb6⟩
  have hu6 : Upd nob w4 w6 := Upd.of_below hb6
  have hu6s := hu6.size
  have hn6' : NmIs (fun q => W1.heap.size ≤ q ∧ q < w6.heap.size) w6 (rnorm ks[1]) cs6 := hn6.old (Old.refl _ _) (fun q hq => ⟨by have := hq.1; omega, hq.2⟩)
  have hn46 : NmIs (fun q => W1.heap.size ≤ q ∧ q < w6.heap.size) w6 (rnorm ks[0]) cs4 := HN4.out.old (Old.of_upd hu6 fun q hq => ⟨fun f => f, hq.2⟩) (fun q hq => ⟨hq.1, by have := hq.2; omega⟩)
  have HN6 := Lib.hid hn6'
  have HN46 := Lib.hid hn46
  clear hn6 hn6' hn46
  refine hK _ _ (cells_of_upd (hu4.trans hu6)) ?_
  clear hK K; try simp only [tl]
  refine wpAnyE_one (i := 10) (by kernel_rfl) (by kernel_rfl) rfl (by rfl) fun K hK => ?_
  go_simp
  refine (rboth_any (rnorm ks[0]) (rnorm ks[1]) cs4 cs6 (fun q => W1.heap.size ≤ q ∧ q < w6.heap.size) w6 (fun q h => h.2) HN46.out HN6.out).mono ?_
  rintro e w5 ⟨cs5, rfl, hn5, hb5⟩
  have hu5 : Upd nob w6 w5 := Upd.of_below hb5
  have hu15 := (hu4.trans hu6).trans hu5
  have hf := FIN.out w5 _ cs5 (fresh w6 w5) hu15 hn5 (fun y hy => ⟨by have := hy.1; omega, hy.2⟩)
  have hs5 := hn5.cells
  have hsi5 : (Try.prog.info? 132).map (·.size) = some cs5.size := by rw [hs5.1]; exact fm_size
  have hb15 := HB1.out.upd hu15 (fun f => f)
  have HF := Lib.hid hf
  clear hf hn5
  refine hK _ _ (cells_of_upd hu15) ?_
  clear hK K; try simp only [tl]
  refine wpAnyE_z (by kernel_rfl) rfl (by rfl) fun K hK => ?_
  refine owp_store_blk 132 (.tmp 2) (.tmp 50) rfl rfl (w.heap.size + 1) cs5 rfl rfl 132 _ hb15 hsi5 (by rw [hs5.1]; rfl) hs5.2 ?_
  refine hK _ _ ?_
  clear hK K; try simp only [tl]
  refine wpAny_done (by kernel_rfl) ?_ _
  refine NoPanic.normal ?_
  go_wp2_with fail
  refine bodyPost_ret (results_cell_row rfl _ _ (w.heap.size + 1) 132 cs5 (0, 0) _ rfl HF.out.2.2 Try.underlying132 rfl hsi5) rfl ?_
  exact ⟨_, rfl, HF.out.1, HF.out.2.1⟩
end Go.Proofs.Ytiampoebdmflgaa
