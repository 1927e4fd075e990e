/- Texts put one behind the other: Zsnd, Tvals2, Tment, Ments, Teqf, Tsame, Tsam. -/
import Derived.Test.YtiampoebdmflgaaShapeOf3
import Derived.Test.YtiampoebdmflgaaShapeOf2
import Derived.Deep.LoopGhost

/- The reference's Sound. -/
namespace Go.Proofs.Ytiampoebdmflgaa
open Go.RowKit
set_option linter.unusedVariables false
set_option maxRecDepth 100000
set_option maxHeartbeats 4000000
set_option linter.unusedSimpArgs false
mutual
/-- assizeref6.sound: goes on with c nodes counted. -/
def rsnd : Lv → Nat → Nat → Bool × Nat
 | .mk k n ks, d, c => if 256 < d ∨ 1000 < c + 1 ∨ lar k < 0 ∨ (ks.length : Int) ≠ lar k then (false, c + 1)
  else if k = 1 then (decide (0 ≤ n) && decide (n ≤ 1099511627776), c + 1) else if k = 2 then (decide (0 ≤ n) && decide (n ≤ 1000), c + 1)
  else if k = 3 ∧ (n < 1 ∨ 1099511627776 < n) then (false, c + 1) else rsnds ks d (c + 1)
def rsnds : List Lv → Nat → Nat → Bool × Nat
 | [], _, c => (true, c)
 | l :: ls, d, c => if (rsnd l (d + 1) c).1 = true then rsnds ls d (rsnd l (d + 1) c).2 else (false, (rsnd l (d + 1) c).2)
end
def rsound (l : Lv) : Bool := (rsnd l 1 0).1
mutual
theorem rsnd_le : ∀ (l : Lv) (d c : Nat), (rsnd l d c).1 = true → (rsnd l d c).2 ≤ 1000
 | .mk k n ks, d, c, h => by
  rw [rsnd] at h ⊢
  by_cases h1 : 256 < d ∨ 1000 < c + 1 ∨ lar k < 0 ∨ (ks.length : Int) ≠ lar k
  · rw [if_pos h1] at h; cases h
  · rw [if_neg h1] at h ⊢
    have hc : c + 1 ≤ 1000 := by omega
    by_cases h2 : k = 1
    · rw [if_pos h2]; exact hc
    · rw [if_neg h2] at h ⊢
      by_cases h3 : k = 2
      · rw [if_pos h3]; exact hc
      · rw [if_neg h3] at h ⊢
        by_cases h4 : k = 3 ∧ (n < 1 ∨ 1099511627776 < n)
        · rw [if_pos h4] at h; cases h
        · rw [if_neg h4] at h ⊢
          exact rsnds_le ks d (c + 1) hc h
theorem rsnds_le : ∀ (l : List Lv) (d c : Nat), c ≤ 1000 → (rsnds l d c).1 = true → (rsnds l d c).2 ≤ 1000
 | [], _, c, hc, _ => by rw [rsnds]; exact hc
 | l :: ls, d, c, hc, h => by
  rw [rsnds] at h ⊢
  by_cases h1 : (rsnd l (d + 1) c).1 = true
  · rw [if_pos h1] at h ⊢
    exact rsnds_le ls d _ (rsnd_le l (d + 1) c h1) h
  · rw [if_neg h1] at h; cases h
end
theorem rsnd_any (l : Lv) : ∀ (cs : Array Value) (D : Nat → Prop) (d cn nb : Nat) (w : World), LvIs D w l cs → Within D w → ¬ D nb → Blk w nb 3 #[.int .i64 cn] → cn ≤ 1000 → d ≤ 1000 →
    Calls Try.prog 42 #[.agg cs, .int .i64 d, .pointer (some ⟨nb, 0, none⟩)] w fun e w' =>
     e = .returned (.bool (rsnd l d cn).1) ∧ Blk w' nb 3 #[.int .i64 (rsnd l d cn).2] ∧ Upd (fun q => q = nb) w w' := by
 induction l using Lv.ind with
 | h k n ks ih =>
  intro cs D d cn nb w hl hD hnb hb hc hd
  have hz := lv_zero
  have hl0 := hl
  simp only [LvIs] at hl
  obtain ⟨A, c, rfl, hk, hn, hlen, hks⟩ := hl
  have hnbw := hb.lt
  obtain ⟨⟨X1, X2⟩, hX⟩ : ∃ X, rsnd (.mk k n ks) d cn = X := ⟨_, rfl⟩
  rw [hX]
  rw [rsnd] at hX
  have HX := Lib.hid hX; clear hX hl0
  have hcn : IntKind.i64.wrap ((cn : Int) + 1) = (cn : Int) + 1 := IntWalk.i64_in _ (by omega)
  have c1 : w.cell? ⟨nb, 0, none⟩ = some (.int .i64 cn) := hb.cell 0
  have z1 := hb.frozen 0
  obtain ⟨W1, hW1⟩ : ∃ W1, w.setCell ⟨nb, 0, none⟩ (.int .i64 ((cn : Int) + 1)) = W1 := ⟨_, rfl⟩
  have hu1 : Upd (fun q => q = nb) w W1 := by rw [← hW1]; exact (Upd.refl (fun q => q = nb) w).setCell (p := ⟨nb, 0, none⟩) (.inl rfl) _
  have hb1 : Blk W1 nb 3 #[.int .i64 ((cn : Int) + 1)] := by rw [← hW1]; exact hb.set 0 _
  have hs1 : W1.heap.size = w.heap.size := by rw [← hW1]; simp [World.setCell]
  obtain ⟨W2, hW2⟩ : ∃ W2, W1.alloc (.cells #[.int .i64 k, .int .i64 n, .slice A ks.length c] 24) = W2 := ⟨_, rfl⟩
  have hu2 : Upd nob W1 W2 := by rw [← hW2]; exact (Upd.refl nob W1).alloc _
  have hs2 : W2.heap.size = w.heap.size + 1 := by rw [← hW2]; simp [hs1]
  have bk2 : Blk W2 w.heap.size 24 #[.int .i64 k, .int .i64 n, .slice A ks.length c] := by rw [← hW2, ← hs1]; exact Blk.new _ _ _
  have hu02 : Upd (fun q => q = nb) w W2 := hu1.trans (hu2.mono (fun _ f => f.elim))
  have hb2 := hb1.upd hu2 (fun f => f)
  have ho2 : Old D w W2 := Old.of_upd hu02 fun q hq => ⟨fun h => hnb (h ▸ hq), hD q hq⟩
  have hD2 := hD.up hu02
  have k0 : W2.cell? ⟨w.heap.size, 0, none⟩ = some (.int .i64 k) := bk2.cell 0
  have k1 : W2.cell? ⟨w.heap.size, 1, none⟩ = some (.int .i64 n) := bk2.cell 1
  have k2 : W2.cell? ⟨w.heap.size, 2, none⟩ = some (.slice A ks.length c) := bk2.cell 2
  have c2 : W2.cell? ⟨nb, 0, none⟩ = some (.int .i64 ((cn : Int) + 1)) := hb2.cell 0
  have hks2 := hks.old ho2 (fun _ h => h)
  have hlt2 := bk2.lt
  have hnb2 : nb < W2.heap.size := by omega
  have HB2 := Lib.hid hb2
  have HKS := Lib.hid hks2
  rw [← hW1] at hW2
  have HW2 := Lib.hid hW2
  clear hW1 hW2 hb1 hb2 bk2 hks2 hks hb
  have hb2' : Blk W2 nb 3 #[.int .i64 ((cn + 1 : Nat) : Int)] := HB2.out
  have HB3 := Lib.hid hb2'
  obtain ⟨q, hq⟩ : ∃ q, lar k = q := ⟨_, rfl⟩
  have hTA : ∀ wx : World, Calls Try.prog 67 #[.int .i64 k] wx fun e w' => e = .returned (.int .i64 q) ∧ w' = wx := fun wx => hq ▸ rarity_any k wx
  have hx := HX.out
  rw [hq] at hx
  have hqk : (k = 1 → q = 0) ∧ (k = 2 → q = 0) := by rw [← hq]; exact ⟨fun h => by subst h; rfl, fun h => by subst h; rfl⟩
  have HX1 := Lib.hid hx
  have TA := Lib.hid hTA
  clear hb2' hTA hx HX hq
  have fin : ∀ W3 : World, Upd nob W2 W3 → (X1, X2) = (false, cn + 1) → (Ending.returned (Value.bool false) = .returned (.bool X1)) ∧ Blk W3 nb 3 #[.int .i64 X2] ∧ Upd (fun q => q = nb) w W3 := fun W3 hu h => by
   injection h with h1 h2
   subst h1 h2
   exact ⟨rfl, HB3.out.upd hu (fun f => f), hu02.trans (hu.mono (fun _ f => f.elim))⟩
  have FIN := Lib.hid fin
  clear fin
  by_cases ha : 256 < d
  · have hx := HX1.out
    rw [if_pos (.inl ha)] at hx
    have t1 : decide ((256 : Int) < d) = true := by simp; omega
    have HX2 := Lib.hid hx.symm
    clear HX1 hx
    go_enter Try.func42, Try.ntmps42
    go_wp2_with fail
    rw [HW2.out]
    refine wp_region_P (by kernel_rfl) ?_
    refine wpAny_of_held (S := fun X : World => ∀ p : Addr, p.block < W2.heap.size → X.cell? p = W2.cell? p) _ _ _ _ ?_
    have hS : ∀ p : Addr, p.block < W2.heap.size → W2.drew.cell? p = W2.cell? p := fun _ _ => rfl
    refine wpAnyH_take (i := 0) (v := ?_) rfl (by kernel_rfl) (by kernel_rfl) (by kernel_rfl) (fun _ _ _ h => h) (Or.inl ⟨by rfl, ?_⟩) hS ?_
    rotate_left
    · intro wx hx
      clear hx
      go_simp
      with_reducible rfl
    try simp only [tl]
    refine wpAnyH_take (i := 1) (v := ?_) rfl (by kernel_rfl) (by kernel_rfl) (by kernel_rfl) (fun _ _ _ h => h) (Or.inl ⟨by rfl, ?_⟩) hS ?_
    rotate_left
    · intro wx hx
      clear hx
      go_simp
      with_reducible rfl
    try simp only [tl]
    refine wpAnyH_take (i := 2) (v := ?_) rfl (by kernel_rfl) (by kernel_rfl) (by kernel_rfl) (fun _ _ _ h => h) (Or.inl ⟨by rfl, ?_⟩) hS ?_
    rotate_left
    · intro wx hx
      clear hx
      go_simp
      with_reducible rfl
    try simp only [tl]
    refine wpAnyH_take (i := 3) (v := undef) rfl (by kernel_rfl) (by kernel_rfl) (by kernel_rfl) (fun _ _ _ h => h) (Or.inr ⟨by rfl, by rfl⟩) hS ?_
    try simp only [tl]
    refine wpAnyH_take (i := 4) (v := undef) rfl (by kernel_rfl) (by kernel_rfl) (by kernel_rfl) (fun _ _ _ h => h) (Or.inr ⟨by rfl, by rfl⟩) hS ?_
    try simp only [tl]
    refine wpAnyH_take (i := 5) (v := undef) rfl (by kernel_rfl) (by kernel_rfl) (by kernel_rfl) (fun _ _ _ h => h) (Or.inr ⟨by rfl, by rfl⟩) hS ?_
    try simp only [tl]
    refine wpAnyH_take (i := 6) (v := undef) rfl (by kernel_rfl) (by kernel_rfl) (by kernel_rfl) (fun _ _ _ h => h) (Or.inr ⟨by rfl, by rfl⟩) hS ?_
    try simp only [tl]
    refine wpAnyH_take (i := 7) (v := ?_) rfl (by kernel_rfl) (by kernel_rfl) (by kernel_rfl) (fun _ _ _ h => h) (Or.inl ⟨by rfl, ?_⟩) hS ?_
    rotate_left
    · intro wx hx
      clear hx
      go_simp
      with_reducible rfl
    try simp only [tl]
    refine wpAnyH_take (i := 8) (v := ?_) rfl (by kernel_rfl) (by kernel_rfl) (by kernel_rfl) (fun _ _ _ h => h) (Or.inl ⟨by rfl, ?_⟩) hS ?_
    rotate_left
    · intro wx hx
      clear hx
      go_simp
      with_reducible rfl
    try simp only [tl]
    refine wpAnyH_take (i := 9) (v := undef) rfl (by kernel_rfl) (by kernel_rfl) (by kernel_rfl) (fun _ _ _ h => h) (Or.inr ⟨by rfl, by rfl⟩) hS ?_
    try simp only [tl]
    refine wpAnyH_take (i := 10) (v := undef) rfl (by kernel_rfl) (by kernel_rfl) (by kernel_rfl) (fun _ _ _ h => h) (Or.inr ⟨by rfl, by rfl⟩) hS ?_
    try simp only [tl]
    refine wpAnyH_take (i := 11) (v := undef) rfl (by kernel_rfl) (by kernel_rfl) (by kernel_rfl) (fun _ _ _ h => h) (Or.inr ⟨by rfl, by rfl⟩) hS ?_
    try simp only [tl]
    refine wpAnyH_take (i := 12) (v := undef) rfl (by kernel_rfl) (by kernel_rfl) (by kernel_rfl) (fun _ _ _ h => h) (Or.inr ⟨by rfl, by rfl⟩) hS ?_
    try simp only [tl]
    refine wpAnyH_take (i := 13) (v := ?_) rfl (by kernel_rfl) (by kernel_rfl) (by kernel_rfl) (fun _ _ _ h => h) (Or.inl ⟨by rfl, ?_⟩) hS ?_
    rotate_left
    · intro wx hx
      clear hx
      go_simp
      with_reducible rfl
    try simp only [tl]
    refine wpAnyH_take (i := 14) (v := ?_) rfl (by kernel_rfl) (by kernel_rfl) (by kernel_rfl) (fun _ _ _ h => h) (Or.inl ⟨by rfl, ?_⟩) hS ?_
    rotate_left
    · intro wx hx
      clear hx
      go_simp
      with_reducible rfl
    try simp only [tl]
    refine wpAnyH_take (i := 15) (v := undef) rfl (by kernel_rfl) (by kernel_rfl) (by kernel_rfl) (fun _ _ _ h => h) (Or.inr ⟨by rfl, by rfl⟩) hS ?_
    try simp only [tl]
    refine wpAnyH_take (i := 16) (v := undef) rfl (by kernel_rfl) (by kernel_rfl) (by kernel_rfl) (fun _ _ _ h => h) (Or.inr ⟨by rfl, by rfl⟩) hS ?_
    try simp only [tl]
    refine wpAnyH_take (i := 17) (v := undef) rfl (by kernel_rfl) (by kernel_rfl) (by kernel_rfl) (fun _ _ _ h => h) (Or.inr ⟨by rfl, by rfl⟩) hS ?_
    try simp only [tl]
    refine wpAnyH_take (i := 18) (v := undef) rfl (by kernel_rfl) (by kernel_rfl) (by kernel_rfl) (fun _ _ _ h => h) (Or.inr ⟨by rfl, by rfl⟩) hS ?_
    try simp only [tl]
    refine wpAnyH_take (i := 19) (v := undef) rfl (by kernel_rfl) (by kernel_rfl) (by kernel_rfl) (fun _ _ _ h => h) (Or.inr ⟨by rfl, by rfl⟩) hS ?_
    try simp only [tl]
    refine wpAnyH_take (i := 20) (v := undef) rfl (by kernel_rfl) (by kernel_rfl) (by kernel_rfl) (fun _ _ _ h => h) (Or.inr ⟨by rfl, by rfl⟩) hS ?_
    try simp only [tl]
    refine wpAnyH_take (i := 21) (v := undef) rfl (by kernel_rfl) (by kernel_rfl) (by kernel_rfl) (fun _ _ _ h => h) (Or.inr ⟨by rfl, by rfl⟩) hS ?_
    try simp only [tl]
    refine wpAnyH_take (i := 22) (v := ?_) rfl (by kernel_rfl) (by kernel_rfl) (by kernel_rfl) (fun _ _ _ h => h) (Or.inl ⟨by rfl, ?_⟩) hS ?_
    rotate_left
    · intro wx hx
      clear hx
      go_simp
      with_reducible rfl
    try simp only [tl]
    refine wpAnyH_done (by kernel_rfl) ?_ _
    refine NoPanic.normal ?_
    go_wp2_with fail
    go_ret
    exact FIN.out _ ((Upd.refl nob W2).drew) HX2.out
  · have t1 : decide ((256 : Int) < d) = false := by simp; omega
    by_cases hb : 1000 < cn + 1
    · have hx := HX1.out
      rw [if_pos (.inr (.inl hb))] at hx
      have t2 : decide ((1000 : Int) < (cn : Int) + 1) = true := by simp; omega
      have HX2 := Lib.hid hx.symm
      clear HX1 hx
      go_enter Try.func42, Try.ntmps42
      go_wp2_with fail
      rw [HW2.out]
      refine wp_region_P (by kernel_rfl) ?_
      refine wpAny_of_held (S := fun X : World => ∀ p : Addr, p.block < W2.heap.size → X.cell? p = W2.cell? p) _ _ _ _ ?_
      have hS : ∀ p : Addr, p.block < W2.heap.size → W2.drew.cell? p = W2.cell? p := fun _ _ => rfl
      refine wpAnyH_take (i := 0) (v := ?_) rfl (by kernel_rfl) (by kernel_rfl) (by kernel_rfl) (fun _ _ _ h => h) (Or.inl ⟨by rfl, ?_⟩) hS ?_
      rotate_left
      · intro wx hx
        clear hx
        go_simp
        with_reducible rfl
      try simp only [tl]
      refine wpAnyH_take (i := 1) (v := ?_) rfl (by kernel_rfl) (by kernel_rfl) (by kernel_rfl) (fun _ _ _ h => h) (Or.inl ⟨by rfl, ?_⟩) hS ?_
      rotate_left
      · intro wx hx
        clear hx
        go_simp
        with_reducible rfl
      try simp only [tl]
      refine wpAnyH_take (i := 2) (v := ?_) rfl (by kernel_rfl) (by kernel_rfl) (by kernel_rfl) (fun _ _ _ h => h) (Or.inl ⟨by rfl, ?_⟩) hS ?_
      rotate_left
      · intro wx hx
        clear hx
        go_simp
        with_reducible rfl
      try simp only [tl]
      refine wpAnyH_take (i := 3) (v := ?_) rfl (by kernel_rfl) (by kernel_rfl) (by kernel_rfl) (fun _ _ _ h => h) (Or.inl ⟨by rfl, ?_⟩) hS ?_
      rotate_left
      · intro wx hx
        clear hx
        go_simp
        with_reducible rfl
      try simp only [tl]
      refine wpAnyH_take (i := 4) (v := ?_) rfl (by kernel_rfl) (by kernel_rfl) (by kernel_rfl) (fun _ _ _ h => h) (Or.inl ⟨by rfl, ?_⟩) hS ?_
      rotate_left
      · intro wx hx
        clear hx
        go_simp
        with_reducible rfl
      try simp only [tl]
      refine wpAnyH_take (i := 5) (v := ?_) rfl (by kernel_rfl) (by kernel_rfl) (by kernel_rfl) (fun _ _ _ h => h) (Or.inl ⟨by rfl, ?_⟩) hS ?_
      rotate_left
      · intro wx hx
        have q0 := (hx ⟨nb, 0, none⟩ hnb2).trans c2
        clear hx
        go_simp
        with_reducible rfl
      try simp only [tl]
      refine wpAnyH_take (i := 6) (v := ?_) rfl (by kernel_rfl) (by kernel_rfl) (by kernel_rfl) (fun _ _ _ h => h) (Or.inl ⟨by rfl, ?_⟩) hS ?_
      rotate_left
      · intro wx hx
        clear hx
        go_simp
        with_reducible rfl
      try simp only [tl]
      refine wpAnyH_take (i := 7) (v := ?_) rfl (by kernel_rfl) (by kernel_rfl) (by kernel_rfl) (fun _ _ _ h => h) (Or.inl ⟨by rfl, ?_⟩) hS ?_
      rotate_left
      · intro wx hx
        clear hx
        go_simp
        with_reducible rfl
      try simp only [tl]
      refine wpAnyH_take (i := 8) (v := ?_) rfl (by kernel_rfl) (by kernel_rfl) (by kernel_rfl) (fun _ _ _ h => h) (Or.inl ⟨by rfl, ?_⟩) hS ?_
      rotate_left
      · intro wx hx
        clear hx
        go_simp
        with_reducible rfl
      try simp only [tl]
      refine wpAnyH_take (i := 9) (v := undef) rfl (by kernel_rfl) (by kernel_rfl) (by kernel_rfl) (fun _ _ _ h => h) (Or.inr ⟨by rfl, by rfl⟩) hS ?_
      try simp only [tl]
      refine wpAnyH_take (i := 10) (v := undef) rfl (by kernel_rfl) (by kernel_rfl) (by kernel_rfl) (fun _ _ _ h => h) (Or.inr ⟨by rfl, by rfl⟩) hS ?_
      try simp only [tl]
      refine wpAnyH_take (i := 11) (v := undef) rfl (by kernel_rfl) (by kernel_rfl) (by kernel_rfl) (fun _ _ _ h => h) (Or.inr ⟨by rfl, by rfl⟩) hS ?_
      try simp only [tl]
      refine wpAnyH_take (i := 12) (v := undef) rfl (by kernel_rfl) (by kernel_rfl) (by kernel_rfl) (fun _ _ _ h => h) (Or.inr ⟨by rfl, by rfl⟩) hS ?_
      try simp only [tl]
      refine wpAnyH_take (i := 13) (v := ?_) rfl (by kernel_rfl) (by kernel_rfl) (by kernel_rfl) (fun _ _ _ h => h) (Or.inl ⟨by rfl, ?_⟩) hS ?_
      rotate_left
      · intro wx hx
        clear hx
        go_simp
        with_reducible rfl
      try simp only [tl]
      refine wpAnyH_take (i := 14) (v := ?_) rfl (by kernel_rfl) (by kernel_rfl) (by kernel_rfl) (fun _ _ _ h => h) (Or.inl ⟨by rfl, ?_⟩) hS ?_
      rotate_left
      · intro wx hx
        clear hx
        go_simp
        with_reducible rfl
      try simp only [tl]
      refine wpAnyH_take (i := 15) (v := undef) rfl (by kernel_rfl) (by kernel_rfl) (by kernel_rfl) (fun _ _ _ h => h) (Or.inr ⟨by rfl, by rfl⟩) hS ?_
      try simp only [tl]
      refine wpAnyH_take (i := 16) (v := undef) rfl (by kernel_rfl) (by kernel_rfl) (by kernel_rfl) (fun _ _ _ h => h) (Or.inr ⟨by rfl, by rfl⟩) hS ?_
      try simp only [tl]
      refine wpAnyH_take (i := 17) (v := undef) rfl (by kernel_rfl) (by kernel_rfl) (by kernel_rfl) (fun _ _ _ h => h) (Or.inr ⟨by rfl, by rfl⟩) hS ?_
      try simp only [tl]
      refine wpAnyH_take (i := 18) (v := undef) rfl (by kernel_rfl) (by kernel_rfl) (by kernel_rfl) (fun _ _ _ h => h) (Or.inr ⟨by rfl, by rfl⟩) hS ?_
      try simp only [tl]
      refine wpAnyH_take (i := 19) (v := undef) rfl (by kernel_rfl) (by kernel_rfl) (by kernel_rfl) (fun _ _ _ h => h) (Or.inr ⟨by rfl, by rfl⟩) hS ?_
      try simp only [tl]
      refine wpAnyH_take (i := 20) (v := undef) rfl (by kernel_rfl) (by kernel_rfl) (by kernel_rfl) (fun _ _ _ h => h) (Or.inr ⟨by rfl, by rfl⟩) hS ?_
      try simp only [tl]
      refine wpAnyH_take (i := 21) (v := undef) rfl (by kernel_rfl) (by kernel_rfl) (by kernel_rfl) (fun _ _ _ h => h) (Or.inr ⟨by rfl, by rfl⟩) hS ?_
      try simp only [tl]
      refine wpAnyH_take (i := 22) (v := ?_) rfl (by kernel_rfl) (by kernel_rfl) (by kernel_rfl) (fun _ _ _ h => h) (Or.inl ⟨by rfl, ?_⟩) hS ?_
      rotate_left
      · intro wx hx
        clear hx
        go_simp
        with_reducible rfl
      try simp only [tl]
      refine wpAnyH_done (by kernel_rfl) ?_ _
      refine NoPanic.normal ?_
      go_wp2_with fail
      go_ret
      exact FIN.out _ ((Upd.refl nob W2).drew) HX2.out
    · have t2 : decide ((1000 : Int) < (cn : Int) + 1) = false := by simp; omega
      by_cases hq0 : q < 0
      · have hx := HX1.out
        rw [if_pos (.inr (.inr (.inl hq0)))] at hx
        have t3 : decide (q < 0) = true := by simpa using hq0
        have HX2 := Lib.hid hx.symm
        clear HX1 hx
        go_enter Try.func42, Try.ntmps42
        go_wp2_with fail
        rw [HW2.out]
        refine wp_region_P (by kernel_rfl) ?_
        refine wpAny_of_held (S := fun X : World => ∀ p : Addr, p.block < W2.heap.size → X.cell? p = W2.cell? p) _ _ _ _ ?_
        have hS : ∀ p : Addr, p.block < W2.heap.size → W2.drew.cell? p = W2.cell? p := fun _ _ => rfl
        refine wpAnyH_take (i := 0) (v := ?_) rfl (by kernel_rfl) (by kernel_rfl) (by kernel_rfl) (fun _ _ _ h => h) (Or.inl ⟨by rfl, ?_⟩) hS ?_
        rotate_left
        · intro wx hx
          clear hx
          go_simp
          with_reducible rfl
        try simp only [tl]
        refine wpAnyH_take (i := 1) (v := ?_) rfl (by kernel_rfl) (by kernel_rfl) (by kernel_rfl) (fun _ _ _ h => h) (Or.inl ⟨by rfl, ?_⟩) hS ?_
        rotate_left
        · intro wx hx
          clear hx
          go_simp
          with_reducible rfl
        try simp only [tl]
        refine wpAnyH_take (i := 2) (v := ?_) rfl (by kernel_rfl) (by kernel_rfl) (by kernel_rfl) (fun _ _ _ h => h) (Or.inl ⟨by rfl, ?_⟩) hS ?_
        rotate_left
        · intro wx hx
          clear hx
          go_simp
          with_reducible rfl
        try simp only [tl]
        refine wpAnyH_take (i := 3) (v := ?_) rfl (by kernel_rfl) (by kernel_rfl) (by kernel_rfl) (fun _ _ _ h => h) (Or.inl ⟨by rfl, ?_⟩) hS ?_
        rotate_left
        · intro wx hx
          clear hx
          go_simp
          with_reducible rfl
        try simp only [tl]
        refine wpAnyH_take (i := 4) (v := ?_) rfl (by kernel_rfl) (by kernel_rfl) (by kernel_rfl) (fun _ _ _ h => h) (Or.inl ⟨by rfl, ?_⟩) hS ?_
        rotate_left
        · intro wx hx
          clear hx
          go_simp
          with_reducible rfl
        try simp only [tl]
        refine wpAnyH_take (i := 5) (v := ?_) rfl (by kernel_rfl) (by kernel_rfl) (by kernel_rfl) (fun _ _ _ h => h) (Or.inl ⟨by rfl, ?_⟩) hS ?_
        rotate_left
        · intro wx hx
          have q0 := (hx ⟨nb, 0, none⟩ hnb2).trans c2
          clear hx
          go_simp
          with_reducible rfl
        try simp only [tl]
        refine wpAnyH_take (i := 6) (v := ?_) rfl (by kernel_rfl) (by kernel_rfl) (by kernel_rfl) (fun _ _ _ h => h) (Or.inl ⟨by rfl, ?_⟩) hS ?_
        rotate_left
        · intro wx hx
          clear hx
          go_simp
          with_reducible rfl
        try simp only [tl]
        refine wpAnyH_take (i := 7) (v := ?_) rfl (by kernel_rfl) (by kernel_rfl) (by kernel_rfl) (fun _ _ _ h => h) (Or.inl ⟨by rfl, ?_⟩) hS ?_
        rotate_left
        · intro wx hx
          clear hx
          go_simp
          with_reducible rfl
        try simp only [tl]
        refine wpAnyH_take (i := 8) (v := ?_) rfl (by kernel_rfl) (by kernel_rfl) (by kernel_rfl) (fun _ _ _ h => h) (Or.inl ⟨by rfl, ?_⟩) hS ?_
        rotate_left
        · intro wx hx
          clear hx
          go_simp
          with_reducible rfl
        try simp only [tl]
        refine wpAnyH_take (i := 9) (v := ?_) rfl (by kernel_rfl) (by kernel_rfl) (by kernel_rfl) (fun _ _ _ h => h) (Or.inl ⟨by rfl, ?_⟩) hS ?_
        rotate_left
        · intro wx hx
          clear hx
          go_simp
          with_reducible rfl
        try simp only [tl]
        refine wpAnyH_take (i := 10) (v := ?_) rfl (by kernel_rfl) (by kernel_rfl) (by kernel_rfl) (fun _ _ _ h => h) (Or.inl ⟨by rfl, ?_⟩) hS ?_
        rotate_left
        · intro wx hx
          have q0 := (hx ⟨w.heap.size, 0, none⟩ hlt2).trans k0
          clear hx
          go_simp
          with_reducible rfl
        try simp only [tl]
        refine wpAnyH_alone (i := 11) (by kernel_rfl) rfl (by rfl) fun K hK => ?_
        go_simp
        refine (TA.out W2.drew).mono ?_
        rintro e w4 ⟨rfl, rfl⟩
        refine hK _ _ (fun _ _ => rfl) ?_
        clear hK K
        try simp only [tl]
        refine wpAnyH_take (i := 12) (v := ?_) rfl (by kernel_rfl) (by kernel_rfl) (by kernel_rfl) (fun _ _ _ h => h) (Or.inl ⟨by rfl, ?_⟩) hS ?_
        rotate_left
        · intro wx hx
          clear hx
          go_simp
          with_reducible rfl
        try simp only [tl]
        refine wpAnyH_take (i := 13) (v := ?_) rfl (by kernel_rfl) (by kernel_rfl) (by kernel_rfl) (fun _ _ _ h => h) (Or.inl ⟨by rfl, ?_⟩) hS ?_
        rotate_left
        · intro wx hx
          clear hx
          go_simp
          with_reducible rfl
        try simp only [tl]
        refine wpAnyH_take (i := 14) (v := ?_) rfl (by kernel_rfl) (by kernel_rfl) (by kernel_rfl) (fun _ _ _ h => h) (Or.inl ⟨by rfl, ?_⟩) hS ?_
        rotate_left
        · intro wx hx
          clear hx
          go_simp
          with_reducible rfl
        try simp only [tl]
        refine wpAnyH_take (i := 15) (v := undef) rfl (by kernel_rfl) (by kernel_rfl) (by kernel_rfl) (fun _ _ _ h => h) (Or.inr ⟨by rfl, by rfl⟩) hS ?_
        try simp only [tl]
        refine wpAnyH_take (i := 16) (v := undef) rfl (by kernel_rfl) (by kernel_rfl) (by kernel_rfl) (fun _ _ _ h => h) (Or.inr ⟨by rfl, by rfl⟩) hS ?_
        try simp only [tl]
        refine wpAnyH_take (i := 17) (v := undef) rfl (by kernel_rfl) (by kernel_rfl) (by kernel_rfl) (fun _ _ _ h => h) (Or.inr ⟨by rfl, by rfl⟩) hS ?_
        try simp only [tl]
        refine wpAnyH_take (i := 18) (v := undef) rfl (by kernel_rfl) (by kernel_rfl) (by kernel_rfl) (fun _ _ _ h => h) (Or.inr ⟨by rfl, by rfl⟩) hS ?_
        try simp only [tl]
        refine wpAnyH_take (i := 19) (v := undef) rfl (by kernel_rfl) (by kernel_rfl) (by kernel_rfl) (fun _ _ _ h => h) (Or.inr ⟨by rfl, by rfl⟩) hS ?_
        try simp only [tl]
        refine wpAnyH_take (i := 20) (v := undef) rfl (by kernel_rfl) (by kernel_rfl) (by kernel_rfl) (fun _ _ _ h => h) (Or.inr ⟨by rfl, by rfl⟩) hS ?_
        try simp only [tl]
        refine wpAnyH_take (i := 21) (v := undef) rfl (by kernel_rfl) (by kernel_rfl) (by kernel_rfl) (fun _ _ _ h => h) (Or.inr ⟨by rfl, by rfl⟩) hS ?_
        try simp only [tl]
        refine wpAnyH_take (i := 22) (v := ?_) rfl (by kernel_rfl) (by kernel_rfl) (by kernel_rfl) (fun _ _ _ h => h) (Or.inl ⟨by rfl, ?_⟩) hS ?_
        rotate_left
        · intro wx hx
          clear hx
          go_simp
          with_reducible rfl
        try simp only [tl]
        refine wpAnyH_done (by kernel_rfl) ?_ _
        refine NoPanic.normal ?_
        go_wp2_with fail
        go_ret
        exact FIN.out _ ((Upd.refl nob W2).drew) HX2.out
      · have t3 : decide (q < 0) = false := by simpa using hq0
        by_cases hlq : (ks.length : Int) ≠ q
        · have hx := HX1.out
          rw [if_pos (.inr (.inr (.inr hlq)))] at hx
          have t4 : ((ks.length : Int) != q) = true := by simpa using hlq
          have HX2 := Lib.hid hx.symm
          clear HX1 hx
          go_enter Try.func42, Try.ntmps42
          go_wp2_with fail
          rw [HW2.out]
          refine wp_region_P (by kernel_rfl) ?_
          refine wpAny_of_held (S := fun X : World => ∀ p : Addr, p.block < W2.heap.size → X.cell? p = W2.cell? p) _ _ _ _ ?_
          have hS : ∀ p : Addr, p.block < W2.heap.size → W2.drew.cell? p = W2.cell? p := fun _ _ => rfl
          refine wpAnyH_take (i := 0) (v := ?_) rfl (by kernel_rfl) (by kernel_rfl) (by kernel_rfl) (fun _ _ _ h => h) (Or.inl ⟨by rfl, ?_⟩) hS ?_
          rotate_left
          · intro wx hx
            clear hx
            go_simp
            with_reducible rfl
          try simp only [tl]
          refine wpAnyH_take (i := 1) (v := ?_) rfl (by kernel_rfl) (by kernel_rfl) (by kernel_rfl) (fun _ _ _ h => h) (Or.inl ⟨by rfl, ?_⟩) hS ?_
          rotate_left
          · intro wx hx
            clear hx
            go_simp
            with_reducible rfl
          try simp only [tl]
          refine wpAnyH_take (i := 2) (v := ?_) rfl (by kernel_rfl) (by kernel_rfl) (by kernel_rfl) (fun _ _ _ h => h) (Or.inl ⟨by rfl, ?_⟩) hS ?_
          rotate_left
          · intro wx hx
            clear hx
            go_simp
            with_reducible rfl
          try simp only [tl]
          refine wpAnyH_take (i := 3) (v := ?_) rfl (by kernel_rfl) (by kernel_rfl) (by kernel_rfl) (fun _ _ _ h => h) (Or.inl ⟨by rfl, ?_⟩) hS ?_
          rotate_left
          · intro wx hx
            clear hx
            go_simp
            with_reducible rfl
          try simp only [tl]
          refine wpAnyH_take (i := 4) (v := ?_) rfl (by kernel_rfl) (by kernel_rfl) (by kernel_rfl) (fun _ _ _ h => h) (Or.inl ⟨by rfl, ?_⟩) hS ?_
          rotate_left
          · intro wx hx
            clear hx
            go_simp
            with_reducible rfl
          try simp only [tl]
          refine wpAnyH_take (i := 5) (v := ?_) rfl (by kernel_rfl) (by kernel_rfl) (by kernel_rfl) (fun _ _ _ h => h) (Or.inl ⟨by rfl, ?_⟩) hS ?_
          rotate_left
          · intro wx hx
            have q0 := (hx ⟨nb, 0, none⟩ hnb2).trans c2
            clear hx
            go_simp
            with_reducible rfl
          try simp only [tl]
          refine wpAnyH_take (i := 6) (v := ?_) rfl (by kernel_rfl) (by kernel_rfl) (by kernel_rfl) (fun _ _ _ h => h) (Or.inl ⟨by rfl, ?_⟩) hS ?_
          rotate_left
          · intro wx hx
            clear hx
            go_simp
            with_reducible rfl
          try simp only [tl]
          refine wpAnyH_take (i := 7) (v := ?_) rfl (by kernel_rfl) (by kernel_rfl) (by kernel_rfl) (fun _ _ _ h => h) (Or.inl ⟨by rfl, ?_⟩) hS ?_
          rotate_left
          · intro wx hx
            clear hx
            go_simp
            with_reducible rfl
          try simp only [tl]
          refine wpAnyH_take (i := 8) (v := ?_) rfl (by kernel_rfl) (by kernel_rfl) (by kernel_rfl) (fun _ _ _ h => h) (Or.inl ⟨by rfl, ?_⟩) hS ?_
          rotate_left
          · intro wx hx
            clear hx
            go_simp
            with_reducible rfl
          try simp only [tl]
          refine wpAnyH_take (i := 9) (v := ?_) rfl (by kernel_rfl) (by kernel_rfl) (by kernel_rfl) (fun _ _ _ h => h) (Or.inl ⟨by rfl, ?_⟩) hS ?_
          rotate_left
          · intro wx hx
            clear hx
            go_simp
            with_reducible rfl
          try simp only [tl]
          refine wpAnyH_take (i := 10) (v := ?_) rfl (by kernel_rfl) (by kernel_rfl) (by kernel_rfl) (fun _ _ _ h => h) (Or.inl ⟨by rfl, ?_⟩) hS ?_
          rotate_left
          · intro wx hx
            have q0 := (hx ⟨w.heap.size, 0, none⟩ hlt2).trans k0
            clear hx
            go_simp
            with_reducible rfl
          try simp only [tl]
          refine wpAnyH_alone (i := 11) (by kernel_rfl) rfl (by rfl) fun K hK => ?_
          go_simp
          refine (TA.out W2.drew).mono ?_
          rintro e w4 ⟨rfl, rfl⟩
          refine hK _ _ (fun _ _ => rfl) ?_
          clear hK K
          try simp only [tl]
          refine wpAnyH_take (i := 12) (v := ?_) rfl (by kernel_rfl) (by kernel_rfl) (by kernel_rfl) (fun _ _ _ h => h) (Or.inl ⟨by rfl, ?_⟩) hS ?_
          rotate_left
          · intro wx hx
            clear hx
            go_simp
            with_reducible rfl
          try simp only [tl]
          refine wpAnyH_take (i := 13) (v := ?_) rfl (by kernel_rfl) (by kernel_rfl) (by kernel_rfl) (fun _ _ _ h => h) (Or.inl ⟨by rfl, ?_⟩) hS ?_
          rotate_left
          · intro wx hx
            clear hx
            go_simp
            with_reducible rfl
          try simp only [tl]
          refine wpAnyH_take (i := 14) (v := ?_) rfl (by kernel_rfl) (by kernel_rfl) (by kernel_rfl) (fun _ _ _ h => h) (Or.inl ⟨by rfl, ?_⟩) hS ?_
          rotate_left
          · intro wx hx
            clear hx
            go_simp
            with_reducible rfl
          try simp only [tl]
          refine wpAnyH_take (i := 15) (v := ?_) rfl (by kernel_rfl) (by kernel_rfl) (by kernel_rfl) (fun _ _ _ h => h) (Or.inl ⟨by rfl, ?_⟩) hS ?_
          rotate_left
          · intro wx hx
            clear hx
            go_simp
            with_reducible rfl
          try simp only [tl]
          refine wpAnyH_take (i := 16) (v := ?_) rfl (by kernel_rfl) (by kernel_rfl) (by kernel_rfl) (fun _ _ _ h => h) (Or.inl ⟨by rfl, ?_⟩) hS ?_
          rotate_left
          · intro wx hx
            have q0 := (hx ⟨w.heap.size, 2, none⟩ hlt2).trans k2
            clear hx
            go_simp
            with_reducible rfl
          try simp only [tl]
          refine wpAnyH_take (i := 17) (v := ?_) rfl (by kernel_rfl) (by kernel_rfl) (by kernel_rfl) (fun _ _ _ h => h) (Or.inl ⟨by rfl, ?_⟩) hS ?_
          rotate_left
          · intro wx hx
            clear hx
            go_simp
            with_reducible rfl
          try simp only [tl]
          refine wpAnyH_take (i := 18) (v := ?_) rfl (by kernel_rfl) (by kernel_rfl) (by kernel_rfl) (fun _ _ _ h => h) (Or.inl ⟨by rfl, ?_⟩) hS ?_
          rotate_left
          · intro wx hx
            clear hx
            go_simp
            with_reducible rfl
          try simp only [tl]
          refine wpAnyH_take (i := 19) (v := ?_) rfl (by kernel_rfl) (by kernel_rfl) (by kernel_rfl) (fun _ _ _ h => h) (Or.inl ⟨by rfl, ?_⟩) hS ?_
          rotate_left
          · intro wx hx
            have q0 := (hx ⟨w.heap.size, 0, none⟩ hlt2).trans k0
            clear hx
            go_simp
            with_reducible rfl
          try simp only [tl]
          refine wpAnyH_alone (i := 20) (by kernel_rfl) rfl (by rfl) fun K hK => ?_
          go_simp
          refine (TA.out W2.drew).mono ?_
          rintro e w4 ⟨rfl, rfl⟩
          refine hK _ _ (fun _ _ => rfl) ?_
          clear hK K
          try simp only [tl]
          refine wpAnyH_take (i := 21) (v := ?_) rfl (by kernel_rfl) (by kernel_rfl) (by kernel_rfl) (fun _ _ _ h => h) (Or.inl ⟨by rfl, ?_⟩) hS ?_
          rotate_left
          · intro wx hx
            clear hx
            go_simp
            with_reducible rfl
          try simp only [tl]
          refine wpAnyH_take (i := 22) (v := ?_) rfl (by kernel_rfl) (by kernel_rfl) (by kernel_rfl) (fun _ _ _ h => h) (Or.inl ⟨by rfl, ?_⟩) hS ?_
          rotate_left
          · intro wx hx
            clear hx
            go_simp
            with_reducible rfl
          try simp only [tl]
          refine wpAnyH_done (by kernel_rfl) ?_ _
          refine NoPanic.normal ?_
          go_wp2_with fail
          go_ret
          exact FIN.out _ ((Upd.refl nob W2).drew) HX2.out
        · have t4 : ((ks.length : Int) != q) = false := by simpa using hlq
          have hx := HX1.out
          rw [if_neg (fun h => by rcases h with h | h | h | h; exact ha h; exact hb h; exact hq0 h; exact hlq h)] at hx
          have HX3 := Lib.hid hx
          clear hx HX1
          go_enter Try.func42, Try.ntmps42
          go_wp2_with fail
          rw [HW2.out]
          refine wp_region_P (by kernel_rfl) ?_
          refine wpAny_of_held (S := fun X : World => ∀ p : Addr, p.block < W2.heap.size → X.cell? p = W2.cell? p) _ _ _ _ ?_
          have hS : ∀ p : Addr, p.block < W2.heap.size → W2.drew.cell? p = W2.cell? p := fun _ _ => rfl
          refine wpAnyH_take (i := 0) (v := ?_) rfl (by kernel_rfl) (by kernel_rfl) (by kernel_rfl) (fun _ _ _ h => h) (Or.inl ⟨by rfl, ?_⟩) hS ?_
          rotate_left
          · intro wx hx
            clear hx
            go_simp
            with_reducible rfl
          try simp only [tl]
          refine wpAnyH_take (i := 1) (v := ?_) rfl (by kernel_rfl) (by kernel_rfl) (by kernel_rfl) (fun _ _ _ h => h) (Or.inl ⟨by rfl, ?_⟩) hS ?_
          rotate_left
          · intro wx hx
            clear hx
            go_simp
            with_reducible rfl
          try simp only [tl]
          refine wpAnyH_take (i := 2) (v := ?_) rfl (by kernel_rfl) (by kernel_rfl) (by kernel_rfl) (fun _ _ _ h => h) (Or.inl ⟨by rfl, ?_⟩) hS ?_
          rotate_left
          · intro wx hx
            clear hx
            go_simp
            with_reducible rfl
          try simp only [tl]
          refine wpAnyH_take (i := 3) (v := ?_) rfl (by kernel_rfl) (by kernel_rfl) (by kernel_rfl) (fun _ _ _ h => h) (Or.inl ⟨by rfl, ?_⟩) hS ?_
          rotate_left
          · intro wx hx
            clear hx
            go_simp
            with_reducible rfl
          try simp only [tl]
          refine wpAnyH_take (i := 4) (v := ?_) rfl (by kernel_rfl) (by kernel_rfl) (by kernel_rfl) (fun _ _ _ h => h) (Or.inl ⟨by rfl, ?_⟩) hS ?_
          rotate_left
          · intro wx hx
            clear hx
            go_simp
            with_reducible rfl
          try simp only [tl]
          refine wpAnyH_take (i := 5) (v := ?_) rfl (by kernel_rfl) (by kernel_rfl) (by kernel_rfl) (fun _ _ _ h => h) (Or.inl ⟨by rfl, ?_⟩) hS ?_
          rotate_left
          · intro wx hx
            have q0 := (hx ⟨nb, 0, none⟩ hnb2).trans c2
            clear hx
            go_simp
            with_reducible rfl
          try simp only [tl]
          refine wpAnyH_take (i := 6) (v := ?_) rfl (by kernel_rfl) (by kernel_rfl) (by kernel_rfl) (fun _ _ _ h => h) (Or.inl ⟨by rfl, ?_⟩) hS ?_
          rotate_left
          · intro wx hx
            clear hx
            go_simp
            with_reducible rfl
          try simp only [tl]
          refine wpAnyH_take (i := 7) (v := ?_) rfl (by kernel_rfl) (by kernel_rfl) (by kernel_rfl) (fun _ _ _ h => h) (Or.inl ⟨by rfl, ?_⟩) hS ?_
          rotate_left
          · intro wx hx
            clear hx
            go_simp
            with_reducible rfl
          try simp only [tl]
          refine wpAnyH_take (i := 8) (v := ?_) rfl (by kernel_rfl) (by kernel_rfl) (by kernel_rfl) (fun _ _ _ h => h) (Or.inl ⟨by rfl, ?_⟩) hS ?_
          rotate_left
          · intro wx hx
            clear hx
            go_simp
            with_reducible rfl
          try simp only [tl]
          refine wpAnyH_take (i := 9) (v := ?_) rfl (by kernel_rfl) (by kernel_rfl) (by kernel_rfl) (fun _ _ _ h => h) (Or.inl ⟨by rfl, ?_⟩) hS ?_
          rotate_left
          · intro wx hx
            clear hx
            go_simp
            with_reducible rfl
          try simp only [tl]
          refine wpAnyH_take (i := 10) (v := ?_) rfl (by kernel_rfl) (by kernel_rfl) (by kernel_rfl) (fun _ _ _ h => h) (Or.inl ⟨by rfl, ?_⟩) hS ?_
          rotate_left
          · intro wx hx
            have q0 := (hx ⟨w.heap.size, 0, none⟩ hlt2).trans k0
            clear hx
            go_simp
            with_reducible rfl
          try simp only [tl]
          refine wpAnyH_alone (i := 11) (by kernel_rfl) rfl (by rfl) fun K hK => ?_
          go_simp
          refine (TA.out W2.drew).mono ?_
          rintro e w4 ⟨rfl, rfl⟩
          refine hK _ _ (fun _ _ => rfl) ?_
          clear hK K
          try simp only [tl]
          refine wpAnyH_take (i := 12) (v := ?_) rfl (by kernel_rfl) (by kernel_rfl) (by kernel_rfl) (fun _ _ _ h => h) (Or.inl ⟨by rfl, ?_⟩) hS ?_
          rotate_left
          · intro wx hx
            clear hx
            go_simp
            with_reducible rfl
          try simp only [tl]
          refine wpAnyH_take (i := 13) (v := ?_) rfl (by kernel_rfl) (by kernel_rfl) (by kernel_rfl) (fun _ _ _ h => h) (Or.inl ⟨by rfl, ?_⟩) hS ?_
          rotate_left
          · intro wx hx
            clear hx
            go_simp
            with_reducible rfl
          try simp only [tl]
          refine wpAnyH_take (i := 14) (v := ?_) rfl (by kernel_rfl) (by kernel_rfl) (by kernel_rfl) (fun _ _ _ h => h) (Or.inl ⟨by rfl, ?_⟩) hS ?_
          rotate_left
          · intro wx hx
            clear hx
            go_simp
            with_reducible rfl
          try simp only [tl]
          refine wpAnyH_take (i := 15) (v := ?_) rfl (by kernel_rfl) (by kernel_rfl) (by kernel_rfl) (fun _ _ _ h => h) (Or.inl ⟨by rfl, ?_⟩) hS ?_
          rotate_left
          · intro wx hx
            clear hx
            go_simp
            with_reducible rfl
          try simp only [tl]
          refine wpAnyH_take (i := 16) (v := ?_) rfl (by kernel_rfl) (by kernel_rfl) (by kernel_rfl) (fun _ _ _ h => h) (Or.inl ⟨by rfl, ?_⟩) hS ?_
          rotate_left
          · intro wx hx
            have q0 := (hx ⟨w.heap.size, 2, none⟩ hlt2).trans k2
            clear hx
            go_simp
            with_reducible rfl
          try simp only [tl]
          refine wpAnyH_take (i := 17) (v := ?_) rfl (by kernel_rfl) (by kernel_rfl) (by kernel_rfl) (fun _ _ _ h => h) (Or.inl ⟨by rfl, ?_⟩) hS ?_
          rotate_left
          · intro wx hx
            clear hx
            go_simp
            with_reducible rfl
          try simp only [tl]
          refine wpAnyH_take (i := 18) (v := ?_) rfl (by kernel_rfl) (by kernel_rfl) (by kernel_rfl) (fun _ _ _ h => h) (Or.inl ⟨by rfl, ?_⟩) hS ?_
          rotate_left
          · intro wx hx
            clear hx
            go_simp
            with_reducible rfl
          try simp only [tl]
          refine wpAnyH_take (i := 19) (v := ?_) rfl (by kernel_rfl) (by kernel_rfl) (by kernel_rfl) (fun _ _ _ h => h) (Or.inl ⟨by rfl, ?_⟩) hS ?_
          rotate_left
          · intro wx hx
            have q0 := (hx ⟨w.heap.size, 0, none⟩ hlt2).trans k0
            clear hx
            go_simp
            with_reducible rfl
          try simp only [tl]
          refine wpAnyH_alone (i := 20) (by kernel_rfl) rfl (by rfl) fun K hK => ?_
          go_simp
          refine (TA.out W2.drew).mono ?_
          rintro e w4 ⟨rfl, rfl⟩
          refine hK _ _ (fun _ _ => rfl) ?_
          clear hK K
          try simp only [tl]
          refine wpAnyH_take (i := 21) (v := ?_) rfl (by kernel_rfl) (by kernel_rfl) (by kernel_rfl) (fun _ _ _ h => h) (Or.inl ⟨by rfl, ?_⟩) hS ?_
          rotate_left
          · intro wx hx
            clear hx
            go_simp
            with_reducible rfl
          try simp only [tl]
          refine wpAnyH_take (i := 22) (v := ?_) rfl (by kernel_rfl) (by kernel_rfl) (by kernel_rfl) (fun _ _ _ h => h) (Or.inl ⟨by rfl, ?_⟩) hS ?_
          rotate_left
          · intro wx hx
            clear hx
            go_simp
            with_reducible rfl
          try simp only [tl]
          refine wpAnyH_done (by kernel_rfl) ?_ _
          refine NoPanic.normal ?_
          by_cases h1 : k = 1
          · subst h1
            have hx := HX3.out
            have hx9 : (decide (0 ≤ n) && decide (n ≤ 1099511627776), cn + 1) = (X1, X2) := by simpa using hx
            injection hx9 with h1 h2
            have hb9 := HB3.out.upd ((Upd.refl nob W2).drew) (fun f => f)
            rw [h2] at hb9
            have HB9 := Lib.hid hb9
            clear hx HX3 hb9
            by_cases hn0 : 0 ≤ n
            · have t5 : decide (0 ≤ n) = true := by simpa using hn0
              rw [t5, Bool.true_and] at h1
              have H1 := Lib.hid h1
              clear h1 HB3 HB2
              go_wp2_with fail
              go_ret
              exact ⟨by rw [← H1.out]; rfl, HB9.out, hu02.trans (((Upd.refl nob W2).drew).mono (fun _ f => f.elim))⟩
            · have t5 : decide (0 ≤ n) = false := by simpa using hn0
              rw [t5, Bool.false_and] at h1
              have H1 := Lib.hid h1
              clear h1 HB3 HB2 hn0
              go_wp2_with fail
              go_ret
              exact ⟨by rw [← H1.out]; rfl, HB9.out, hu02.trans (((Upd.refl nob W2).drew).mono (fun _ f => f.elim))⟩
          have e1 : (k == 1) = false := by simpa using h1
          by_cases h2 : k = 2
          · subst h2
            have hx := HX3.out
            have hx9 : (decide (0 ≤ n) && decide (n ≤ 1000), cn + 1) = (X1, X2) := by simpa using hx
            injection hx9 with h1 h2
            have hb9 := HB3.out.upd ((Upd.refl nob W2).drew) (fun f => f)
            rw [h2] at hb9
            have HB9 := Lib.hid hb9
            clear hx HX3 hb9
            by_cases hn0 : 0 ≤ n
            · have t5 : decide (0 ≤ n) = true := by simpa using hn0
              rw [t5, Bool.true_and] at h1
              have H1 := Lib.hid h1
              clear h1 HB3 HB2
              go_wp2_with fail
              go_ret
              exact ⟨by rw [← H1.out]; rfl, HB9.out, hu02.trans (((Upd.refl nob W2).drew).mono (fun _ f => f.elim))⟩
            · have t5 : decide (0 ≤ n) = false := by simpa using hn0
              rw [t5, Bool.false_and] at h1
              have H1 := Lib.hid h1
              clear h1 HB3 HB2 hn0
              go_wp2_with fail
              go_ret
              exact ⟨by rw [← H1.out]; rfl, HB9.out, hu02.trans (((Upd.refl nob W2).drew).mono (fun _ f => f.elim))⟩
          have e2 : (k == 2) = false := by simpa using h2
          by_cases h3 : k = 3
          · subst h3
            have hx := HX3.out
            rw [if_neg (by decide), if_neg (by decide)] at hx
            have hd9 : Upd nob W2 W2.drew := (Upd.refl nob W2).drew
            by_cases hn1 : n < 1
            · have t5 : decide (n < 1) = true := by simpa using hn1
              rw [if_pos ⟨rfl, .inl hn1⟩] at hx
              have HX4 := Lib.hid hx.symm
              clear hx HX3
              go_wp2_with fail
              go_ret
              exact FIN.out _ hd9 HX4.out
            · have t5 : decide (n < 1) = false := by simpa using hn1
              by_cases hn2 : 1099511627776 < n
              · have t6 : decide (1099511627776 < n) = true := by simpa using hn2
                rw [if_pos ⟨rfl, .inr hn2⟩] at hx
                have HX4 := Lib.hid hx.symm
                clear hx HX3
                go_wp2_with fail
                go_ret
                exact FIN.out _ hd9 HX4.out
              · have t6 : decide (1099511627776 < n) = false := by simpa using hn2
                rw [if_neg (fun h => h.2.elim hn1 hn2)] at hx
                have HXL := Lib.hid hx
                clear hx HX3
                go_wp2_with fail
                have hu3 : Upd nob W2 W2.drew := (Upd.refl nob W2).drew
                go_loopg [72] ks.length (fun r v wr => ∃ (j cc : Nat), j + r = ks.length ∧ v = .int .i64 j ∧ Blk wr nb 3 #[.int .i64 cc] ∧ cc ≤ 1000 ∧ rsnds (ks.drop j) d cc = (X1, X2) ∧ Upd (fun q => q = nb) W2 wr)
                case atStart => exact ⟨0, cn + 1, by omega, rfl, HB3.out, by omega, by rw [List.drop_zero]; exact HXL.out, hu3.mono (fun _ f => f.elim)⟩
                case round =>
                 clear HXL HB2 HB3
                 obtain ⟨j, cc, hj, rfl, hbc, hcc, hrc, hus⟩ := hrel
                 have hws := hus.size
                 have ho3 : Old D W2 wr := Old.of_upd hus fun q hq => ⟨fun h => hnb (h ▸ hq), hD2 q hq⟩
                 have hDr : Within D wr := hD2.up hus
                 have HBC := Lib.hid hbc
                 have HRC := Lib.hid hrc
                 clear hbc hrc
                 by_cases hlt : j < ks.length
                 · have t8 : decide ((j : Int) < ks.length) = true := by simp [hlt]
                   obtain ⟨a, csj, hA, hab, hrow, hlj⟩ := HKS.out.at_ (List.getElem?_eq_getElem hlt)
                   rw [Nat.zero_add] at hrow
                   have hrow' := hrow.old ho3 (by rw [Addr_add_block]; exact hab)
                   have hlj' := hlj.old ho3 (fun _ h => h)
                   have hsj := hlj.oneCell
                   have hsij : (Try.prog.info? 24).map (·.size) = some csj.size := by rw [hsj.1]; exact lv_size
                   have hdr : ks.drop j = ks[j] :: ks.drop (j + 1) := List.drop_eq_getElem_cons hlt
                   have hrc := HRC.out
                   rw [hdr, rsnds] at hrc
                   have HRC2 := Lib.hid hrc
                   have HA := Lib.hid hA
                   have HLJ := Lib.hid hlj'
                   have HIH := Lib.hid (ih ks[j] (List.getElem_mem hlt))
                   have hdd : IntKind.i64.wrap ((d : Int) + 1) = ((d + 1 : Nat) : Int) := (IntWalk.i64_in _ (by omega)).trans (by omega)
                   clear hA hrc hdr HRC hrow hlj hlj'
                   go_wp2_with (first
                                             | ((with_reducible refine this_op (.indexAddr 22 (.tmp 70) (.tmp 72)) ?_); refine wpList_index_at rfl 22 (.tmp 70) (.tmp 72) rfl _ a _ _ rfl HA.out j rfl hlt 24 Try.underlying22 3 lv_size ?_)
                                             | ((with_reducible refine this_op (.load 24 (.tmp 74)) ?_); refine wpList_at rfl 24 (.tmp 74) rfl (a.add (j * 3)) rfl _ _ hrow' Try.underlying24 rfl hsij ?_)
                                             | ((with_reducible refine this_op (.store 24 (.tmp 8) (.tmp 75)) ?_); refine wpList_store_row rfl 24 (.tmp 8) (.tmp 75) rfl wr.heap.size _ rfl rfl 24 _ (Blk.new wr _ _) hsij (by rw [hsj.1]; rfl) hsj.2 ?_
                                                obtain ⟨W7, hW7⟩ : ∃ W7, (wr.alloc (.cells #[.int .i64 0, .int .i64 0, .slice none 0 0] 24)).setRow wr.heap.size csj = W7 := ⟨_, rfl⟩
                                                have hu7 : Upd nob wr W7 := by rw [← hW7]; exact ((Upd.refl nob wr).alloc _).setRow (.inr (Nat.le_refl _)) _
                                                have hb7 : Blk W7 wr.heap.size 24 csj := by rw [← hW7]; exact (Blk.new wr _ _).row _
                                                rw [hW7]
                                                clear hW7
                                                have r7 := hb7.rowAt
                                                have HB7 := Lib.hid (HBC.out.upd hu7 (fun f => f))
                                                clear hb7)
                                             | ((with_reducible refine this_op (.load 24 (.tmp 8)) ?_); refine wpList_at rfl 24 (.tmp 8) rfl ⟨wr.heap.size, 0, none⟩ rfl _ _ r7 Try.underlying24 rfl hsij ?_))
                   refine (HIH.out csj D (d + 1) cc nb W7 (HLJ.out.old (hDr.old hu7) (fun _ h => h)) (hDr.up hu7) hnb HB7.out hcc (by omega)).mono ?_
                   rintro e w8 ⟨rfl, hb8, hu8⟩
                   have hrc := HRC2.out
                   have hle := rsnd_le ks[j] (d + 1) cc
                   obtain ⟨⟨Y1, Y2⟩, hY⟩ : ∃ Y, rsnd ks[j] (d + 1) cc = Y := ⟨_, rfl⟩
                   rw [hY] at hrc hb8 hle ⊢
                   simp only at hrc hb8 hle ⊢
                   have hu38 : Upd (fun q => q = nb) W2 w8 := hus.trans ((hu7.mono (fun _ f => f.elim)).trans hu8)
                   have HB8 := Lib.hid hb8
                   clear hb8 hY HRC2 r7
                   cases Y1 with
                   | true =>
                    rw [if_pos rfl] at hrc
                    have HRC4 := Lib.hid hrc
                    have hle2 := hle rfl
                    clear hrc hle
                    go_wp2_with fail
                    go_roundg (gk - 1)
                    case measure => omega
                    case rel => exact ⟨j + 1, Y2, by omega, by go_num, HB8.out, hle2, HRC4.out, hu38⟩
                   | false =>
                    rw [if_neg (by decide)] at hrc
                    injection hrc with h1 h2
                    subst h1 h2
                    go_wp2_with fail
                    go_ret
                    exact ⟨rfl, HB8.out, hu02.trans hu38⟩
                 · have t8 : decide ((j : Int) < ks.length) = false := by simp; omega
                   have hrc := HRC.out
                   rw [List.drop_eq_nil_of_le (by omega), rsnds] at hrc
                   injection hrc with h1 h2
                   subst h1 h2
                   clear HRC
                   go_wp2_with fail
                   go_ret
                   exact ⟨rfl, HBC.out, hu02.trans hus⟩
          have e3 : (k == 3) = false := by simpa using h3
          have hx := HX3.out
          rw [if_neg h1, if_neg h2, if_neg (fun h => h3 h.1)] at hx
          have HXL := Lib.hid hx
          clear hx HX3
          go_wp2_with fail
          have hu3 : Upd nob W2 W2.drew := (Upd.refl nob W2).drew
          go_loopg [72] ks.length (fun r v wr => ∃ (j cc : Nat), j + r = ks.length ∧ v = .int .i64 j ∧ Blk wr nb 3 #[.int .i64 cc] ∧ cc ≤ 1000 ∧ rsnds (ks.drop j) d cc = (X1, X2) ∧ Upd (fun q => q = nb) W2 wr)
          case atStart => exact ⟨0, cn + 1, by omega, rfl, HB3.out, by omega, by rw [List.drop_zero]; exact HXL.out, hu3.mono (fun _ f => f.elim)⟩
          case round =>
           clear HXL HB2 HB3
           obtain ⟨j, cc, hj, rfl, hbc, hcc, hrc, hus⟩ := hrel
           have hws := hus.size
           have ho3 : Old D W2 wr := Old.of_upd hus fun q hq => ⟨fun h => hnb (h ▸ hq), hD2 q hq⟩
           have hDr : Within D wr := hD2.up hus
           have HBC := Lib.hid hbc
           have HRC := Lib.hid hrc
           clear hbc hrc
           by_cases hlt : j < ks.length
           · have t8 : decide ((j : Int) < ks.length) = true := by simp [hlt]
             obtain ⟨a, csj, hA, hab, hrow, hlj⟩ := HKS.out.at_ (List.getElem?_eq_getElem hlt)
             rw [Nat.zero_add] at hrow
             have hrow' := hrow.old ho3 (by rw [Addr_add_block]; exact hab)
             have hlj' := hlj.old ho3 (fun _ h => h)
             have hsj := hlj.oneCell
             have hsij : (Try.prog.info? 24).map (·.size) = some csj.size := by rw [hsj.1]; exact lv_size
             have hdr : ks.drop j = ks[j] :: ks.drop (j + 1) := List.drop_eq_getElem_cons hlt
             have hrc := HRC.out
             rw [hdr, rsnds] at hrc
             have HRC2 := Lib.hid hrc
             have HA := Lib.hid hA
             have HLJ := Lib.hid hlj'
             have HIH := Lib.hid (ih ks[j] (List.getElem_mem hlt))
             have hdd : IntKind.i64.wrap ((d : Int) + 1) = ((d + 1 : Nat) : Int) := (IntWalk.i64_in _ (by omega)).trans (by omega)
             clear hA hrc hdr HRC hrow hlj hlj'
             go_wp2_with (first
                                 | ((with_reducible refine this_op (.indexAddr 22 (.tmp 70) (.tmp 72)) ?_); refine wpList_index_at rfl 22 (.tmp 70) (.tmp 72) rfl _ a _ _ rfl HA.out j rfl hlt 24 Try.underlying22 3 lv_size ?_)
                                 | ((with_reducible refine this_op (.load 24 (.tmp 74)) ?_); refine wpList_at rfl 24 (.tmp 74) rfl (a.add (j * 3)) rfl _ _ hrow' Try.underlying24 rfl hsij ?_)
                                 | ((with_reducible refine this_op (.store 24 (.tmp 8) (.tmp 75)) ?_); refine wpList_store_row rfl 24 (.tmp 8) (.tmp 75) rfl wr.heap.size _ rfl rfl 24 _ (Blk.new wr _ _) hsij (by rw [hsj.1]; rfl) hsj.2 ?_
                                    obtain ⟨W7, hW7⟩ : ∃ W7, (wr.alloc (.cells #[.int .i64 0, .int .i64 0, .slice none 0 0] 24)).setRow wr.heap.size csj = W7 := ⟨_, rfl⟩
                                    have hu7 : Upd nob wr W7 := by rw [← hW7]; exact ((Upd.refl nob wr).alloc _).setRow (.inr (Nat.le_refl _)) _
                                    have hb7 : Blk W7 wr.heap.size 24 csj := by rw [← hW7]; exact (Blk.new wr _ _).row _
                                    rw [hW7]
                                    clear hW7
                                    have r7 := hb7.rowAt
                                    have HB7 := Lib.hid (HBC.out.upd hu7 (fun f => f))
                                    clear hb7)
                                 | ((with_reducible refine this_op (.load 24 (.tmp 8)) ?_); refine wpList_at rfl 24 (.tmp 8) rfl ⟨wr.heap.size, 0, none⟩ rfl _ _ r7 Try.underlying24 rfl hsij ?_))
             refine (HIH.out csj D (d + 1) cc nb W7 (HLJ.out.old (hDr.old hu7) (fun _ h => h)) (hDr.up hu7) hnb HB7.out hcc (by omega)).mono ?_
             rintro e w8 ⟨rfl, hb8, hu8⟩
             have hrc := HRC2.out
             have hle := rsnd_le ks[j] (d + 1) cc
             obtain ⟨⟨Y1, Y2⟩, hY⟩ : ∃ Y, rsnd ks[j] (d + 1) cc = Y := ⟨_, rfl⟩
             rw [hY] at hrc hb8 hle ⊢
             simp only at hrc hb8 hle ⊢
             have hu38 : Upd (fun q => q = nb) W2 w8 := hus.trans ((hu7.mono (fun _ f => f.elim)).trans hu8)
             have HB8 := Lib.hid hb8
             clear hb8 hY HRC2 r7
             cases Y1 with
             | true =>
              rw [if_pos rfl] at hrc
              have HRC4 := Lib.hid hrc
              have hle2 := hle rfl
              clear hrc hle
              go_wp2_with fail
              go_roundg (gk - 1)
              case measure => omega
              case rel => exact ⟨j + 1, Y2, by omega, by go_num, HB8.out, hle2, HRC4.out, hu38⟩
             | false =>
              rw [if_neg (by decide)] at hrc
              injection hrc with h1 h2
              subst h1 h2
              go_wp2_with fail
              go_ret
              exact ⟨rfl, HB8.out, hu02.trans hu38⟩
           · have t8 : decide ((j : Int) < ks.length) = false := by simp; omega
             have hrc := HRC.out
             rw [List.drop_eq_nil_of_le (by omega), rsnds] at hrc
             injection hrc with h1 h2
             subst h1 h2
             clear HRC
             go_wp2_with fail
             go_ret
             exact ⟨rfl, HBC.out, hu02.trans hus⟩
theorem rsound_any (l : Lv) (cs : Array Value) (D : Nat → Prop) (w : World) (hD : Within D w) (hl : LvIs D w l cs) :
    Calls Try.prog 13 #[.agg cs] w fun e w' => e = .returned (.bool (rsound l)) ∧ Below w.heap.size w w' := by
 have hs := hl.oneCell
 have hsi : (Try.prog.info? 24).map (·.size) = some cs.size := by rw [hs.1]; exact lv_size
 obtain ⟨W1, hW1⟩ : ∃ W1, (w.alloc (.cells cs 24)).alloc (.cells #[.int .i64 0] 3) = W1 := ⟨_, rfl⟩
 have huW1 : Upd nob w W1 := by rw [← hW1]; exact ((Upd.refl nob w).alloc _).alloc _
 have hsW1 : W1.heap.size = w.heap.size + 2 := by rw [← hW1]; simp
 have bk0 : Blk W1 (w.heap.size) 24 cs := by
  rw [← hW1]
  have h := Blk.new (w) 24 cs
  exact h.alloc _
 have bk1 : Blk W1 (w.heap.size + 1) 3 #[.int .i64 0] := by
  rw [← hW1]
  have h := Blk.new (w.alloc (.cells cs 24)) 3 #[.int .i64 0]
  rw [World.size_alloc] at h
  exact h
 have hl1 := hl.old (hD.old huW1) (fun _ h => h)
 have hD1 := hD.up huW1
 have r0 := bk0.rowAt
 have HB1 := Lib.hid bk1
 have HW1 := Lib.hid hW1
 rw [← hW1] at r0
 have HL1 := Lib.hid hl1
 clear hW1 bk0 bk1 hl hl1
 go_enter Try.func13, Try.ntmps13
 go_wp2_with (first
     | ((with_reducible refine this_op (.load 24 (.tmp 1)) ?_); refine wpList_at rfl 24 (.tmp 1) rfl ⟨w.heap.size, 0, none⟩ rfl _ _ r0 Try.underlying24 rfl hsi ?_))
 rw [HW1.out]
 refine (rsnd_any l cs D 1 0 (w.heap.size + 1) W1 HL1.out hD1 (fun h => by have := hD _ h; omega) HB1.out (by omega) (by omega)).mono ?_
 rintro e w2 ⟨rfl, _, hu2⟩
 have hb : Below w.heap.size w w2 := (huW1.trans' hu2 (fun q hq h => by omega)).below
 clear r0
 go_wp2_with fail
 go_ret
 exact ⟨rfl, hb⟩
end Go.Proofs.Ytiampoebdmflgaa

/- slices.Values of terms. -/
namespace Go.Proofs.Ytiampoebdmflgaa
open Go.RowKit
set_option linter.unusedVariables false
set_option maxRecDepth 100000
set_option maxHeartbeats 4000000
theorem tvals_any (A : Option Addr) (n c : Nat) (w : World) :
    Calls Try.prog 63 #[.slice A n c] w fun e w' => e = .returned (.func (.func 86) #[] #[.pointer (some ⟨w.heap.size, 0, none⟩)]) ∧ w' = w.alloc (.cells #[.slice A n c] 25) := by
 go_enter Try.func63, Try.ntmps63
 go_wp2
 go_ret
 exact ⟨rfl, rfl⟩
/-- What Values yields. -/
theorem vals_spec (ts : List Tm) (css : List (Array Value)) (A : Option Addr) (c : Nat) (D : Nat → Prop) (tb : Nat) (w₀ : World) (hD : Within D w₀)
    (hb : Blk w₀ tb 25 #[.slice A ts.length c]) (hcl : css.length = ts.length) (hlen : ts.length ≤ 140737488351232)
    (hcs : ∀ (i : Nat) c, css[i]? = some c → ∃ a l, ts[i]? = some l ∧ A = some a ∧ D a.block ∧ rowAt w₀ (a.add (i * 8)) c ∧ TmIs D w₀ l c) (xs : List (Array Value))
    (hxs : xs = css.map fun c => #[.agg c]) :
    IterSpec Try.prog 86 #[.pointer (some ⟨tb, 0, none⟩)] (fun k => k = tb ∨ D k) w₀ xs := by
 intro l J Jx hJ hJx hY I W hag hI h0
 have hbW := hb.keeps hag (.inl rfl)
 have c0 : W.cell? ⟨tb, 0, none⟩ = some (.slice A ts.length c) := hbW.cell 0
 have hlb := hbW.lt
 have hz := tm_zero
 obtain ⟨m, hm⟩ : ∃ m, ts.length = m := ⟨_, rfl⟩
 rw [hm] at c0 hlen hcl
 have HM := Lib.hid hm
 have hxl : xs.length = m := by rw [hxs, List.length_map, hcl]
 have HXL := Lib.hid hxl
 have HXS := Lib.hid hxs
 have HCL := Lib.hid hcl
 clear hm hxl hxs hcl
 refine callsIn_wide (n := 0).1 ?_
 refine callsIn_of_wp Try.func86 rfl trivial ?_ rfl
 simp only [Try.ntmps86, List.size_toArray, List.length_cons, List.length_nil, Nat.reduceAdd, Nat.reduceSub, Array.replicate_succ, Array.replicate_zero, List.push_toArray, List.append_toArray, List.nil_append, List.cons_append]
 gi_wp2_with fail
 gi_loopw [7] (fun p wr => ∃ (j : Nat) (I' : Nat → Prop), j ≤ m ∧ p = .int .i64 j ∧ J j I' wr ∧ Keeps (fun k => k = tb ∨ D k) w₀ wr ∧ W.heap.size ≤ wr.heap.size ∧
     (∀ i, I i → I' i) ∧ (∀ i, I' i → (I i ∨ W.heap.size ≤ i) ∧ i < wr.heap.size)) (fun p _ => m - (intOf p).toNat)
 case atStart => exact ⟨0, I, Nat.zero_le _, rfl, h0, hag, Nat.le_refl _, fun _ h => h, fun j h => ⟨.inl h, hI j h⟩⟩
 case round =>
  obtain ⟨j, I', hj, rfl, hjj, hkp, hsz, hi1, hi2⟩ := hrel
  by_cases hlt : j < m
  · have hjc : j < css.length := by rw [HCL.out]; omega
    obtain ⟨a, l', hl', hA, hab, hrow, hti⟩ := hcs j _ (List.getElem?_eq_getElem hjc)
    obtain ⟨cj, hcj⟩ : ∃ cj, css[j] = cj := ⟨_, rfl⟩
    rw [hcj] at hrow hti
    have hx : xs[j]? = some #[.agg cj] := by
     rw [HXS.out, List.getElem?_map, List.getElem?_eq_getElem hjc, hcj]; rfl
    have hrow' : rowAt wr (a.add (j * 8)) cj := fun i v hv => (hkp.cell (by rw [Addr_add_block, Addr_add_block]; exact .inr hab)).trans (hrow i v hv)
    have hs8 := hti.oneCell
    have hsi : (Try.prog.info? 27).map (·.size) = some cj.size := by rw [hs8.1]; exact tm_size
    obtain ⟨W2, hW2⟩ : ∃ W2, (wr.alloc (.cells #[.int .i64 0, .int .i64 0, .string ByteArray.empty, .int .i64 0, .int .i64 0, .slice none 0 0, .slice none 0 0, .slice none 0 0] 27)).setRow wr.heap.size cj = W2 := ⟨_, rfl⟩
    have hu2 : Upd nob wr W2 := by rw [← hW2]; exact ((Upd.refl nob wr).alloc _).setRow (.inr (Nat.le_refl _)) _
    have hb2 : Blk W2 wr.heap.size 27 cj := by rw [← hW2]; exact (Blk.new wr _ _).row _
    have hs2 : W2.heap.size = wr.heap.size + 1 := by rw [← hW2]; simp
    have hj2 := hJ j I' wr W2 hjj (hu2.mono (fun _ f => f.elim))
    obtain ⟨fn, tmps, assign, body, hy, hR⟩ := hY j _ _ _ hx hj2
    have hkp2 : Keeps (fun k => k = tb ∨ D k) w₀ W2 := hkp.trans (hu2.keeps fun q hq => ⟨fun f => f, by
     rcases hq with rfl | hq
     · omega
     · have := hD q hq; have := hag.size; omega⟩)
    have HA := Lib.hid hA
    have HW2 := Lib.hid hW2
    have hr2 : rowAt ((wr.alloc (.cells #[.int .i64 0, .int .i64 0, .string ByteArray.empty, .int .i64 0, .int .i64 0, .slice none 0 0, .slice none 0 0, .slice none 0 0] 27)).setRow wr.heap.size cj) ⟨wr.heap.size, 0, none⟩ cj := by rw [HW2.out]; exact hb2.rowAt
    clear hA hcj hl' hW2
    gi_wp2_with (first
              | ((with_reducible refine this_opIn (.indexAddr 25 (.tmp 5) (.tmp 7)) ?_); refine wpListIn_index_at .out rfl 25 (.tmp 5) (.tmp 7) rfl _ a _ _ rfl HA.out j rfl hlt 27 Try.underlying25 8 tm_size ?_)
              | ((with_reducible refine this_opIn (.load 27 (.tmp 9)) ?_); refine wpListIn_at .out rfl 27 (.tmp 9) rfl (a.add (j * 8)) rfl _ _ hrow' Try.underlying27 rfl hsi ?_)
              | ((with_reducible refine this_opIn (.store 27 (.tmp 4) (.tmp 10)) ?_); refine wpListIn_store_blk .out rfl 27 (.tmp 4) (.tmp 10) rfl rfl wr.heap.size cj rfl rfl 27 _ (Blk.new wr _ _) hsi (by rw [hs8.1]; rfl) hs8.2 ?_)
              | ((with_reducible refine this_opIn (.load 27 (.tmp 4)) ?_); refine wpListIn_at .out rfl 27 (.tmp 4) rfl ⟨wr.heap.size, 0, none⟩ rfl _ _ hr2 Try.underlying27 rfl hsi ?_))
    rw [HW2.out, hy]
    refine ⟨fun h => by simp [Fence.wide] at h, hR.mono ?_⟩
    rintro e W3 ⟨hk3, (⟨rfl, hj3⟩ | ⟨rfl, hx3⟩)⟩
    · gi_wp2
      go_roundw
      case rel =>
       have hs3 := hk3.size
       refine ⟨j + 1, grow I' wr W2, hlt, by go_num, hj3, hkp2.trans (hk3.mono fun j h => .inr h), by omega, fun i h => .inl (hi1 i h), ?_⟩
       intro i h
       rcases h with h | h
       · have := hi2 i h; exact ⟨this.1, by omega⟩
       · have h1 := h.1; have h2 := h.2; exact ⟨.inr (by omega), by omega⟩
      case measure => simp [intOf]; omega
    · gi_wp2
      refine bodyPost_ret (results_none rfl _ _ _) rfl ?_
      exact ⟨⟨_, rfl⟩, grow I' wr W2, fun i h => .inl (hi1 i h), fun i h => h.elim (fun h => (hi2 i h).1) (fun h => .inr (by have := h.1; omega)), .inr hx3⟩
  · gi_wp2
    go_end0
    have : j = m := by omega
    subst this
    exact ⟨⟨_, rfl⟩, I', hi1, fun j h => (hi2 j h).1, .inl (by rw [HXL.out]; exact hjj)⟩
end Go.Proofs.Ytiampoebdmflgaa

/- term.Mentions. -/
namespace Go.Proofs.Ytiampoebdmflgaa
open Go.RowKit
set_option linter.unusedVariables false
set_option maxRecDepth 100000
set_option maxHeartbeats 4000000
set_option linter.unusedSimpArgs false
def mnStep (nm : ByteArray) (s : Unit) (t : Tm) (_ _ : Int) : Bool × Unit := (decide (t.k ≠ 7) || !(t.nm.toList == nm.toList), s)
def tment (t : Tm) (nm : ByteArray) : Bool := !tgreat t && !(tfold (mnStep nm) t 1 0 ()).1
theorem ment1_any (t : Tm) (cs : Array Value) (D : Nat → Prop) (d b : Int) (nm : ByteArray) (nb : Nat) (w : World) (hl : TmIs D w t cs) (hb : Blk w nb 9 #[.string nm]) :
    Calls Try.prog 85 #[.agg cs, .int .i64 d, .int .i64 b, .pointer (some ⟨nb, 0, none⟩)] w fun e w' => e = .returned (.bool (mnStep nm () t d b).1) ∧ Blk w' nb 9 #[.string nm] ∧ Upd (fun k => k = nb) w w' := by
 obtain ⟨x, y, z, A, c, A', c', rfl, _, _, _, _, _, _, _, _⟩ := hl.lit
 simp only [mnStep]
 have c0 : w.cell? ⟨nb, 0, none⟩ = some (.string nm) := hb.cell 0
 have hlt := hb.lt
 have HB := Lib.hid hb
 clear hb hl
 obtain ⟨k, hk⟩ : ∃ k, t.k = k := ⟨_, rfl⟩
 obtain ⟨m, hm⟩ : ∃ m, t.nm = m := ⟨_, rfl⟩
 rw [hk, hm]
 clear hk hm
 have fin : ∀ o, Blk (w.alloc o) nb 9 #[.string nm] ∧ Upd (fun k => k = nb) w (w.alloc o) := fun o => ⟨HB.out.alloc _, (Upd.refl _ w).alloc _⟩
 by_cases h1 : k = 7
 · subst h1
   have e : (decide ((7 : Int) ≠ 7) || !(m.toList == nm.toList)) = !(m.toList == nm.toList) := by simp
   rw [e]
   have FIN := Lib.hid fin; clear fin e
   go_enter Try.func85, Try.ntmps85
   go_wp2
   go_ret
   exact ⟨rfl, FIN.out _⟩
 · have t1 : (k != 7) = true := by simpa using h1
   have e : (decide (k ≠ 7) || !(m.toList == nm.toList)) = true := by simp [h1]
   rw [e]
   have FIN := Lib.hid fin; clear fin e h1
   go_enter Try.func85, Try.ntmps85
   go_wp2
   go_ret
   exact ⟨rfl, FIN.out _⟩
theorem ment_visit (nb : Nat) (nm : ByteArray) (D : Nat → Prop) (h1 : ¬ D nb) : TVisit Try.prog 85 #[.pointer (some ⟨nb, 0, none⟩)] D (fun k => k = nb)
    (fun (_ : Unit) w => Blk w nb 9 #[.string nm]) (mnStep nm) where
 enter := fun _ _ => by go_simp
 stab := fun _ W W' h hk => (hk nb rfl).trans h
 ge := fun k hk e => h1 (e ▸ hk)
 lt := fun _ W h k e => e ▸ h.lt
 call := fun t cs d b s W hl hr hd _ _ _ _ => ment1_any t cs D d b nm nb W hl hr
theorem tment_any (t : Tm) (nm : ByteArray) (cs : Array Value) (D : Nat → Prop) (w : World) (hD : Within D w) (hl : TmIs D w t cs) :
    Calls Try.prog 61 #[.agg cs, .string nm] w fun e w' => e = .returned (.bool (tment t nm)) ∧ Below w.heap.size w w' := by
 have hs := hl.oneCell
 have hsi : (Try.prog.info? 27).map (·.size) = some cs.size := by rw [hs.1]; exact tm_size
 obtain ⟨X, hX⟩ : ∃ X, tment t nm = X := ⟨_, rfl⟩
 rw [hX]
 have HX := Lib.hid hX; clear hX
 obtain ⟨W1, hW1⟩ : ∃ W1, (w.alloc (.cells cs 27)).alloc (.cells #[.string nm] 9) = W1 := ⟨_, rfl⟩
 have huW1 : Upd nob w W1 := by rw [← hW1]; exact ((Upd.refl nob w).alloc _).alloc _
 have hsW1 : W1.heap.size = w.heap.size + 2 := by rw [← hW1]; simp
 have b0 : Blk W1 (w.heap.size) 27 cs := by
  rw [← hW1]
  have h := Blk.new (w) 27 cs
  exact h.alloc _
 have b1 : Blk W1 (w.heap.size + 1) 9 #[.string nm] := by
  rw [← hW1]
  have h := Blk.new (w.alloc (.cells cs 27)) 9 #[.string nm]
  rw [World.size_alloc] at h
  exact h
 have HW1 := Lib.hid hW1
 have r0 := b0.rowAt
 have B0 := Lib.hid b0
 have B1 := Lib.hid b1
 have hl1 := hl.old (hD.old huW1) (fun _ h => h)
 have hD1 := hD.up huW1
 clear hW1 b0 b1
 go_enter Try.func61, Try.ntmps61
 rw [← HW1.out] at r0
 go_wp2_with (first
       | ((with_reducible refine this_op (.load 27 (.tmp 2)) ?_); refine wpList_at rfl 27 (.tmp 2) rfl ⟨w.heap.size, 0, none⟩ rfl _ _ r0 Try.underlying27 rfl hsi ?_))
 rw [HW1.out]
 refine (tgreat_any t cs D W1 hD1 hl1).mono ?_
 rintro e w2 ⟨rfl, hb2⟩
 have hu2 : Upd nob W1 w2 := Upd.of_below hb2
 have r2 := (B0.out.upd hu2 (fun f => f)).rowAt
 have C1 := B1.out.upd hu2 (fun f => f)
 have hl2 := hl1.old (hD1.old hu2) (fun _ h => h)
 have hbw := (huW1.trans hu2)
 clear r0
 cases hg : tgreat t with
 | true =>
  have hx : X = false := by rw [← HX.out, tment, hg]; rfl
  have HG := Lib.hid hg; clear hg
  subst hx
  go_wp2_with fail
  go_ret
  exact ⟨rfl, hbw.below⟩
 | false =>
  have hvh := great_vh hg
  have hx : X = !(tfold (mnStep nm) t 1 0 ()).1 := by rw [← HX.out, tment, hg]; rfl
  have HG := Lib.hid hg; clear hg HX
  have HC1 := Lib.hid C1; clear C1
  have HX := Lib.hid hx; clear hx
  go_wp2_with (first
          | ((with_reducible refine this_op (.load 27 (.tmp 2)) ?_); go_big_want; refine owp_load_at 27 (.tmp 2) rfl ⟨w.heap.size, 0, none⟩ rfl _ _ r2 Try.underlying27 rfl hsi ?_))
  have V := ment_visit (w.heap.size + 1) nm D (fun h => by have := hD _ h; omega)
  refine (tfold_any V t cs 1 0 () w2 hl2 HC1.out (hD1.up hu2) (by omega) (by omega) (by omega) (.inl (by omega))).mono ?_
  rintro e w3 ⟨rfl, _, hu3⟩
  obtain ⟨q, hq⟩ : ∃ q, (tfold (mnStep nm) t 1 0 ()).1 = q := ⟨_, rfl⟩
  have hx := HX.out
  rw [hq] at hx ⊢
  subst hx
  have hbw3 : Below w.heap.size w w3 := (hbw.trans' hu3 (fun q hq h => by omega)).below
  clear hq HX
  cases q <;> (go_wp2_with fail; go_ret; exact ⟨rfl, hbw3⟩)
end Go.Proofs.Ytiampoebdmflgaa

/- shape.mentions. -/
namespace Go.Proofs.Ytiampoebdmflgaa
open Go.RowKit
set_option linter.unusedVariables false
attribute [local go_sem] Oper.semAt_some
set_option maxRecDepth 100000
set_option maxHeartbeats 4000000
set_option linter.unusedSimpArgs false
theorem tments_any (ts : List Tm) (nm : ByteArray) (A : Option Addr) (c tb : Nat) (D : Nat → Prop) (w : World) (hD : Within D w) (hb : Blk w tb 25 #[.slice A ts.length c]) (hlen : ts.length ≤ 140737488351232) (hts : TmsAt D w ts A 0) :
    Calls Try.prog 62 #[.func (.func 86) #[] #[.pointer (some ⟨tb, 0, none⟩)], .string nm] w fun e w' =>
     e = .returned (.bool (ts.any (fun t => tment t nm))) ∧ Below w.heap.size w w' := by
 obtain ⟨css, hcl, hcs⟩ := hts.cells
 obtain ⟨X, hX⟩ : ∃ X, ts.any (fun t => tment t nm) = X := ⟨_, rfl⟩
 rw [hX]
 have HX := Lib.hid hX; clear hX
 have htb := hb.lt
 obtain ⟨W5, hW5⟩ : ∃ W5, (w.alloc (.cells #[.string nm] 9)).alloc (.cells #[.bool false] 4) = W5 := ⟨_, rfl⟩
 have huW5 : Upd nob w W5 := by rw [← hW5]; exact ((Upd.refl nob w).alloc _).alloc _
 have hsW5 : W5.heap.size = w.heap.size + 2 := by rw [← hW5]; simp
 have b0 : Blk W5 (w.heap.size) 9 #[.string nm] := by
  rw [← hW5]
  have h := Blk.new (w) 9 #[.string nm]
  exact h.alloc _
 have b1 : Blk W5 (w.heap.size + 1) 4 #[.bool false] := by
  rw [← hW5]
  have h := Blk.new (w.alloc (.cells #[.string nm] 9)) 4 #[.bool false]
  rw [World.size_alloc] at h
  exact h
 have hD5 := hD.up huW5
 have hb5 := hb.upd huW5 (fun f => f)
 have hoD := hD.old huW5
 have HB0 := Lib.hid b0
 have HB1 := Lib.hid b1
 clear b0 b1 hb
 have HW5 := Lib.hid hW5; clear hW5
 refine callsIn_wide (n := 0).1 ?_
 refine callsIn_of_wp_marks Try.func62 rfl trivial ?_ rfl
 simp only [Try.ntmps62, List.size_toArray, List.length_cons, List.length_nil, Nat.reduceAdd, Nat.reduceSub, Array.replicate_succ, Array.replicate_zero, List.push_toArray, List.append_toArray, List.nil_append, List.cons_append]
 gi_wp2_with fail
 rw [HW5.out]
 clear HW5
 obtain ⟨xs, hxs⟩ : ∃ xs : List (Array Value), xs = css.map fun c => #[.agg c] := ⟨_, rfl⟩
 have hit := vals_spec ts css A c D tb W5 hD5 hb5 hcl hlen (fun i ci hi => by
  obtain ⟨a, l, e1, e2, e3, e4, e5⟩ := hcs i ci hi
  exact ⟨a, l, e1, e2, e3, e4.old hoD (by rw [Addr_add_block]; exact e3), e5.old hoD (fun _ h => h)⟩) xs hxs
 have hxl : xs.length = ts.length := by rw [hxs, List.length_map, hcl]
 have hxsz : ∀ x, x ∈ xs → x.size = 1 := by
  intro x hx; rw [hxs] at hx; obtain ⟨c, _, rfl⟩ := List.mem_map.1 hx; rfl
 have hxg : ∀ (j : Nat) v, xs[j]? = some v → ∃ cj, css[j]? = some cj ∧ v = #[.agg cj] := fun j v hv => by
  rw [hxs, List.getElem?_map] at hv
  cases h : css[j]? with
  | none => rw [h] at hv; cases hv
  | some cj => rw [h] at hv; exact ⟨cj, rfl, by simpa using hv.symm⟩
 have HXS := Lib.hid hxs; clear hxs
 have HXL := Lib.hid hxl; clear hxl
 have HXG := Lib.hid hxg; clear hxg
 have base : ∀ (s : Nat → Prop), (∀ q, s q → q < W5.heap.size) → Stab (fun I W => Upd s W5 W ∧ ∀ q, I q → W5.heap.size ≤ q) := fun s hs I W W' ⟨h1, h2⟩ hu =>
  ⟨h1.trans' hu (fun q hq hI => by have := h2 q hI; omega), fun q hq => by
   rcases hq with hq | hq
   · exact h2 q hq
   · have := h1.size; omega⟩
 have BASE := Lib.hid base; clear base
 have HCS := Lib.hid hcs; clear hcs
 refine wpIn_range hit rfl (fun args w => by go_simp) ?_ (Keeps.refl _ _) hxsz
  (fun j I W => (ts.drop j).any (fun t => tment t nm) = X ∧ Upd nob W5 W ∧ ∀ q, I q → W5.heap.size ≤ q)
  (fun c I W => c = .ret ∧ X = true ∧ Blk W (w.heap.size + 1) 4 #[.bool true] ∧ Upd (fun q => q = w.heap.size + 1) W5 W ∧ ∀ q, I q → W5.heap.size ≤ q)
  ?sJ ?sX nob (fun _ f => f.elim) ?j0
  (fun j v a₁ I W => (∃ cj g, css[j]? = some cj ∧ a₁ = { tmps := #[.func (.func 86) #[] #[.pointer (some ⟨tb, 0, none⟩)], .string nm, undef, .pointer (some ⟨w.heap.size, 0, none⟩), .pointer (some ⟨w.heap.size + 1, 0, none⟩), .pointer (some ⟨g, 0, none⟩), .func (.func 86) #[] #[.pointer (some ⟨tb, 0, none⟩)], .agg cj, undef, undef, undef], defers := [] } ∧ Blk W g 27 cj ∧ ¬ I g ∧ g < W.heap.size) ∧ (ts.drop j).any (fun t => tment t nm) = X ∧ Upd nob W5 W ∧ ∀ q, I q → W5.heap.size ≤ q)
  ?sM ?assign ?body ?done ?stop
 · intro q hq
   rcases hq with rfl | hq
   · omega
   · exact hD5 q hq
 case sJ =>
  intro j I W W' ⟨he, hu, hI⟩ h
  exact ⟨he, BASE.out nob (fun _ f => f.elim) I W W' ⟨hu, hI⟩ h⟩
 case sX =>
  intro c I W W' ⟨hc, he, hb, hu, hI⟩ h
  exact ⟨hc, he, hb.upd h (fun hh => by have := hI _ hh; omega), BASE.out _ (fun q hq => by omega) I W W' ⟨hu, hI⟩ h⟩
 case j0 => exact ⟨by rw [List.drop_zero]; exact HX.out, Upd.refl _ _, fun _ f => f.elim⟩
 case sM =>
  intro j v a₁ I W W' ⟨⟨cj, g, e1, e2, hb, hg, hgl⟩, he, hu, hI⟩ h
  refine ⟨⟨cj, g, e1, e2, hb.upd h hg, fun hh => ?_, Nat.lt_of_lt_of_le hgl h.size⟩, he, BASE.out nob (fun _ f => f.elim) I W W' ⟨hu, hI⟩ h⟩
  rcases hh with hh | hh
  · exact hg hh
  · omega
 case assign =>
  intro l j v I W hv hJ hIl
  obtain ⟨cj, hc1, rfl⟩ := HXG.out j v hv
  obtain ⟨he, hu, hI⟩ := hJ
  obtain ⟨a, l', g1, g2, g3, g4, g5⟩ := HCS.out j cj hc1
  have hz := tm_zero
  have HE := Lib.hid he; clear he
  have hsz := g5.oneCell
  have hsi : (Try.prog.info? 27).map (·.size) = some cj.size := by rw [hsz.1]; exact tm_size
  clear g2
  gi_wp2_with (first
   | ((with_reducible refine this_opIn (.store 27 (.tmp 5) (.tmp 7)) ?_); refine wpListIn_store_blk (.within _) rfl 27 (.tmp 5) (.tmp 7) rfl rfl W.heap.size cj rfl rfl 27 _ (Blk.new W _ _) hsi (by rw [hsz.1]; rfl) hsz.2 ?_))
  refine ⟨((Upd.refl nob W).alloc _).setRow (.inr (Nat.le_refl _)) _ |>.keeps fun q hq => ⟨fun f => f, ?_⟩, ?_⟩
  · rcases hq with hq | hq | hq
    · exact hIl q hq
    · have := hu.size; omega
    · have := hD5 q hq; have := hu.size; omega
  · have hua : Upd nob W ((W.alloc (.cells #[.int .i64 0, .int .i64 0, .string ByteArray.empty, .int .i64 0, .int .i64 0, .slice none 0 0, .slice none 0 0, .slice none 0 0] 27)).setRow W.heap.size cj) := ((Upd.refl nob W).alloc _).setRow (.inr (Nat.le_refl _)) _
    refine ⟨⟨cj, W.heap.size, hc1, rfl, (Blk.new W _ _).row _, fun h => by have := hIl _ h; omega, by simp⟩, HE.out, hu.trans hua, hI⟩
 case body =>
  rintro l j v I W a₁ hv ⟨⟨cj, g, e1, rfl, hbg, hng, hgl⟩, he, hu, hI⟩ hIl _
  obtain ⟨a, l', g1, g2, g3, g4, g5⟩ := HCS.out j cj e1
  have hjk := (List.getElem?_eq_some_iff.1 g1).1
  obtain rfl : ts[j] = l' := (List.getElem?_eq_some_iff.1 g1).2
  have hoW : Old D w W := hoD.trans (hD5.old hu)
  have hDW : Within D W := hD5.up hu
  have g6 := g5.old hoW (fun _ h => h)
  have hsi : (Try.prog.info? 27).map (·.size) = some cj.size := by rw [g5.oneCell.1]; exact tm_size
  have v0 : W.cell? ⟨w.heap.size, 0, none⟩ = some (.string nm) := (HB0.out.upd hu (fun f => f)).cell 0
  have w1 := HB1.out.upd hu (fun f => f)
  have rg := hbg.rowAt
  have W1 := Lib.hid w1
  have HE := Lib.hid he
  have HG := Lib.hid hbg
  clear he w1 hbg e1 g1 g2
  gi_wp2_with (first
   | ((with_reducible refine this_opIn (.load 27 (.tmp 5)) ?_); refine wpListIn_at (.within _) rfl 27 (.tmp 5) rfl ⟨g, 0, none⟩ rfl _ _ rg Try.underlying27 rfl hsi ?_))
  refine viaCallsR (tment_any ts[j] nm cj D W hDW g6) ?_
  rintro e w9 ⟨rfl, hb9⟩
  have hu9 : Upd nob W w9 := Upd.of_below hb9
  have hu59 := hu.trans hu9
  have hszW : W5.heap.size ≤ W.heap.size := hu.size
  have k9 : Keeps (fun q => I q ∨ (q = tb ∨ D q)) W w9 := hu9.keeps fun q hq => by
   rcases hq with hq | rfl | hq
   · exact ⟨fun h => h, hIl q hq⟩
   · exact ⟨fun h => h, by omega⟩
   · exact ⟨fun h => h, hDW q hq⟩
  have hdr := List.drop_eq_getElem_cons hjk
  have HE2 : Hid ((tment ts[j] nm || (ts.drop (j + 1)).any (fun t => tment t nm)) = X) := Lib.hid (by have := HE.out; rw [hdr, List.any_cons] at this; exact this)
  clear hdr HE
  have x1 := W1.out.upd hu9 (fun f => f)
  have x1c : w9.cell? ⟨w.heap.size + 1, 0, none⟩ = some (.bool false) := x1.cell 0
  have x1f := x1.frozen 0
  have X1 := Lib.hid x1
  clear x1
  cases hc2 : tment ts[j] nm with
  | false =>
   have HE3 := HE2.out
   rw [hc2, Bool.false_or] at HE3
   have HE4 := Lib.hid HE3
   clear HE2 HE3
   gi_wp2
   exact ⟨k9, HE4.out, hu59, hI⟩
  | true =>
   have HE3 := HE2.out
   rw [hc2, Bool.true_or] at HE3
   have HE4 := Lib.hid HE3
   clear HE2 HE3
   gi_wp2
   have hst : Upd (fun q => q = w.heap.size + 1) w9 (w9.setCell ⟨w.heap.size + 1, 0, none⟩ (.bool true)) := (Upd.refl (fun q => q = w.heap.size + 1) w9).setCell (p := ⟨w.heap.size + 1, 0, none⟩) (.inl rfl) _
   refine ⟨k9.trans (hst.keeps fun q hq => ⟨fun h => ?_, ?_⟩), rfl, HE4.out.symm, X1.out.set 0 _, (hu59.mono fun _ h => h.elim).trans hst, hI⟩
   · subst h
     rcases hq with hq | hq | hq
     · have := hI _ hq; omega
     · omega
     · have := hD _ hq; omega
   · have := hu9.size
     rcases hq with hq | rfl | hq
     · have := hIl _ hq; omega
     · omega
     · have := hDW _ hq; omega
 case done =>
  intro dd I W ⟨he, hu, hI⟩ hdd hle hk _ _
  rw [HXL.out, List.drop_length] at he
  have he2 : X = false := by rw [← he]; rfl
  subst he2
  have w1 := HB1.out.upd hu (fun f => f)
  have v1 : W.cell? ⟨w.heap.size + 1, 0, none⟩ = some (.bool false) := w1.cell 0
  have f1 := w1.frozen 0
  have W1 := Lib.hid w1
  clear w1 he
  gi_wp2
  have hkk : (W.setCell ⟨w.heap.size + 1, 0, none⟩ (.bool false)).heap[dd]? = some (.deferred (some [])) := (Below.heap_setCell _ _ _ _ (by show dd ≠ w.heap.size + 1; omega)).trans hk
  refine ⟨by simp, .inl ⟨_, _, rfl, run_takeDeferred hkk, ?_⟩⟩
  have hfin : Upd (fun q => q = w.heap.size + 1 ∨ q = dd) W ((W.setCell ⟨w.heap.size + 1, 0, none⟩ (.bool false)).putObj dd (.deferred none)) :=
   ((Upd.refl (fun q => q = w.heap.size + 1 ∨ q = dd) W).setCell (p := ⟨w.heap.size + 1, 0, none⟩) (.inl (.inl rfl)) _).putObj (.inl (.inr rfl)) _
  have hc9 : ((W.setCell ⟨w.heap.size + 1, 0, none⟩ (.bool false)).putObj dd (.deferred none)).cell? ⟨w.heap.size + 1, 0, none⟩ = some (.bool false) :=
   (World.cell?_of_block (World.putObj_heap_other (by show w.heap.size + 1 ≠ dd; omega))).trans ((W1.out.set 0 _).cell 0)
  refine ⟨.bool false, results_cell1 rfl _ _ (w.heap.size + 1) _ _ rfl hc9 Try.underlying4 rfl, rfl, ?_⟩
  exact ((huW5.trans hu).trans' hfin (fun q hq h => by omega)).below
 case stop =>
  intro dd c I W ⟨hc, he, hb, hu, hI⟩ hdd hle hk _ _
  subst hc he
  gi_wp2
  refine ⟨by simp, .inl ⟨_, _, rfl, run_takeDeferred hk, ?_⟩⟩
  have hfin : Upd (fun q => q = dd) W (W.putObj dd (.deferred none)) := (Upd.refl (fun q => q = dd) W).putObj (.inl rfl) _
  have hc9 : (W.putObj dd (.deferred none)).cell? ⟨w.heap.size + 1, 0, none⟩ = some (.bool true) :=
   (World.cell?_of_block (World.putObj_heap_other (by show w.heap.size + 1 ≠ dd; omega))).trans (hb.cell 0)
  refine ⟨.bool true, results_cell1 rfl _ _ (w.heap.size + 1) _ _ rfl hc9 Try.underlying4 rfl, rfl, ?_⟩
  exact ((huW5.trans' hu (fun q hq h => by omega)).trans' hfin (fun q hq h => by omega)).below
end Go.Proofs.Ytiampoebdmflgaa

/- slices.EqualFunc of levels, by level.Equal. -/
namespace Go.Proofs.Ytiampoebdmflgaa
open Go.RowKit
set_option linter.unusedVariables false
set_option maxRecDepth 100000
set_option maxHeartbeats 4000000
set_option linter.unusedSimpArgs false
def leqs : List Lv → List Lv → Bool
 | [], [] => true
 | a :: us, b :: vs => leq a b && leqs us vs
 | _, _ => false
theorem leqs_len : ∀ {us vs : List Lv}, us.length ≠ vs.length → leqs us vs = false
 | [], [], h => absurd rfl h
 | [], _ :: _, _ => rfl
 | _ :: _, [], _ => rfl
 | a :: us, b :: vs, h => by rw [leqs, leqs_len (by simpa using h), Bool.and_false]
theorem leqs_step {us vs : List Lv} {j : Nat} (h1 : j < us.length) (h2 : j < vs.length) : leqs (us.drop j) (vs.drop j) = (leq us[j] vs[j] && leqs (us.drop (j + 1)) (vs.drop (j + 1))) := by
 rw [List.drop_eq_getElem_cons h1, List.drop_eq_getElem_cons h2, leqs]
theorem leqs_end {us vs : List Lv} {j : Nat} (h1 : us.length ≤ j) (h2 : vs.length ≤ j) : leqs (us.drop j) (vs.drop j) = true := by
 rw [List.drop_eq_nil_of_le h1, List.drop_eq_nil_of_le h2, leqs]
theorem leqf_any (la lb : List Lv) (A : Option Addr) (c : Nat) (B : Option Addr) (cb : Nat) (D : Nat → Prop) (w : World) (hD : Within D w) (hla : la.length * 40 ≤ 140737488351232 ∧ la.length ≤ c) (ha : LvsAt D w la A 0) (hlb : lb.length * 40 ≤ 140737488351232 ∧ lb.length ≤ cb) (hb : LvsAt D w lb B 0) :
    Calls Try.prog 108 #[.slice A la.length c, .slice B lb.length cb, .func (.func 107) #[] #[]] w fun e w' => e = .returned (.bool (leqs la lb)) ∧ Below w.heap.size w w' := by
 have hz := lv_zero
 obtain ⟨X, hX⟩ : ∃ X, leqs la lb = X := ⟨_, rfl⟩
 rw [hX]
 have HX := Lib.hid hX; clear hX
 by_cases hne : la.length = lb.length
 · obtain ⟨m, hm⟩ : ∃ m, la.length = m := ⟨_, rfl⟩
   have hm2 : lb.length = m := by omega
   have HM := Lib.hid hm
   have HM2 := Lib.hid hm2
   rw [hm] at hla ⊢
   rw [hm2] at hlb ⊢
   clear hne hm hm2
   go_enter Try.func108, Try.ntmps108
   go_wp2_with fail
   go_loopg [17] m (fun k v wr => ∃ j : Nat, j + k = m ∧ v = .int .i64 j ∧ leqs (la.drop j) (lb.drop j) = X ∧ Upd nob w wr)
   case atStart => exact ⟨0, by omega, rfl, by rw [List.drop_zero, List.drop_zero]; exact HX.out, Upd.refl _ _⟩
   case round =>
    obtain ⟨j, hj, rfl, hx, hu⟩ := hrel
    clear HX
    rcases Nat.eq_zero_or_pos gk with hk0 | hk0
    · have t2 : decide ((j : Int) < m) = false := by simp; omega
      have hx2 : X = true := by rw [← hx]; exact leqs_end (by rw [HM.out]; omega) (by rw [HM2.out]; omega)
      subst hx2
      clear hx
      go_wp2_with fail
      go_ret
      exact ⟨rfl, hu.below⟩
    · have hjm : j < m := by omega
      have t2 : decide ((j : Int) < m) = true := by simp [hjm]
      have hj1 : j < la.length := by rw [HM.out]; exact hjm
      have hj2 : j < lb.length := by rw [HM2.out]; exact hjm
      rw [leqs_step hj1 hj2] at hx
      obtain ⟨a, cs1, hA, hab, hr1, hl1⟩ := ha.at_ (List.getElem?_eq_getElem hj1)
      obtain ⟨b, cs2, hB, hbb, hr2, hl2⟩ := hb.at_ (List.getElem?_eq_getElem hj2)
      have ho := hD.old hu
      have r1 := hr1.old ho (by rw [Addr_add_block]; exact hab)
      have r2 := hr2.old ho (by rw [Addr_add_block]; exact hbb)
      have k1 := hl1.old ho (fun _ h => h)
      have k2 := hl2.old ho (fun _ h => h)
      rw [Nat.zero_add] at r1 r2
      obtain ⟨x1, x2, x3, x4, x5, rfl⟩ := k1.lit3
      obtain ⟨y1, y2, y3, y4, y5, rfl⟩ := k2.lit3
      have r2b := r2
      obtain ⟨W1, hW1⟩ : ∃ W1, wr.alloc (.cells #[.int .i64 x1, .int .i64 x2, .slice x3 x4 x5] 24) = W1 := ⟨_, rfl⟩
      have huW1 : Upd nob wr W1 := by rw [← hW1]; exact (Upd.refl nob wr).alloc _
      have hDW1 := (hD.up hu).up huW1
      have r2c : rowAt (wr.alloc (.cells #[.int .i64 x1, .int .i64 x2, .slice x3 x4 x5] 24)) (b.add (j * 3)) #[.int .i64 y1, .int .i64 y2, .slice y3 y4 y5] := r2.old ((hD.up hu).old ((Upd.refl nob wr).alloc _)) (by rw [Addr_add_block]; exact hbb)
      have HX := Lib.hid hx
      have HA := Lib.hid hA
      have HB := Lib.hid hB
      clear hx hA hB hr1 hr2 hl1 hl2 hW1 r2 r2b huW1 hDW1
      have hp : ∀ Wx, Upd nob wr Wx → Calls Try.prog 107 #[.agg #[.int .i64 x1, .int .i64 x2, .slice x3 x4 x5], .agg #[.int .i64 y1, .int .i64 y2, .slice y3 y4 y5]] Wx fun e w' => e = .returned (.bool (leq la[j] lb[j])) ∧ Below Wx.heap.size Wx w' := fun Wx hux =>
       lequal_any _ _ _ _ D Wx ((hD.up hu).up hux) (k1.old ((hD.up hu).old hux) (fun _ h => h)) (k2.old ((hD.up hu).old hux) (fun _ h => h))
      have HP := Lib.hid hp
      clear hp
      go_wp2_with (first
                  | ((with_reducible refine this_op (.indexAddr 22 (.tmp 15) (.tmp 17)) ?_); refine wpList_index_at rfl 22 (.tmp 15) (.tmp 17) rfl _ a _ _ rfl HA.out j rfl hjm 24 Try.underlying22 3 lv_size ?_)
                  | ((with_reducible refine this_op (.load 24 (.tmp 20)) ?_); refine wpList_at rfl 24 (.tmp 20) rfl (a.add (j * 3)) rfl _ _ r1 Try.underlying24 rfl lv_size ?_)
                  | ((with_reducible refine this_op (.indexAddr 22 (.tmp 22) (.tmp 23)) ?_); refine wpList_index_at rfl 22 (.tmp 22) (.tmp 23) rfl _ b _ _ rfl HB.out j rfl hjm 24 Try.underlying22 3 lv_size ?_)
                  | ((with_reducible refine this_op (.load 24 (.tmp 24)) ?_); refine wpList_at rfl 24 (.tmp 24) rfl (b.add (j * 3)) rfl _ _ r2c Try.underlying24 rfl lv_size ?_))
      refine (HP.out _ (((Upd.refl nob wr).alloc _).alloc _)).mono ?_
      rintro e w3 ⟨rfl, hb3⟩
      have hu3 : Upd nob w w3 := (hu.trans (((Upd.refl nob wr).alloc _).alloc _)).trans (Upd.of_below hb3)
      have hx := HX.out
      obtain ⟨q, hq⟩ : ∃ q, leq la[j] lb[j] = q := ⟨_, rfl⟩
      rw [hq] at hx ⊢
      clear hq HX HP
      cases q with
      | true =>
       rw [Bool.true_and] at hx
       have HX := Lib.hid hx; clear hx
       go_wp2_with fail
       go_roundg (gk - 1)
       case measure => omega
       case rel => exact ⟨j + 1, by omega, by simp, HX.out, hu3⟩
      | false =>
       rw [Bool.false_and] at hx
       subst hx
       go_wp2_with fail
       go_ret
       exact ⟨rfl, hu3.below⟩
 · have hx : X = false := by rw [← HX.out]; exact leqs_len hne
   have t1 : ((la.length : Int) != lb.length) = true := by simp; omega
   obtain ⟨m, hm⟩ : ∃ m, la.length = m := ⟨_, rfl⟩
   obtain ⟨m2, hm2⟩ : ∃ m, lb.length = m := ⟨_, rfl⟩
   rw [hm, hm2] at t1 ⊢
   rw [hx]
   clear hne hm hm2
   go_enter Try.func108, Try.ntmps108
   go_wp2
   go_ret
   exact ⟨rfl, (Upd.refl nob w).below⟩
end Go.Proofs.Ytiampoebdmflgaa

/- term.same. -/
namespace Go.Proofs.Ytiampoebdmflgaa
open Go.RowKit
set_option linter.unusedVariables false
set_option maxRecDepth 100000
set_option maxHeartbeats 4000000
set_option linter.unusedSimpArgs false
mutual
def tsame : Tm → Tm → Bool
 | .mk k n nm lv ls ks, b =>
  if k ≠ b.k ∨ (Tm.mk k n nm lv ls ks).leaf ≠ b.leaf then false
  else if k = 1 then n == b.n else if k = 2 then leq lv b.lv else if k = 7 then (nm.toList == b.nm.toList && leqs ls b.ls)
  else if (Tm.mk k n nm lv ls ks).leaf = true then true else tsames (tar k).toNat ks b.ks
def tsames : Nat → List Tm → List Tm → Bool
 | 0, _, _ => true
 | m + 1, a :: as_, b :: bs => tsame a b && tsames m as_ bs
 | _ + 1, _, _ => true
end
theorem tsame_eq {k n : Int} {nm : ByteArray} {lv : Lv} {ls : List Lv} {ks : List Tm} {b : Tm} (h : k = b.k) (hl : (Tm.mk k n nm lv ls ks).leaf = b.leaf) :
    tsame (.mk k n nm lv ls ks) b = if k = 1 then n == b.n else if k = 2 then leq lv b.lv else if k = 7 then (nm.toList == b.nm.toList && leqs ls b.ls) else if (Tm.mk k n nm lv ls ks).leaf = true then true else tsames (tar k).toNat ks b.ks := by
 rw [tsame, if_neg (fun hh => hh.elim (fun h1 => h1 h) (fun h1 => h1 hl))]
theorem tsame_any (a : Tm) : ∀ (b : Tm) (ca cb : Array Value) (D : Nat → Prop) (w : World), Within D w → TmIs D w a ca → TmIs D w b cb →
    Calls Try.prog 81 #[.agg ca, .agg cb] w fun e w' => e = .returned (.bool (tsame a b)) ∧ Below w.heap.size w w' := by
 induction a using Tm.ind with
 | h ka na nma lva lsa ksa ih =>
  intro b ca cb D w hD ha hb
  obtain ⟨kb, nb, nmb, lvb, lsb, ksb⟩ := b
  have ha0 := Lib.hid ha
  have hb0 := Lib.hid hb
  obtain ⟨xa, ya, za, Aa, c_a, Aa', c_a', rfl, hka, hna, hnma, hlva, hls1a, hlsa, hks1a, hksa⟩ := ha.lit
  obtain ⟨xb, yb, zb, Ab, c_b, Ab', c_b', rfl, hkb, hnb, hnmb, hlvb, hls1b, hlsb, hks1b, hksb⟩ := hb.lit
  simp only [Tm.k, Tm.n, Tm.nm, Tm.lv, Tm.ls, Tm.ks] at ha0 hb0 hka hna hnma hlva hls1a hlsa hks1a hksa hkb hnb hnmb hlvb hls1b hlsb hks1b hksb ⊢
  clear ha hb
  obtain ⟨X, hX⟩ : ∃ X, tsame (.mk ka na nma lva lsa ksa) (.mk kb nb nmb lvb lsb ksb) = X := ⟨_, rfl⟩
  rw [hX]
  have HX := Lib.hid hX; clear hX
  obtain ⟨W1, hW1⟩ : ∃ W1, (w.alloc (.cells #[.int .i64 ka, .int .i64 na, .string nma, xa, ya, za, .slice Aa lsa.length c_a, .slice Aa' ksa.length c_a'] 27)).alloc (.cells #[.int .i64 kb, .int .i64 nb, .string nmb, xb, yb, zb, .slice Ab lsb.length c_b, .slice Ab' ksb.length c_b'] 27) = W1 := ⟨_, rfl⟩
  have huW1 : Upd nob w W1 := by rw [← hW1]; exact ((Upd.refl nob w).alloc _).alloc _
  have hsW1 : W1.heap.size = w.heap.size + 2 := by rw [← hW1]; simp
  have b0 : Blk W1 (w.heap.size) 27 #[.int .i64 ka, .int .i64 na, .string nma, xa, ya, za, .slice Aa lsa.length c_a, .slice Aa' ksa.length c_a'] := by
   rw [← hW1]
   have h := Blk.new (w) 27 #[.int .i64 ka, .int .i64 na, .string nma, xa, ya, za, .slice Aa lsa.length c_a, .slice Aa' ksa.length c_a']
   exact h.alloc _
  have b1 : Blk W1 (w.heap.size + 1) 27 #[.int .i64 kb, .int .i64 nb, .string nmb, xb, yb, zb, .slice Ab lsb.length c_b, .slice Ab' ksb.length c_b'] := by
   rw [← hW1]
   have h := Blk.new (w.alloc (.cells #[.int .i64 ka, .int .i64 na, .string nma, xa, ya, za, .slice Aa lsa.length c_a, .slice Aa' ksa.length c_a'] 27)) 27 #[.int .i64 kb, .int .i64 nb, .string nmb, xb, yb, zb, .slice Ab lsb.length c_b, .slice Ab' ksb.length c_b']
   rw [World.size_alloc] at h
   exact h
  have HW1 := Lib.hid hW1
  have B0 := Lib.hid b0
  have B1 := Lib.hid b1
  have hDW := hD.up huW1
  have ha1 := Lib.hid (ha0.out.old (hD.old huW1) (fun _ h => h))
  have hb1 := Lib.hid (hb0.out.old (hD.old huW1) (fun _ h => h))
  have q0 : W1.cell? ⟨w.heap.size, 0, none⟩ = some (.int .i64 ka) := b0.cell 0
  have q1 : W1.cell? ⟨w.heap.size + 1, 0, none⟩ = some (.int .i64 kb) := b1.cell 0
  have r0 := b0.rowAt
  have r1 := b1.rowAt
  clear hW1 b0 b1
  go_enter Try.func81, Try.ntmps81
  go_wp2_with fail
  rw [HW1.out]
  by_cases hkk : ka = kb
  · subst hkk
    have t1 : (ka != ka) = false := by simp
    refine wp_region_P (by kernel_rfl) ?_
    refine wpAny_of_E (fun X : World => ∀ p : Addr, p.block < W1.heap.size → X.cell? p = W1.cell? p) 11 _ _ _ _ ?_
    have hS : ∀ p : Addr, p.block < W1.heap.size → W1.drew.cell? p = W1.cell? p := fun _ _ => rfl
    refine wpAnyE_take (i := 0) (v := ?_) [5, 4, 1] rfl (by kernel_rfl) (fun _ _ _ h => h) (Or.inl ⟨by rfl, ?_⟩) hS ?_
    rotate_left
    · intro wx hx
      clear hx
      go_simp
      with_reducible rfl
    try simp only [tl]
    refine wpAnyE_take (i := 1) (v := ?_) [5, 4] rfl (by kernel_rfl) (fun _ _ _ h => h) (Or.inl ⟨by rfl, ?_⟩) hS ?_
    rotate_left
    · intro wx hx
      have q0 := (hx ⟨w.heap.size, 0, none⟩ (by show w.heap.size < _; omega)).trans q0
      clear hx
      go_simp
      with_reducible rfl
    try simp only [tl]
    refine wpAnyE_take (i := 2) (v := ?_) [5, 4, 3] rfl (by kernel_rfl) (fun _ _ _ h => h) (Or.inl ⟨by rfl, ?_⟩) hS ?_
    rotate_left
    · intro wx hx
      clear hx
      go_simp
      with_reducible rfl
    try simp only [tl]
    refine wpAnyE_take (i := 3) (v := ?_) [5, 4] rfl (by kernel_rfl) (fun _ _ _ h => h) (Or.inl ⟨by rfl, ?_⟩) hS ?_
    rotate_left
    · intro wx hx
      have q0 := (hx ⟨w.heap.size + 1, 0, none⟩ (by show w.heap.size + 1 < _; omega)).trans q1
      clear hx
      go_simp
      with_reducible rfl
    try simp only [tl]
    refine wpAnyE_take (i := 4) (v := ?_) [5] rfl (by kernel_rfl) (fun _ _ _ h => h) (Or.inl ⟨by rfl, ?_⟩) hS ?_
    rotate_left
    · intro wx hx
      clear hx
      go_simp
      with_reducible rfl
    try simp only [tl]
    refine wpAnyE_take (i := 5) (v := ?_) [] rfl (by kernel_rfl) (fun _ _ _ h => h) (Or.inl ⟨by rfl, ?_⟩) hS ?_
    rotate_left
    · intro wx hx
      clear hx
      go_simp
      with_reducible rfl
    try simp only [tl]
    refine wpAnyE_take (i := 6) (v := (.agg #[.int .i64 ka, .int .i64 na, .string nma, xa, ya, za, .slice Aa lsa.length c_a, .slice Aa' ksa.length c_a'])) [10, 7] rfl (by kernel_rfl) (fun _ _ _ h => h) (Or.inl ⟨by rfl, ?_⟩) hS ?_
    · intro wx hx
      exact run_load_at 27 (.tmp 2) rfl ⟨w.heap.size, 0, none⟩ rfl #[.int .i64 ka, .int .i64 na, .string nma, xa, ya, za, .slice Aa lsa.length c_a, .slice Aa' ksa.length c_a'] _ (row_on r0 (by show w.heap.size < _; omega) hx) Try.underlying27 rfl tm_size
    try simp only [tl]
    refine wpAnyE_take (i := 8) (v := (.agg #[.int .i64 ka, .int .i64 nb, .string nmb, xb, yb, zb, .slice Ab lsb.length c_b, .slice Ab' ksb.length c_b'])) [10, 9] rfl (by kernel_rfl) (fun _ _ _ h => h) (Or.inl ⟨by rfl, ?_⟩) hS ?_
    · intro wx hx
      exact run_load_at 27 (.tmp 3) rfl ⟨w.heap.size + 1, 0, none⟩ rfl #[.int .i64 ka, .int .i64 nb, .string nmb, xb, yb, zb, .slice Ab lsb.length c_b, .slice Ab' ksb.length c_b'] _ (row_on r1 (by show w.heap.size + 1 < _; omega) hx) Try.underlying27 rfl tm_size
    try simp only [tl]
    refine wpAnyE_one (i := 7) (by kernel_rfl) (by kernel_rfl) rfl (by rfl) fun K hK => ?_
    go_simp
    refine (tleaf_any _ _ D W1.drew ha1.out.drew).mono ?_
    rintro e w3 ⟨rfl, hb3⟩
    have hu3 : Upd nob W1 w3 := ((Upd.refl nob W1).drew).trans (Upd.of_below hb3)
    refine hK _ _ (cells_of_upd hu3) ?_
    clear hK K
    try simp only [tl]
    refine wpAnyE_one (i := 9) (by kernel_rfl) (by kernel_rfl) rfl (by rfl) fun K hK => ?_
    go_simp
    refine (tleaf_any _ _ D w3 (hb1.out.old (hDW.old hu3) (fun _ h => h))).mono ?_
    rintro e w4 ⟨rfl, hb4⟩
    have hu4 : Upd nob W1 w4 := hu3.trans (Upd.of_below hb4)
    refine hK _ _ (cells_of_upd hu4) ?_
    clear hK K
    try simp only [tl]
    obtain ⟨la, hla⟩ : ∃ x, (Tm.mk ka na nma lva lsa ksa).leaf = x := ⟨_, rfl⟩
    obtain ⟨lb, hlb⟩ : ∃ x, (Tm.mk ka nb nmb lvb lsb ksb).leaf = x := ⟨_, rfl⟩
    rw [hla, hlb]
    have HLA := Lib.hid hla
    have HLB := Lib.hid hlb
    clear hla hlb
    refine wpAnyE_one (i := 10) (by kernel_rfl) (by kernel_rfl) rfl (by rfl) fun K hK => ?_
    go_simp
    refine hK _ _ (cells_of_upd hu4) ?_
    clear hK K
    try simp only [tl]
    refine wpAnyE_z (by kernel_rfl) rfl (by rfl) fun K hK => ?_
    go_simp
    refine hK _ _ ?_
    clear hK K
    try simp only [tl]
    refine wpAny_done (by kernel_rfl) ?_ _
    refine NoPanic.normal ?_
    have hu9 : Upd nob w w4 := huW1.trans hu4
    have C0 := B0.out.upd hu4 (fun f => f)
    have C1 := B1.out.upd hu4 (fun f => f)
    have p00 : w4.cell? ⟨w.heap.size, 0, none⟩ = some (.int .i64 ka) := C0.cell 0
    have p01 : w4.cell? ⟨w.heap.size, 1, none⟩ = some (.int .i64 na) := C0.cell 1
    have p02 : w4.cell? ⟨w.heap.size, 2, none⟩ = some (.string nma) := C0.cell 2
    have p06 : w4.cell? ⟨w.heap.size, 6, none⟩ = some (.slice Aa lsa.length c_a) := C0.cell 6
    have p07 : w4.cell? ⟨w.heap.size, 7, none⟩ = some (.slice Aa' ksa.length c_a') := C0.cell 7
    have p10 : w4.cell? ⟨w.heap.size + 1, 0, none⟩ = some (.int .i64 ka) := C1.cell 0
    have p11 : w4.cell? ⟨w.heap.size + 1, 1, none⟩ = some (.int .i64 nb) := C1.cell 1
    have p12 : w4.cell? ⟨w.heap.size + 1, 2, none⟩ = some (.string nmb) := C1.cell 2
    have p16 : w4.cell? ⟨w.heap.size + 1, 6, none⟩ = some (.slice Ab lsb.length c_b) := C1.cell 6
    have p17 : w4.cell? ⟨w.heap.size + 1, 7, none⟩ = some (.slice Ab' ksb.length c_b') := C1.cell 7
    have v0 := C0.rowAt
    have u0 := sub_row C0.rowAt 3 #[xa, ya, za] (fun j v hv => by rcases j with _ | _ | _ | j <;> simp at hv ⊢ <;> exact hv)
    have u1 := sub_row C1.rowAt 3 #[xb, yb, zb] (fun j v hv => by rcases j with _ | _ | _ | j <;> simp at hv ⊢ <;> exact hv)
    have hD4 := hD.up hu9
    have hlv4a := hlva.old (hD.old hu9) (fun _ h => h)
    have hlv4b := hlvb.old (hD.old hu9) (fun _ h => h)
    have hls4a := hlsa.old (hD.old hu9) (fun _ h => h)
    have hls4b := hlsb.old (hD.old hu9) (fun _ h => h)
    have ha4 := Lib.hid (ha0.out.old (hD.old hu9) (fun _ h => h))
    have hb4' := Lib.hid (hb0.out.old (hD.old hu9) (fun _ h => h))
    clear q0 q1 r0 r1 C0 C1 hS
    by_cases hll : la = lb
    · subst hll
      have hXX : X = if ka = 1 then na == nb else if ka = 2 then leq lva lvb else if ka = 7 then (nma.toList == nmb.toList && leqs lsa lsb) else if (Tm.mk ka na nma lva lsa ksa).leaf = true then true else tsames (tar ka).toNat ksa ksb :=
       HX.out.symm.trans (tsame_eq (b := .mk ka nb nmb lvb lsb ksb) rfl (by rw [HLA.out, HLB.out]))
      clear HX
      have t3 : (!la == la) = false := by cases la <;> rfl
      rw [t3]
      by_cases hk1 : ka = 1
      · subst hk1
        have hx : X = (na == nb) := by rw [hXX, if_pos rfl]
        clear hXX
        subst hx
        go_wp2_with fail
        go_ret
        exact ⟨rfl, hu9.below⟩
      by_cases hk2 : ka = 2
      · subst hk2
        have hx : X = leq lva lvb := by rw [hXX, if_neg (by decide), if_pos rfl]
        clear hXX
        subst hx
        go_wp2_with (first
                      | ((with_reducible refine this_op (.load 24 (.tmp 29)) ?_); refine wpList_at rfl 24 (.tmp 29) rfl ⟨w.heap.size, 3, none⟩ rfl _ _ u0 Try.underlying24 rfl lv_size ?_)
                      | ((with_reducible refine this_op (.load 24 (.tmp 31)) ?_); refine wpList_at rfl 24 (.tmp 31) rfl ⟨w.heap.size + 1, 3, none⟩ rfl _ _ u1 Try.underlying24 rfl lv_size ?_))
        refine (lequal_any _ _ _ _ D w4 hD4 hlv4a hlv4b).mono ?_
        rintro e w5 ⟨rfl, hb5⟩
        have hu5 : Upd nob w w5 := hu9.trans (Upd.of_below hb5)
        go_wp2_with fail
        go_ret
        exact ⟨rfl, hu5.below⟩
      by_cases hk7 : ka = 7
      · subst hk7
        have hx : X = (nma.toList == nmb.toList && leqs lsa lsb) := by rw [hXX, if_neg (by decide), if_neg (by decide), if_pos rfl]
        clear hXX
        obtain ⟨q, hq⟩ : ∃ q, (nma.toList == nmb.toList) = q := ⟨_, rfl⟩
        obtain ⟨q2, hq2⟩ : ∃ q2, leqs lsa lsb = q2 := ⟨_, rfl⟩
        rw [hq, hq2] at hx
        have HQ2 := Lib.hid hq2
        subst hx
        clear hq2
        cases q with
        | false =>
         go_wp2_with fail
         go_ret
         exact ⟨rfl, hu9.below⟩
        | true =>
         go_wp2_with fail
         refine (leqf_any lsa lsb Aa c_a Ab c_b D w4 hD4 hls1a hls4a hls1b hls4b).mono ?_
         rintro e w5 ⟨rfl, hb5⟩
         have hu5 : Upd nob w w5 := hu9.trans (Upd.of_below hb5)
         rw [HQ2.out]
         clear HQ2
         cases q2 <;> (go_wp2_with fail; go_ret; exact ⟨rfl, hu5.below⟩)
      · have e1 : (ka == 1) = false := by simpa using hk1
        have e2 : (ka == 2) = false := by simpa using hk2
        have e7 : (ka == 7) = false := by simpa using hk7
        have hx : X = if la = true then true else tsames (tar ka).toNat ksa ksb := by rw [hXX, if_neg hk1, if_neg hk2, if_neg hk7, HLA.out]
        clear hXX
        have HK := Lib.hid (And.intro hk1 (And.intro hk2 hk7))
        clear hk1 hk2 hk7
        have HX := Lib.hid hx; clear hx
        go_wp2_with (first
                      | ((with_reducible refine this_op (.load 27 (.tmp 2)) ?_); refine wpList_at rfl 27 (.tmp 2) rfl ⟨w.heap.size, 0, none⟩ rfl _ _ v0 Try.underlying27 rfl tm_size ?_))
        refine (tleaf_any _ _ D w4 ha4.out).mono ?_
        rintro e w5 ⟨rfl, hb5⟩
        have hu5 : Upd nob w w5 := hu9.trans (Upd.of_below hb5)
        rw [HLA.out]
        cases la with
        | true =>
         have hx : X = true := by rw [HX.out, if_pos rfl]
         clear HX
         subst hx
         go_wp2_with fail
         go_ret
         exact ⟨rfl, hu5.below⟩
        | false =>
         have hx : X = tsames (tar ka).toNat ksa ksb := by rw [HX.out, if_neg (by decide)]
         clear HX
         have h1 : (decide (tar ka < 1) || decide ((ksa.length : Int) < tar ka)) = false := HLA.out
         have h2 : (decide (tar ka < 1) || decide ((ksb.length : Int) < tar ka)) = false := HLB.out
         simp only [Bool.or_eq_false_iff, decide_eq_false_iff_not] at h1 h2
         have hta := tarity_any ka
         obtain ⟨m, hm⟩ : ∃ m : Nat, tar ka = m := ⟨(tar ka).toNat, by omega⟩
         have htl := tar_le ka
         rw [hm] at hx h1 h2 hta htl
         have hm1 : m ≤ ksa.length := by omega
         have hm2 : m ≤ ksb.length := by omega
         have hm3 : m ≤ 3 := by omega
         have hmn : ((m : Int)).toNat = m := by omega
         rw [hmn] at hx
         have HX := Lib.hid hx
         have huV : Upd nob W1 w5 := hu4.trans (Upd.of_below hb5)
         have p00 : w5.cell? ⟨w.heap.size, 0, none⟩ = some (.int .i64 ka) := (B0.out.upd huV (fun f => f)).cell 0
         clear h1 h2 hm hx htl hmn
         go_wp2_with fail
         refine (hta w5).mono ?_
         rintro e w6 ⟨rfl, rfl⟩
         clear hta
         go_wp2_with fail
         go_loopg [53] m (fun q v wr => ∃ j : Nat, j + q = m ∧ v = .int .i64 j ∧ tsames (m - j) (ksa.drop j) (ksb.drop j) = X ∧ Upd nob W1 wr)
         case atStart => exact ⟨0, by omega, rfl, by rw [List.drop_zero, List.drop_zero, Nat.sub_zero]; exact HX.out.symm, huV⟩
         case round =>
          clear HX p00
          obtain ⟨j, hj, rfl, hx, hur⟩ := hrel
          rcases Nat.eq_zero_or_pos gk with hk0 | hk0
          · have t2 : decide ((j : Int) < m) = false := by simp; omega
            rw [show m - j = 0 by omega, tsames] at hx
            subst hx
            go_wp2_with fail
            go_ret
            exact ⟨rfl, (huW1.trans hur).below⟩
          · have hjm : j < m := by omega
            have t2 : decide ((j : Int) < m) = true := by simp [hjm]
            have hj1 : j < ksa.length := by omega
            have hj2 : j < ksb.length := by omega
            rw [show m - j = (m - (j + 1)) + 1 by omega, List.drop_eq_getElem_cons hj1, List.drop_eq_getElem_cons hj2, tsames] at hx
            have huwr := huW1.trans hur
            obtain ⟨a, cs1, hA, hab, hr1, hl1⟩ := hksa.at_ (List.getElem?_eq_getElem hj1)
            obtain ⟨b, cs2, hB, hbb, hr2, hl2⟩ := hksb.at_ (List.getElem?_eq_getElem hj2)
            have ho := hD.old huwr
            have r1 := hr1.old ho (by rw [Addr_add_block]; exact hab)
            have r2 := hr2.old ho (by rw [Addr_add_block]; exact hbb)
            have k1 := hl1.old ho (fun _ h => h)
            have k2 := hl2.old ho (fun _ h => h)
            rw [Nat.zero_add] at r1 r2
            have hs1 : (Try.prog.info? 27).map (·.size) = some cs1.size := by rw [k1.oneCell.1]; exact tm_size
            have hs2 : (Try.prog.info? 27).map (·.size) = some cs2.size := by rw [k2.oneCell.1]; exact tm_size
            have p07 : wr.cell? ⟨w.heap.size, 7, none⟩ = some (.slice Aa' ksa.length c_a') := (B0.out.upd hur (fun f => f)).cell 7
            have p17 : wr.cell? ⟨w.heap.size + 1, 7, none⟩ = some (.slice Ab' ksb.length c_b') := (B1.out.upd hur (fun f => f)).cell 7
            have hba := hD _ hab
            have hbb' := hD _ hbb
            have hwz := huwr.size
            have hsw := hur.size
            have HX := Lib.hid hx
            have HA := Lib.hid hA
            have HB := Lib.hid hB
            have hDr := hD.up huwr
            have hmem : ksa[j] ∈ ksa := List.getElem_mem hj1
            clear hx hA hB hr1 hr2 hl1 hl2
            go_wp2_with fail
            refine wp_region_P (by kernel_rfl) ?_
            refine wpAny_of_E (fun X : World => ∀ p : Addr, p.block < wr.heap.size → X.cell? p = wr.cell? p) 10 _ _ _ _ ?_
            have hS : ∀ p : Addr, p.block < wr.heap.size → wr.drew.cell? p = wr.cell? p := fun _ _ => rfl
            refine wpAnyE_take (i := 0) (v := ?_) [4, 3, 1] rfl (by kernel_rfl) (fun _ _ _ h => h) (Or.inl ⟨by rfl, ?_⟩) hS ?_
            rotate_left
            · intro wx hx
              clear hx
              go_simp
              with_reducible rfl
            try simp only [tl]
            refine wpAnyE_take (i := 1) (v := ?_) [4, 3] rfl (by kernel_rfl) (fun _ _ _ h => h) (Or.inl ⟨by rfl, ?_⟩) hS ?_
            rotate_left
            · intro wx hx
              have q0 := (hx ⟨w.heap.size, 7, none⟩ (by show w.heap.size < _; omega)).trans p07
              clear hx
              go_simp
              with_reducible rfl
            try simp only [tl]
            refine wpAnyE_take (i := 2) (v := ?_) [4, 3] rfl (by kernel_rfl) (fun _ _ _ h => h) (Or.inl ⟨by rfl, ?_⟩) hS ?_
            rotate_left
            · intro wx hx
              clear hx
              go_simp
              with_reducible rfl
            try simp only [tl]
            refine wpAnyE_take (i := 3) (v := (.pointer (some (Addr.add a (j * 8))))) [4] rfl (by kernel_rfl) (fun _ _ _ h => h) (Or.inl ⟨by rfl, ?_⟩) hS ?_
            · intro wx hx
              exact run_index_at 25 (.tmp 57) (.tmp 58) rfl _ a _ _ rfl HA.out j rfl hj1 27 Try.underlying25 8 tm_size
            try simp only [tl]
            refine wpAnyE_take (i := 4) (v := (.agg cs1)) [] rfl (by kernel_rfl) (fun _ _ _ h => h) (Or.inl ⟨by rfl, ?_⟩) hS ?_
            · intro wx hx
              exact run_load_at 27 (.tmp 59) rfl (Addr.add a (j * 8)) rfl cs1 _ (row_on r1 (by rw [Addr_add_block]; omega) hx) Try.underlying27 rfl hs1
            try simp only [tl]
            refine wpAnyE_take (i := 5) (v := ?_) [9, 8, 6] rfl (by kernel_rfl) (fun _ _ _ h => h) (Or.inl ⟨by rfl, ?_⟩) hS ?_
            rotate_left
            · intro wx hx
              clear hx
              go_simp
              with_reducible rfl
            try simp only [tl]
            refine wpAnyE_take (i := 6) (v := ?_) [9, 8] rfl (by kernel_rfl) (fun _ _ _ h => h) (Or.inl ⟨by rfl, ?_⟩) hS ?_
            rotate_left
            · intro wx hx
              have q0 := (hx ⟨w.heap.size + 1, 7, none⟩ (by show w.heap.size + 1 < _; omega)).trans p17
              clear hx
              go_simp
              with_reducible rfl
            try simp only [tl]
            refine wpAnyE_take (i := 7) (v := ?_) [9, 8] rfl (by kernel_rfl) (fun _ _ _ h => h) (Or.inl ⟨by rfl, ?_⟩) hS ?_
            rotate_left
            · intro wx hx
              clear hx
              go_simp
              with_reducible rfl
            try simp only [tl]
            refine wpAnyE_take (i := 8) (v := (.pointer (some (Addr.add b (j * 8))))) [9] rfl (by kernel_rfl) (fun _ _ _ h => h) (Or.inl ⟨by rfl, ?_⟩) hS ?_
            · intro wx hx
              exact run_index_at 25 (.tmp 62) (.tmp 63) rfl _ b _ _ rfl HB.out j rfl hj2 27 Try.underlying25 8 tm_size
            try simp only [tl]
            refine wpAnyE_take (i := 9) (v := (.agg cs2)) [] rfl (by kernel_rfl) (fun _ _ _ h => h) (Or.inl ⟨by rfl, ?_⟩) hS ?_
            · intro wx hx
              exact run_load_at 27 (.tmp 64) rfl (Addr.add b (j * 8)) rfl cs2 _ (row_on r2 (by rw [Addr_add_block]; omega) hx) Try.underlying27 rfl hs2
            try simp only [tl]
            refine wpAnyE_z (by kernel_rfl) rfl (by rfl) fun K hK => ?_
            go_simp
            refine (ih ksa[j] hmem ksb[j] cs1 cs2 D wr.drew hDr.drew k1.drew k2.drew).mono ?_
            rintro e w7 ⟨rfl, hb7⟩
            have hu7 : Upd nob W1 w7 := hur.trans (((Upd.refl nob wr).drew).trans (Upd.of_below hb7))
            obtain ⟨q, hq⟩ : ∃ q, tsame ksa[j] ksb[j] = q := ⟨_, rfl⟩
            rw [hq]
            refine hK _ _ ?_
            clear hK K
            try simp only [tl]
            refine wpAny_one (i := 11) (by kernel_rfl) rfl (by rfl) fun K hK => ?_
            go_simp
            refine hK _ _ ?_
            clear hK K
            try simp only [tl]
            refine wpAny_done (by kernel_rfl) ?_ _
            refine NoPanic.normal ?_
            have hx := HX.out
            rw [hq] at hx
            clear HX hq
            cases q with
            | true =>
             rw [Bool.true_and] at hx
             have HX := Lib.hid hx; clear hx
             go_wp2_with fail
             go_roundg (gk - 1)
             case measure => omega
             case rel => exact ⟨j + 1, by omega, by simp, HX.out, hu7⟩
            | false =>
             rw [Bool.false_and] at hx
             subst hx
             go_wp2_with fail
             go_ret
             exact ⟨rfl, (huW1.trans hu7).below⟩
    · have hx : X = false := by rw [← HX.out, tsame, if_pos (.inr (by rw [HLA.out, HLB.out]; exact hll))]
      have t3 : (!la == lb) = true := by simpa using hll
      rw [t3]
      subst hx
      clear HX
      go_wp2_with fail
      go_ret
      exact ⟨rfl, hu9.below⟩
  · have t1 : (ka != kb) = true := by simpa using hkk
    have hx : X = false := by rw [← HX.out, tsame, if_pos (.inl hkk)]
    subst hx
    clear HX
    refine wp_region_P (by kernel_rfl) ?_
    refine wpAny_of_E (fun X : World => ∀ p : Addr, p.block < W1.heap.size → X.cell? p = W1.cell? p) 11 _ _ _ _ ?_
    have hS : ∀ p : Addr, p.block < W1.heap.size → W1.drew.cell? p = W1.cell? p := fun _ _ => rfl
    refine wpAnyE_take (i := 0) (v := ?_) [5, 4, 1] rfl (by kernel_rfl) (fun _ _ _ h => h) (Or.inl ⟨by rfl, ?_⟩) hS ?_
    rotate_left
    · intro wx hx
      clear hx
      go_simp
      with_reducible rfl
    try simp only [tl]
    refine wpAnyE_take (i := 1) (v := ?_) [5, 4] rfl (by kernel_rfl) (fun _ _ _ h => h) (Or.inl ⟨by rfl, ?_⟩) hS ?_
    rotate_left
    · intro wx hx
      have q0 := (hx ⟨w.heap.size, 0, none⟩ (by show w.heap.size < _; omega)).trans q0
      clear hx
      go_simp
      with_reducible rfl
    try simp only [tl]
    refine wpAnyE_take (i := 2) (v := ?_) [5, 4, 3] rfl (by kernel_rfl) (fun _ _ _ h => h) (Or.inl ⟨by rfl, ?_⟩) hS ?_
    rotate_left
    · intro wx hx
      clear hx
      go_simp
      with_reducible rfl
    try simp only [tl]
    refine wpAnyE_take (i := 3) (v := ?_) [5, 4] rfl (by kernel_rfl) (fun _ _ _ h => h) (Or.inl ⟨by rfl, ?_⟩) hS ?_
    rotate_left
    · intro wx hx
      have q0 := (hx ⟨w.heap.size + 1, 0, none⟩ (by show w.heap.size + 1 < _; omega)).trans q1
      clear hx
      go_simp
      with_reducible rfl
    try simp only [tl]
    refine wpAnyE_take (i := 4) (v := ?_) [5] rfl (by kernel_rfl) (fun _ _ _ h => h) (Or.inl ⟨by rfl, ?_⟩) hS ?_
    rotate_left
    · intro wx hx
      clear hx
      go_simp
      with_reducible rfl
    try simp only [tl]
    refine wpAnyE_take (i := 5) (v := ?_) [] rfl (by kernel_rfl) (fun _ _ _ h => h) (Or.inl ⟨by rfl, ?_⟩) hS ?_
    rotate_left
    · intro wx hx
      clear hx
      go_simp
      with_reducible rfl
    try simp only [tl]
    refine wpAnyE_take (i := 6) (v := undef) [10, 7] rfl (by kernel_rfl) (fun _ _ _ h => h) (Or.inr ⟨by rfl, rfl⟩) hS ?_
    try simp only [tl]
    refine wpAnyE_take (i := 7) (v := undef) [10] rfl (by kernel_rfl) (fun _ _ _ h => h) (Or.inr ⟨by rfl, rfl⟩) hS ?_
    try simp only [tl]
    refine wpAnyE_take (i := 8) (v := undef) [10, 9] rfl (by kernel_rfl) (fun _ _ _ h => h) (Or.inr ⟨by rfl, rfl⟩) hS ?_
    try simp only [tl]
    refine wpAnyE_take (i := 9) (v := undef) [10] rfl (by kernel_rfl) (fun _ _ _ h => h) (Or.inr ⟨by rfl, rfl⟩) hS ?_
    try simp only [tl]
    refine wpAnyE_take (i := 10) (v := undef) [] rfl (by kernel_rfl) (fun _ _ _ h => h) (Or.inr ⟨by rfl, rfl⟩) hS ?_
    try simp only [tl]
    refine wpAnyE_z (by kernel_rfl) rfl (by rfl) fun K hK => ?_
    go_simp
    refine hK _ _ ?_
    clear hK K
    try simp only [tl]
    refine wpAny_done (by kernel_rfl) ?_ _
    refine NoPanic.normal ?_
    go_wp2_with fail
    go_ret
    exact ⟨rfl, below_drewN huW1.below 1⟩
end Go.Proofs.Ytiampoebdmflgaa

/- term.Same. -/
namespace Go.Proofs.Ytiampoebdmflgaa
open Go.RowKit
set_option linter.unusedVariables false
set_option maxRecDepth 100000
set_option maxHeartbeats 4000000
set_option linter.unusedSimpArgs false
def tSame (a b : Tm) : Bool := !tgreat a && (!tgreat b && tsame a b)
theorem tSame_any (a b : Tm) (ca cb : Array Value) (D : Nat → Prop) (w : World) (hD : Within D w) (ha : TmIs D w a ca) (hb : TmIs D w b cb) :
    Calls Try.prog 59 #[.agg ca, .agg cb] w fun e w' => e = .returned (.bool (tSame a b)) ∧ Below w.heap.size w w' := by
 have hsa := ha.oneCell
 have hsb := hb.oneCell
 have hia : (Try.prog.info? 27).map (·.size) = some ca.size := by rw [hsa.1]; exact tm_size
 have hib : (Try.prog.info? 27).map (·.size) = some cb.size := by rw [hsb.1]; exact tm_size
 obtain ⟨xb, yb, zb, Ab, c_b, Ab', c_b', rfl, _, _, _, _, _, _, _, _⟩ := hb.lit
 obtain ⟨X, hX⟩ : ∃ X, tSame a b = X := ⟨_, rfl⟩
 rw [hX]
 have HX := Lib.hid hX; clear hX
 obtain ⟨W1, hW1⟩ : ∃ W1, (w.alloc (.cells ca 27)).alloc (.cells #[.int .i64 b.k, .int .i64 b.n, .string b.nm, xb, yb, zb, .slice Ab b.ls.length c_b, .slice Ab' b.ks.length c_b'] 27) = W1 := ⟨_, rfl⟩
 have huW1 : Upd nob w W1 := by rw [← hW1]; exact ((Upd.refl nob w).alloc _).alloc _
 have hsW1 : W1.heap.size = w.heap.size + 2 := by rw [← hW1]; simp
 have b0 : Blk W1 (w.heap.size) 27 ca := by
  rw [← hW1]
  have h := Blk.new (w) 27 ca
  exact h.alloc _
 have b1 : Blk W1 (w.heap.size + 1) 27 #[.int .i64 b.k, .int .i64 b.n, .string b.nm, xb, yb, zb, .slice Ab b.ls.length c_b, .slice Ab' b.ks.length c_b'] := by
  rw [← hW1]
  have h := Blk.new (w.alloc (.cells ca 27)) 27 #[.int .i64 b.k, .int .i64 b.n, .string b.nm, xb, yb, zb, .slice Ab b.ls.length c_b, .slice Ab' b.ks.length c_b']
  rw [World.size_alloc] at h
  exact h
 have HW1 := Lib.hid hW1
 have B0 := Lib.hid b0
 have B1 := Lib.hid b1
 have r0 := b0.rowAt
 have ha1 := ha.old (hD.old huW1) (fun _ h => h)
 have hb1 := hb.old (hD.old huW1) (fun _ h => h)
 have hD1 := hD.up huW1
 clear hW1 b0 b1
 go_enter Try.func59, Try.ntmps59
 rw [← HW1.out] at r0
 go_wp2_with (first
       | ((with_reducible refine this_op (.load 27 (.tmp 2)) ?_); refine wpList_at rfl 27 (.tmp 2) rfl ⟨w.heap.size, 0, none⟩ rfl _ _ r0 Try.underlying27 rfl hia ?_))
 rw [HW1.out]
 refine (tgreat_any a ca D W1 hD1 ha1).mono ?_
 rintro e w2 ⟨rfl, hb2⟩
 have hu2 : Upd nob W1 w2 := Upd.of_below hb2
 have r1 := (B1.out.upd hu2 (fun f => f)).rowAt
 clear r0
 cases hga : tgreat a with
 | true =>
  have hx : X = false := by rw [← HX.out, tSame, hga]; rfl
  clear HX hga
  subst hx
  go_wp2_with fail
  go_ret
  exact ⟨rfl, (huW1.trans hu2).below⟩
 | false =>
  have hx : X = (!tgreat b && tsame a b) := by rw [← HX.out, tSame, hga]; rfl
  clear HX hga
  have HX := Lib.hid hx; clear hx
  go_wp2_with (first
          | ((with_reducible refine this_op (.load 27 (.tmp 3)) ?_); go_big_want; refine owp_load_at 27 (.tmp 3) rfl ⟨w.heap.size + 1, 0, none⟩ rfl _ _ r1 Try.underlying27 rfl hib ?_))
  refine (tgreat_any b _ D w2 (hD1.up hu2) (hb1.old (hD1.old hu2) (fun _ h => h))).mono ?_
  rintro e w3 ⟨rfl, hb3⟩
  have hu3 : Upd nob W1 w3 := hu2.trans (Upd.of_below hb3)
  have s0 := (B0.out.upd hu3 (fun f => f)).rowAt
  have s1 := (B1.out.upd hu3 (fun f => f)).rowAt
  clear r1
  cases hgb : tgreat b with
  | true =>
   have hx : X = false := by rw [HX.out, hgb]; rfl
   clear HX hgb
   subst hx
   go_wp2_with fail
   go_ret
   exact ⟨rfl, (huW1.trans hu3).below⟩
  | false =>
   have hx : X = tsame a b := by rw [HX.out, hgb]; rfl
   clear HX hgb
   have HX := Lib.hid hx; clear hx
   have p0 : w3.cell? ⟨w.heap.size + 1, 0, none⟩ = some (.int .i64 b.k) := (B1.out.upd hu3 (fun f => f)).cell 0
   have p1 : w3.cell? ⟨w.heap.size + 1, 1, none⟩ = some (.int .i64 b.n) := (B1.out.upd hu3 (fun f => f)).cell 1
   have p2 : w3.cell? ⟨w.heap.size + 1, 2, none⟩ = some (.string b.nm) := (B1.out.upd hu3 (fun f => f)).cell 2
   have p3 : w3.cell? ⟨w.heap.size + 1, 3, none⟩ = some (xb) := (B1.out.upd hu3 (fun f => f)).cell 3
   have p4 : w3.cell? ⟨w.heap.size + 1, 4, none⟩ = some (yb) := (B1.out.upd hu3 (fun f => f)).cell 4
   have p5 : w3.cell? ⟨w.heap.size + 1, 5, none⟩ = some (zb) := (B1.out.upd hu3 (fun f => f)).cell 5
   have p6 : w3.cell? ⟨w.heap.size + 1, 6, none⟩ = some (.slice Ab b.ls.length c_b) := (B1.out.upd hu3 (fun f => f)).cell 6
   have p7 : w3.cell? ⟨w.heap.size + 1, 7, none⟩ = some (.slice Ab' b.ks.length c_b') := (B1.out.upd hu3 (fun f => f)).cell 7
   go_wp2_with (first
             | (go_big_want; first | (refine owp_load_at 27 (.tmp 3) rfl ⟨w.heap.size + 1, 0, none⟩ rfl _ _ s1 Try.underlying27 rfl hib ?_) | (refine owp_load_at 27 (.tmp 2) rfl ⟨w.heap.size, 0, none⟩ rfl _ _ s0 Try.underlying27 rfl hia ?_)))
   refine (tsame_any a b ca _ D w3 (hD1.up hu3) (ha1.old (hD1.old hu3) (fun _ h => h)) (hb1.old (hD1.old hu3) (fun _ h => h))).mono ?_
   rintro e w4 ⟨rfl, hb4⟩
   have hu4 : Upd nob W1 w4 := hu3.trans (Upd.of_below hb4)
   have hx := HX.out
   obtain ⟨q, hq⟩ : ∃ q, tsame a b = q := ⟨_, rfl⟩
   rw [hq] at hx ⊢
   clear HX hq
   subst hx
   cases X <;> (go_wp2_with fail; go_ret; exact ⟨rfl, (huW1.trans hu4).below⟩)
end Go.Proofs.Ytiampoebdmflgaa
