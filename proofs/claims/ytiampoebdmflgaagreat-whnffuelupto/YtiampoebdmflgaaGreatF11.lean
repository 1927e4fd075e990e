/- Texts put one behind the other: Zeq, Zcount, Zsame, Zsam, Ylmay, Ymay0. -/
import Derived.Test.YtiampoebdmflgaaGreatF10
import Derived.Test.YtiampoebdmflgaaGreatF9
import Derived.Test.YtiampoebdmflgaaGreatF5
import Derived.Test.YtiampoebdmflgaaGreatF3
/- The reference's sameForm, Equal. -/
namespace Go.Proofs.YtiampoebdmflgaaGreat
open Go.RowKit
set_option linter.unusedVariables false
set_option maxRecDepth 100000
set_option maxHeartbeats 4000000
set_option linter.unusedSimpArgs false
theorem nsame_any (m n : Nm) (cs ds : Array Value) (D : Nat → Prop) (w : World) (hD : Within D w) (hm : NmIs D w m cs) (hn : NmIs D w n ds) :
    Calls Tryz.prog 75 #[.agg cs, .agg ds] w fun e w' => e = .returned (.bool (m.same n)) ∧ Below w.heap.size w w' := by
 obtain ⟨A, c, rfl, ⟨hokm, _⟩, hzm⟩ := hm
 obtain ⟨B, c2, rfl, ⟨hokn, _⟩, hzn⟩ := hn
 have hlm := hokm.2.2
 have hln := hokn.2.2
 clear hokm hokn
 obtain ⟨X, hX⟩ : ∃ X, m.same n = X := ⟨_, rfl⟩
 rw [hX]
 unfold Nm.same at hX
 obtain ⟨W1, hW1⟩ : ∃ W1, (w.alloc (.cells #[.int .i64 m.c, .slice A m.ks.length c] 144)).alloc (.cells #[.int .i64 n.c, .slice B n.ks.length c2] 144) = W1 := ⟨_, rfl⟩
 have huW1 : Upd nob w W1 := by rw [← hW1]; exact ((Upd.refl nob w).alloc _).alloc _
 have hsW1 : W1.heap.size = w.heap.size + 2 := by rw [← hW1]; simp
 have bk0 : Blk W1 (w.heap.size) 144 #[.int .i64 m.c, .slice A m.ks.length c] := by
  rw [← hW1]
  have h := Blk.new (w) 144 #[.int .i64 m.c, .slice A m.ks.length c]
  exact h.alloc _
 have bk1 : Blk W1 (w.heap.size + 1) 144 #[.int .i64 n.c, .slice B n.ks.length c2] := by
  rw [← hW1]
  have h := Blk.new (w.alloc (.cells #[.int .i64 m.c, .slice A m.ks.length c] 144)) 144 #[.int .i64 n.c, .slice B n.ks.length c2]
  rw [World.size_alloc] at h
  exact h
 obtain ⟨L1, hL1⟩ : ∃ L, m.ks.length = L := ⟨_, rfl⟩
 obtain ⟨L2, hL2⟩ : ∃ L, n.ks.length = L := ⟨_, rfl⟩
 have HX := Lib.hid hX
 have HL1 := Lib.hid hL1
 have HL2 := Lib.hid hL2
 rw [hL1] at hW1 bk0 hlm ⊢
 rw [hL2] at hW1 bk1 hln ⊢
 have k0 : W1.cell? ⟨w.heap.size, 1, none⟩ = some (.slice A L1 c) := bk0.cell 1
 have k1 : W1.cell? ⟨w.heap.size + 1, 1, none⟩ = some (.slice B L2 c2) := bk1.cell 1
 have hlt0 := bk0.lt
 have hlt1 := bk1.lt
 have HW1 := Lib.hid hW1
 clear hX hL1 hL2 hW1 bk0 bk1
 have hD1 := hD.up huW1
 by_cases hc : m.c = n.c
 · by_cases hl : L1 = L2
   · subst hl
     have t1 : (m.c != n.c) = false := by simpa using hc
     have hx : decide (m.ks = n.ks) = X := by rw [← HX.out, hc]; simp
     have HX2 := Lib.hid hx
     clear hx HX hc
     go_enter Tryz.func75, Tryz.ntmps75
     go_wp2_with fail
     rw [HW1.out]
     clear HW1
     go_loopg [23] L1 (fun r v wr => ∃ j : Nat, j + r = L1 ∧ v = .int .i64 j ∧ decide (m.ks.drop j = n.ks.drop j) = X ∧ Upd nob W1 wr)
     case atStart => exact ⟨0, by omega, rfl, by rw [List.drop_zero, List.drop_zero]; exact HX2.out, Upd.refl _ _⟩
     case round =>
      clear HX2
      obtain ⟨j, hj, rfl, hdx, hus⟩ := hrel
      have hws := hus.size
      have q0 : wr.cell? ⟨w.heap.size, 1, none⟩ = some (.slice A L1 c) := (hus.cell hlt0 (fun f => f)).trans k0
      have q1 : wr.cell? ⟨w.heap.size + 1, 1, none⟩ = some (.slice B L1 c2) := (hus.cell hlt1 (fun f => f)).trans k1
      have HDX := Lib.hid hdx
      clear hdx
      by_cases hlt : j < L1
      · have t2 : decide ((j : Int) < L1) = true := by simp [hlt]
        have hj1 : j < m.ks.length := by rw [HL1.out]; exact hlt
        have hj2 : j < n.ks.length := by rw [HL2.out]; exact hlt
        obtain ⟨a, hA, hab, hcell, _⟩ := hzm j _ (List.getElem?_eq_getElem hj1)
        obtain ⟨b, hB, hbb, hcellb, _⟩ := hzn j _ (List.getElem?_eq_getElem hj2)
        have hd1 : m.ks.drop j = m.ks[j] :: m.ks.drop (j + 1) := List.drop_eq_getElem_cons hj1
        have hd2 : n.ks.drop j = n.ks[j] :: n.ks.drop (j + 1) := List.drop_eq_getElem_cons hj2
        have hdx := HDX.out
        rw [hd1, hd2] at hdx
        obtain ⟨x, hx⟩ : ∃ x, m.ks[j] = x := ⟨_, rfl⟩
        obtain ⟨y, hy⟩ : ∃ y, n.ks[j] = y := ⟨_, rfl⟩
        rw [hx] at hcell hdx
        rw [hy] at hcellb hdx
        have hua := huW1.trans hus
        have hcell1 : wr.cell? (a.add j) = some (.int .i64 x) := ((hD.old hua).cell (by rw [Addr_add_block]; exact hab)).trans hcell
        have hcell2 : wr.cell? (b.add j) = some (.int .i64 y) := ((hD.old hua).cell (by rw [Addr_add_block]; exact hbb)).trans hcellb
        have hbl := hD.up hua _ hab
        have hbl2 := hD.up hua _ hbb
        have HA := Lib.hid hA
        have HB := Lib.hid hB
        have HDX2 := Lib.hid hdx
        clear hA hB hcell hcellb hd1 hd2 hdx hx hy HDX
        go_wp2_with fail
        refine wp_region_P (by kernel_rfl) ?_
        refine wpAny_of_held (S := fun X : World => ∀ p : Addr, p.block < wr.heap.size → X.cell? p = wr.cell? p) _ _ _ _ ?_
        have hS : ∀ p : Addr, p.block < wr.heap.size → wr.drew.cell? p = wr.cell? p := fun _ _ => rfl
        refine hT 0 ?_ rfl (by kernel_rfl) (by rfl) ?_ hS ?_
        rotate_left; · intro wx hx; clear hx; go_simp; with_reducible rfl
        try simp only [tl]
        refine hT 1 ?_ rfl (by kernel_rfl) (by rfl) ?_ hS ?_
        rotate_left
        · intro wx hx
          have q0 := (hx ⟨w.heap.size, 1, none⟩ (by show w.heap.size < _; omega)).trans q0
          clear hx
          go_simp
          with_reducible rfl
        try simp only [tl]
        refine hT 2 ?_ rfl (by kernel_rfl) (by rfl) ?_ hS ?_
        rotate_left; · intro wx hx; clear hx; go_simp; with_reducible rfl
        try simp only [tl]
        refine hT 3 (.pointer (some (Addr.add a j))) rfl (by kernel_rfl) (by rfl) ?_ hS ?_
        · intro wx hx
          refine (run_index_at 142 (.tmp 27) (.tmp 28) rfl A a L1 c rfl HA.out j rfl hlt 3 Tryz.underlying142 1 int_size).trans ?_
          rw [Nat.mul_one]
        try simp only [tl]
        refine hT 4 (.int .i64 x) rfl (by kernel_rfl) (by rfl) ?_ hS ?_
        · intro wx hx
          have q := (hx (Addr.add a j) (by rw [Addr_add_block]; exact hbl)).trans hcell1
          clear hx
          go_simp
        try simp only [tl]
        refine hT 5 ?_ rfl (by kernel_rfl) (by rfl) ?_ hS ?_
        rotate_left; · intro wx hx; clear hx; go_simp; with_reducible rfl
        try simp only [tl]
        refine hT 6 ?_ rfl (by kernel_rfl) (by rfl) ?_ hS ?_
        rotate_left
        · intro wx hx
          have q0 := (hx ⟨w.heap.size + 1, 1, none⟩ (by show w.heap.size + 1 < _; omega)).trans q1
          clear hx
          go_simp
          with_reducible rfl
        try simp only [tl]
        refine hT 7 ?_ rfl (by kernel_rfl) (by rfl) ?_ hS ?_
        rotate_left; · intro wx hx; clear hx; go_simp; with_reducible rfl
        try simp only [tl]
        refine hT 8 (.pointer (some (Addr.add b j))) rfl (by kernel_rfl) (by rfl) ?_ hS ?_
        · intro wx hx
          refine (run_index_at 142 (.tmp 32) (.tmp 33) rfl B b L1 c2 rfl HB.out j rfl hlt 3 Tryz.underlying142 1 int_size).trans ?_
          rw [Nat.mul_one]
        try simp only [tl]
        refine hT 9 (.int .i64 y) rfl (by kernel_rfl) (by rfl) ?_ hS ?_
        · intro wx hx
          have q := (hx (Addr.add b j) (by rw [Addr_add_block]; exact hbl2)).trans hcell2
          clear hx
          go_simp
        try simp only [tl]
        refine hT 10 ?_ rfl (by kernel_rfl) (by rfl) ?_ hS ?_
        rotate_left; · intro wx hx; clear hx; go_simp; with_reducible rfl
        try simp only [tl]
        refine wpAnyH_done (by kernel_rfl) ?_ _
        refine NoPanic.normal ?_
        by_cases hxy : x = y
        · subst hxy
          have hdx := HDX2.out
          have HD3 : Hid (decide (m.ks.drop (j + 1) = n.ks.drop (j + 1)) = X) := Lib.hid (by rw [← hdx]; simp)
          clear hdx HDX2
          go_wp2_with fail
          go_roundg (gk - 1)
          case measure => omega
          case rel => exact ⟨j + 1, by omega, by go_num, HD3.out, hus.trans ((Upd.refl nob wr).drew)⟩
        have t3 : (x != y) = true := by simpa using hxy
        have hdx := HDX2.out
        have e : X = false := by rw [← hdx]; simp [hxy]
        subst e
        clear hdx HDX2 hxy
        go_wp2_with fail
        go_ret
        exact ⟨rfl, (hua.trans ((Upd.refl nob wr).drew)).below⟩
      have t2 : decide ((j : Int) < L1) = false := by simp; omega
      have hdx := HDX.out
      rw [List.drop_eq_nil_of_le (by rw [HL1.out]; omega), List.drop_eq_nil_of_le (by rw [HL2.out]; omega)] at hdx
      have e : X = true := by rw [← hdx]; simp
      subst e
      clear hdx HDX
      go_wp2_with fail
      go_ret
      exact ⟨rfl, (huW1.trans hus).below⟩
   have t1 : (m.c != n.c) = false := by simpa using hc
   have t2 : ((L1 : Int) != L2) = true := by simp; omega
   have e : X = false := by
    rw [← HX.out]
    have : m.ks ≠ n.ks := fun h => hl (by rw [← HL1.out, ← HL2.out, h])
    simp [this]
   subst e
   clear HX hl hc
   go_enter Tryz.func75, Tryz.ntmps75
   go_wp2_with fail
   go_ret
   rw [HW1.out]
   exact ⟨rfl, huW1.below⟩
 have t1 : (m.c != n.c) = true := by simpa using hc
 have e : X = false := by rw [← HX.out]; simp [hc]
 subst e
 clear HX hc
 go_enter Tryz.func75, Tryz.ntmps75
 go_wp2_with fail
 go_ret
 rw [HW1.out]
 exact ⟨rfl, huW1.below⟩
mutual
theorem lok_of_rsnd : ∀ (l : Lv) (d c : Nat), (rsnd l d c).1 = true → LOk l
 | .mk k n ks, d, c, h => by
  rw [rsnd] at h
  simp only [LOk]
  by_cases h1 : 256 < d ∨ 1000 < c + 1 ∨ lar k < 0 ∨ (ks.length : Int) ≠ lar k
  · rw [if_pos h1] at h; cases h
  rw [if_neg h1] at h
  have hk : (ks.length : Int) = lar k := by omega
  have hkk : ((ks.length : Int) != lar k) = false := by simpa using hk
  unfold lright
  rw [hkk]
  by_cases h2 : k = 1
  · rw [if_pos h2] at h
    rw [if_pos h2]
    subst h2
    have h0 : ks = [] := List.eq_nil_of_length_eq_zero (by have : lar 1 = 0 := rfl; omega)
    subst h0
    exact ⟨by simpa using h, by simp only [LOks]⟩
  rw [if_neg h2] at h
  rw [if_neg h2]
  by_cases h3 : k = 2
  · rw [if_pos h3] at h
    subst h3
    have h0 : ks = [] := List.eq_nil_of_length_eq_zero (by have : lar 2 = 0 := rfl; omega)
    subst h0
    exact ⟨by simpa using h, by simp only [LOks]⟩
  rw [if_neg h3] at h
  by_cases h4 : k = 3 ∧ (n < 1 ∨ 1099511627776 < n)
  · rw [if_pos h4] at h; cases h
  rw [if_neg h4] at h
  refine ⟨?_, loks_of_rsnds ks d (c + 1) h⟩
  by_cases h5 : k = 3
  · rw [if_pos h5]
    have : ¬ (n < 1 ∨ 1099511627776 < n) := fun hh => h4 ⟨h5, hh⟩
    simp; omega
  rw [if_neg h5, if_neg h3]; rfl
theorem loks_of_rsnds : ∀ (l : List Lv) (d c : Nat), (rsnds l d c).1 = true → LOks l
 | [], _, _, _ => by simp only [LOks]
 | l :: ls, d, c, h => by
  rw [rsnds] at h
  simp only [LOks]
  by_cases h1 : (rsnd l (d + 1) c).1 = true
  · rw [if_pos h1] at h
    exact ⟨lok_of_rsnd l (d + 1) c h1, loks_of_rsnds ls d _ h⟩
  rw [if_neg h1] at h; cases h
end
theorem lok_of_rsound {l : Lv} (h : rsound l = true) : LOk l := lok_of_rsnd l 1 0 h
def req (a b : Lv) : Bool := rsound a && rsound b && (rnorm a).same (rnorm b)
theorem req_any (la lb : Lv) (ca cb : Array Value) (D : Nat → Prop) (w : World) (hD : Within D w) (ha : LvIs D w la ca) (hb : LvIs D w lb cb) :
    Calls Tryz.prog 48 #[.agg ca, .agg cb] w fun e w' => e = .returned (.bool (req la lb)) ∧ Below w.heap.size w w' := by
 have hsa := ha.oneCell
 have hsb := hb.oneCell
 have hia : (Tryz.prog.info? 25).map (·.size) = some ca.size := by rw [hsa.1]; exact lv_size
 have hib : (Tryz.prog.info? 25).map (·.size) = some cb.size := by rw [hsb.1]; exact lv_size
 obtain ⟨X, hX⟩ : ∃ X, req la lb = X := ⟨_, rfl⟩
 rw [hX]
 unfold req at hX
 obtain ⟨W1, hW1⟩ : ∃ W1, (w.alloc (.cells ca 25)).alloc (.cells cb 25) = W1 := ⟨_, rfl⟩
 have huW1 : Upd nob w W1 := by rw [← hW1]; exact ((Upd.refl nob w).alloc _).alloc _
 have hsW1 : W1.heap.size = w.heap.size + 2 := by rw [← hW1]; simp
 have bk0 : Blk W1 (w.heap.size) 25 ca := by
  rw [← hW1]
  have h := Blk.new (w) 25 ca
  exact h.alloc _
 have bk1 : Blk W1 (w.heap.size + 1) 25 cb := by
  rw [← hW1]
  have h := Blk.new (w.alloc (.cells ca 25)) 25 cb
  rw [World.size_alloc] at h
  exact h
 have r0 := bk0.rowAt
 have r1 := bk1.rowAt
 have hlt0 := bk0.lt
 have hlt1 := bk1.lt
 have hD1 := hD.up huW1
 have HLA := Lib.hid (ha.old (hD.old huW1) (fun _ h => h))
 have HLB := Lib.hid (hb.old (hD.old huW1) (fun _ h => h))
 have HW1 := Lib.hid hW1
 have HX := Lib.hid hX
 clear hX hW1 bk0 bk1 ha hb
 cases hs1 : rsound la with
 | false =>
  have e : X = false := by rw [← HX.out, hs1]; rfl
  subst e
  have HS1 := Lib.hid hs1
  clear hs1 HX
  go_enter Tryz.func48, Tryz.ntmps48
  go_wp2_with fail
  rw [HW1.out]
  refine wp_region_P (by kernel_rfl) ?_
  refine wpAny_of_held (S := fun X : World => ∀ p : Addr, p.block < W1.heap.size → X.cell? p = W1.cell? p) _ _ _ _ ?_
  have hS : ∀ p : Addr, p.block < W1.heap.size → W1.drew.cell? p = W1.cell? p := fun _ _ => rfl
  refine hT 0 (.agg ca) rfl (by kernel_rfl) (by rfl) ?_ hS ?_
  · intro wx hx
    exact run_load_at 25 (.tmp 2) rfl ⟨w.heap.size, 0, none⟩ rfl ca _ (row_on r0 hlt0 hx) Tryz.underlying25 rfl hia
  try simp only [tl]
  refine wpAnyH_alone (i := 1) (by kernel_rfl) rfl (by rfl) fun K hK => ?_
  go_simp
  refine (rsound_any la ca D W1.drew hD1.drew HLA.out.drew).mono ?_
  rintro e w2 ⟨rfl, hb2⟩
  rw [HS1.out]
  have hu2 : Upd nob W1 w2 := ((Upd.refl nob W1).drew).trans (Upd.of_below hb2)
  refine hK _ _ (cells_of_upd hu2) ?_
  clear hK K; try simp only [tl]
  have hS : ∀ p : Addr, p.block < W1.heap.size → w2.cell? p = W1.cell? p := cells_of_upd hu2
  refine hT 2 ?_ rfl (by kernel_rfl) (by rfl) ?_ hS ?_
  rotate_left; · intro wx hx; clear hx; go_simp; with_reducible rfl
  try simp only [tl]
  refine wpAnyH_take (i := 3) (v := undef) rfl (by kernel_rfl) (by kernel_rfl) (by kernel_rfl) (fun _ _ _ h => h) (Or.inr ⟨by rfl, by rfl⟩) hS ?_
  try simp only [tl]
  refine wpAnyH_take (i := 4) (v := undef) rfl (by kernel_rfl) (by kernel_rfl) (by kernel_rfl) (fun _ _ _ h => h) (Or.inr ⟨by rfl, by rfl⟩) hS ?_
  try simp only [tl]
  refine hT 5 ?_ rfl (by kernel_rfl) (by rfl) ?_ hS ?_
  rotate_left; · intro wx hx; clear hx; go_simp; with_reducible rfl
  try simp only [tl]
  refine hT 6 ?_ rfl (by kernel_rfl) (by rfl) ?_ hS ?_
  rotate_left; · intro wx hx; clear hx; go_simp; with_reducible rfl
  try simp only [tl]
  refine wpAnyH_take (i := 7) (v := undef) rfl (by kernel_rfl) (by kernel_rfl) (by kernel_rfl) (fun _ _ _ h => h) (Or.inr ⟨by rfl, by rfl⟩) hS ?_
  try simp only [tl]
  refine wpAnyH_take (i := 8) (v := undef) rfl (by kernel_rfl) (by kernel_rfl) (by kernel_rfl) (fun _ _ _ h => h) (Or.inr ⟨by rfl, by rfl⟩) hS ?_
  try simp only [tl]
  refine wpAnyH_take (i := 9) (v := undef) rfl (by kernel_rfl) (by kernel_rfl) (by kernel_rfl) (fun _ _ _ h => h) (Or.inr ⟨by rfl, by rfl⟩) hS ?_
  try simp only [tl]
  refine wpAnyH_take (i := 10) (v := undef) rfl (by kernel_rfl) (by kernel_rfl) (by kernel_rfl) (fun _ _ _ h => h) (Or.inr ⟨by rfl, by rfl⟩) hS ?_
  try simp only [tl]
  refine wpAnyH_take (i := 11) (v := undef) rfl (by kernel_rfl) (by kernel_rfl) (by kernel_rfl) (fun _ _ _ h => h) (Or.inr ⟨by rfl, by rfl⟩) hS ?_
  try simp only [tl]
  refine hT 12 ?_ rfl (by kernel_rfl) (by rfl) ?_ hS ?_
  rotate_left; · intro wx hx; clear hx; go_simp; with_reducible rfl
  try simp only [tl]
  refine hT 13 ?_ rfl (by kernel_rfl) (by rfl) ?_ hS ?_
  rotate_left; · intro wx hx; clear hx; go_simp; with_reducible rfl
  try simp only [tl]
  refine wpAnyH_done (by kernel_rfl) ?_ _
  refine NoPanic.normal ?_
  go_wp2_with fail
  go_ret
  exact ⟨rfl, (huW1.trans hu2).below⟩
 | true =>
  have HS1 := Lib.hid hs1
  cases hs2 : rsound lb with
  | false =>
   have e : X = false := by rw [← HX.out, hs1, hs2]; rfl
   subst e
   have HS2 := Lib.hid hs2
   clear hs1 hs2 HX
   go_enter Tryz.func48, Tryz.ntmps48
   go_wp2_with fail
   rw [HW1.out]
   refine wp_region_P (by kernel_rfl) ?_
   refine wpAny_of_held (S := fun X : World => ∀ p : Addr, p.block < W1.heap.size → X.cell? p = W1.cell? p) _ _ _ _ ?_
   have hS : ∀ p : Addr, p.block < W1.heap.size → W1.drew.cell? p = W1.cell? p := fun _ _ => rfl
   refine hT 0 (.agg ca) rfl (by kernel_rfl) (by rfl) ?_ hS ?_
   · intro wx hx
     exact run_load_at 25 (.tmp 2) rfl ⟨w.heap.size, 0, none⟩ rfl ca _ (row_on r0 hlt0 hx) Tryz.underlying25 rfl hia
   try simp only [tl]
   refine wpAnyH_alone (i := 1) (by kernel_rfl) rfl (by rfl) fun K hK => ?_
   go_simp
   refine (rsound_any la ca D W1.drew hD1.drew HLA.out.drew).mono ?_
   rintro e w2 ⟨rfl, hb2⟩
   rw [HS1.out]
   have hu2 : Upd nob W1 w2 := ((Upd.refl nob W1).drew).trans (Upd.of_below hb2)
   refine hK _ _ (cells_of_upd hu2) ?_
   clear hK K; try simp only [tl]
   have hS : ∀ p : Addr, p.block < W1.heap.size → w2.cell? p = W1.cell? p := cells_of_upd hu2
   refine hT 2 ?_ rfl (by kernel_rfl) (by rfl) ?_ hS ?_
   rotate_left; · intro wx hx; clear hx; go_simp; with_reducible rfl
   try simp only [tl]
   refine hT 3 (.agg cb) rfl (by kernel_rfl) (by rfl) ?_ hS ?_
   · intro wx hx
     exact run_load_at 25 (.tmp 3) rfl ⟨w.heap.size + 1, 0, none⟩ rfl cb _ (row_on r1 hlt1 hx) Tryz.underlying25 rfl hib
   try simp only [tl]
   refine wpAnyH_alone (i := 4) (by kernel_rfl) rfl (by rfl) fun K hK => ?_
   go_simp
   refine (rsound_any lb cb D w2 (hD1.up hu2) (HLB.out.old (hD1.old hu2) (fun _ h => h))).mono ?_
   rintro e w3 ⟨rfl, hb3⟩
   rw [HS2.out]
   have hu3 : Upd nob W1 w3 := hu2.trans (Upd.of_below hb3)
   refine hK _ _ (cells_of_upd hu3) ?_
   clear hK K; try simp only [tl]
   have hS : ∀ p : Addr, p.block < W1.heap.size → w3.cell? p = W1.cell? p := cells_of_upd hu3
   refine hT 5 ?_ rfl (by kernel_rfl) (by rfl) ?_ hS ?_
   rotate_left; · intro wx hx; clear hx; go_simp; with_reducible rfl
   try simp only [tl]
   refine hT 6 ?_ rfl (by kernel_rfl) (by rfl) ?_ hS ?_
   rotate_left; · intro wx hx; clear hx; go_simp; with_reducible rfl
   try simp only [tl]
   refine wpAnyH_take (i := 7) (v := undef) rfl (by kernel_rfl) (by kernel_rfl) (by kernel_rfl) (fun _ _ _ h => h) (Or.inr ⟨by rfl, by rfl⟩) hS ?_
   try simp only [tl]
   refine wpAnyH_take (i := 8) (v := undef) rfl (by kernel_rfl) (by kernel_rfl) (by kernel_rfl) (fun _ _ _ h => h) (Or.inr ⟨by rfl, by rfl⟩) hS ?_
   try simp only [tl]
   refine wpAnyH_take (i := 9) (v := undef) rfl (by kernel_rfl) (by kernel_rfl) (by kernel_rfl) (fun _ _ _ h => h) (Or.inr ⟨by rfl, by rfl⟩) hS ?_
   try simp only [tl]
   refine wpAnyH_take (i := 10) (v := undef) rfl (by kernel_rfl) (by kernel_rfl) (by kernel_rfl) (fun _ _ _ h => h) (Or.inr ⟨by rfl, by rfl⟩) hS ?_
   try simp only [tl]
   refine wpAnyH_take (i := 11) (v := undef) rfl (by kernel_rfl) (by kernel_rfl) (by kernel_rfl) (fun _ _ _ h => h) (Or.inr ⟨by rfl, by rfl⟩) hS ?_
   try simp only [tl]
   refine hT 12 ?_ rfl (by kernel_rfl) (by rfl) ?_ hS ?_
   rotate_left; · intro wx hx; clear hx; go_simp; with_reducible rfl
   try simp only [tl]
   refine hT 13 ?_ rfl (by kernel_rfl) (by rfl) ?_ hS ?_
   rotate_left; · intro wx hx; clear hx; go_simp; with_reducible rfl
   try simp only [tl]
   refine wpAnyH_done (by kernel_rfl) ?_ _
   refine NoPanic.normal ?_
   go_wp2_with fail
   go_ret
   exact ⟨rfl, (huW1.trans hu3).below⟩
  | true =>
   have hx : (rnorm la).same (rnorm lb) = X := by rw [← HX.out, hs1, hs2]; rfl
   have HS2 := Lib.hid hs2
   have hoka := lok_of_rsound hs1
   have hokb := lok_of_rsound hs2
   have HX2 := Lib.hid hx
   clear hs1 hs2 hx HX
   go_enter Tryz.func48, Tryz.ntmps48
   go_wp2_with fail
   rw [HW1.out]
   refine wp_region_P (by kernel_rfl) ?_
   refine wpAny_of_held (S := fun X : World => ∀ p : Addr, p.block < W1.heap.size → X.cell? p = W1.cell? p) _ _ _ _ ?_
   have hS : ∀ p : Addr, p.block < W1.heap.size → W1.drew.cell? p = W1.cell? p := fun _ _ => rfl
   refine hT 0 (.agg ca) rfl (by kernel_rfl) (by rfl) ?_ hS ?_
   · intro wx hx
     exact run_load_at 25 (.tmp 2) rfl ⟨w.heap.size, 0, none⟩ rfl ca _ (row_on r0 hlt0 hx) Tryz.underlying25 rfl hia
   try simp only [tl]
   refine wpAnyH_alone (i := 1) (by kernel_rfl) rfl (by rfl) fun K hK => ?_
   go_simp
   refine (rsound_any la ca D W1.drew hD1.drew HLA.out.drew).mono ?_
   rintro e w2 ⟨rfl, hb2⟩
   rw [HS1.out]
   have hu2 : Upd nob W1 w2 := ((Upd.refl nob W1).drew).trans (Upd.of_below hb2)
   refine hK _ _ (cells_of_upd hu2) ?_
   clear hK K; try simp only [tl]
   have hS : ∀ p : Addr, p.block < W1.heap.size → w2.cell? p = W1.cell? p := cells_of_upd hu2
   refine hT 2 ?_ rfl (by kernel_rfl) (by rfl) ?_ hS ?_
   rotate_left; · intro wx hx; clear hx; go_simp; with_reducible rfl
   try simp only [tl]
   refine hT 3 (.agg cb) rfl (by kernel_rfl) (by rfl) ?_ hS ?_
   · intro wx hx
     exact run_load_at 25 (.tmp 3) rfl ⟨w.heap.size + 1, 0, none⟩ rfl cb _ (row_on r1 hlt1 hx) Tryz.underlying25 rfl hib
   try simp only [tl]
   refine wpAnyH_alone (i := 4) (by kernel_rfl) rfl (by rfl) fun K hK => ?_
   go_simp
   refine (rsound_any lb cb D w2 (hD1.up hu2) (HLB.out.old (hD1.old hu2) (fun _ h => h))).mono ?_
   rintro e w3 ⟨rfl, hb3⟩
   rw [HS2.out]
   have hu3 : Upd nob W1 w3 := hu2.trans (Upd.of_below hb3)
   refine hK _ _ (cells_of_upd hu3) ?_
   clear hK K; try simp only [tl]
   have hS : ∀ p : Addr, p.block < W1.heap.size → w3.cell? p = W1.cell? p := cells_of_upd hu3
   refine hT 5 ?_ rfl (by kernel_rfl) (by rfl) ?_ hS ?_
   rotate_left; · intro wx hx; clear hx; go_simp; with_reducible rfl
   try simp only [tl]
   refine hT 6 ?_ rfl (by kernel_rfl) (by rfl) ?_ hS ?_
   rotate_left; · intro wx hx; clear hx; go_simp; with_reducible rfl
   try simp only [tl]
   refine hT 7 (.agg ca) rfl (by kernel_rfl) (by rfl) ?_ hS ?_
   · intro wx hx
     exact run_load_at 25 (.tmp 2) rfl ⟨w.heap.size, 0, none⟩ rfl ca _ (row_on r0 hlt0 hx) Tryz.underlying25 rfl hia
   try simp only [tl]
   refine hT 9 (.agg cb) rfl (by kernel_rfl) (by rfl) ?_ hS ?_
   · intro wx hx
     exact run_load_at 25 (.tmp 3) rfl ⟨w.heap.size + 1, 0, none⟩ rfl cb _ (row_on r1 hlt1 hx) Tryz.underlying25 rfl hib
   try simp only [tl]
   refine wpAnyH_alone (i := 8) (by kernel_rfl) rfl (by rfl) fun K hK => ?_
   go_simp
   refine (rnorm_any la ca D w3 hoka (hD1.up hu3) (HLA.out.old (hD1.old hu3) (fun _ h => h))).mono ?_
   rintro e w4 ⟨cs4, rfl, hn4, hb4⟩
   have hu34 : Upd nob w3 w4 := Upd.of_below hb4
   have hu4 : Upd nob W1 w4 := hu3.trans hu34
   have hu4s := hu34.size
   have HN4 := Lib.hid hn4
   clear hn4
   refine hK _ _ (cells_of_upd hu4) ?_
   clear hK K; try simp only [tl]
   have hS : ∀ p : Addr, p.block < W1.heap.size → w4.cell? p = W1.cell? p := cells_of_upd hu4
   refine wpAnyH_alone (i := 10) (by kernel_rfl) rfl (by rfl) fun K hK => ?_
   go_simp
   refine (rnorm_any lb cb D w4 hokb (hD1.up hu4) (HLB.out.old (hD1.old hu4) (fun _ h => h))).mono ?_
   rintro e w5 ⟨cs5, rfl, hn5, hb5⟩
   have hu45 : Upd nob w4 w5 := Upd.of_below hb5
   have hu5 : Upd nob W1 w5 := hu4.trans hu45
   have hu5s := hu45.size
   have HN5 : Hid (NmIs (fun q => w3.heap.size ≤ q ∧ q < w5.heap.size) w5 (rnorm lb) cs5) := Lib.hid (hn5.old (Old.refl _ _) (fun q hq => ⟨by have := hq.1; omega, hq.2⟩))
   have HN45 : Hid (NmIs (fun q => w3.heap.size ≤ q ∧ q < w5.heap.size) w5 (rnorm la) cs4) := Lib.hid (HN4.out.old (Old.of_upd hu45 fun q hq => ⟨fun f => f, hq.2⟩) (fun q hq => ⟨hq.1, by have := hq.2; omega⟩))
   clear hn5
   refine hK _ _ (cells_of_upd hu5) ?_
   clear hK K; try simp only [tl]
   have hS : ∀ p : Addr, p.block < W1.heap.size → w5.cell? p = W1.cell? p := cells_of_upd hu5
   refine wpAnyH_alone (i := 11) (by kernel_rfl) rfl (by rfl) fun K hK => ?_
   go_simp
   refine (nsame_any (rnorm la) (rnorm lb) cs4 cs5 (fun q => w3.heap.size ≤ q ∧ q < w5.heap.size) w5 (fun q h => h.2) HN45.out HN5.out).mono ?_
   rintro e w6 ⟨rfl, hb6⟩
   rw [HX2.out]
   have hu6 : Upd nob W1 w6 := hu5.trans (Upd.of_below hb6)
   refine hK _ _ (cells_of_upd hu6) ?_
   clear hK K; try simp only [tl]
   have hS : ∀ p : Addr, p.block < W1.heap.size → w6.cell? p = W1.cell? p := cells_of_upd hu6
   refine hT 12 ?_ rfl (by kernel_rfl) (by rfl) ?_ hS ?_
   rotate_left; · intro wx hx; clear hx; go_simp; with_reducible rfl
   try simp only [tl]
   refine hT 13 ?_ rfl (by kernel_rfl) (by rfl) ?_ hS ?_
   rotate_left; · intro wx hx; clear hx; go_simp; with_reducible rfl
   try simp only [tl]
   refine wpAnyH_done (by kernel_rfl) ?_ _
   refine NoPanic.normal ?_
   go_wp2_with fail
   go_ret
   exact ⟨rfl, (huW1.trans hu6).below⟩
end Go.Proofs.YtiampoebdmflgaaGreat
/- The reference's count, TooGreat. -/
namespace Go.Proofs.YtiampoebdmflgaaGreat
open Go.RowKit
set_option linter.unusedVariables false
set_option maxRecDepth 100000
set_option maxHeartbeats 4000000
set_option linter.unusedSimpArgs false
mutual
def rcnt : Tm → Nat → Nat → Bool × Nat
 | .mk k _ _ _ _ ks, d, c => if 2000 < d then (false, c + 1) else if rlf k ks.length = true then (true, c + 1) else rcnts (tar k).toNat ks d (c + 1)
def rcnts : Nat → List Tm → Nat → Nat → Bool × Nat
 | 0, _, _, c => (decide (c ≤ 20000), c)
 | _ + 1, [], _, c => (decide (c ≤ 20000), c)
 | i + 1, t :: l, d, c => if 20000 < c then (false, c) else if (rcnt t (d + 1) c).1 = true then rcnts i l d (rcnt t (d + 1) c).2 else (false, (rcnt t (d + 1) c).2)
end
def rgreat (t : Tm) : Bool := !(rcnt t 1 0).1
mutual
theorem rcnt_le : ∀ (t : Tm) (d c : Nat), c ≤ 20000 → (rcnt t d c).2 ≤ 20001
 | .mk k _ _ _ _ ks, d, c, h => by
  rw [rcnt]
  split
  · simp only; omega
  split
  · simp only; omega
  exact rcnts_le _ ks d (c + 1) (by omega)
theorem rcnts_le : ∀ (i : Nat) (l : List Tm) (d c : Nat), c ≤ 20001 → (rcnts i l d c).2 ≤ 20001
 | 0, _, _, c, h => by rw [rcnts]; exact h
 | _ + 1, [], _, c, h => by rw [rcnts]; exact h
 | i + 1, t :: l, d, c, h => by
  rw [rcnts]
  split
  · exact h
  have h1 := rcnt_le t (d + 1) c (by omega)
  split
  · exact rcnts_le i l d _ h1
  exact h1
end
theorem rcnt_any (t : Tm) : ∀ (cs : Array Value) (D : Nat → Prop) (d cn nb : Nat) (w : World), TmIs D w t cs → Within D w → ¬ D nb → Blk w nb 3 #[.int .i64 cn] → cn ≤ 20000 → d ≤ 2001 →
    Calls Tryz.prog 41 #[.agg cs, .int .i64 d, .pointer (some ⟨nb, 0, none⟩)] w fun e w' =>
     e = .returned (.bool (rcnt t d cn).1) ∧ Blk w' nb 3 #[.int .i64 (rcnt t d cn).2] ∧ Upd (fun q => q = nb) w w' := by
 induction t using Tm.ind with
 | h k n nm lv ls ks ih =>
  intro cs D d cn nb w hl hD hnb hb hc hd
  have hz := tm_zero
  have hl0 := hl
  obtain ⟨x, y, z, A, c, A', c', rfl, _, _, _, _, _, _, hks1, hks⟩ := hl.lit
  simp only [Tm.k, Tm.n, Tm.nm, Tm.lv, Tm.ls, Tm.ks] at hks1 hks hl0 ⊢
  have hnbw := hb.lt
  obtain ⟨⟨X1, X2⟩, hX⟩ : ∃ X, rcnt (.mk k n nm lv ls ks) d cn = X := ⟨_, rfl⟩
  have hXle := rcnt_le (.mk k n nm lv ls ks) d cn hc
  rw [hX] at hXle ⊢
  rw [rcnt] at hX
  have HX := Lib.hid hX; clear hX hl
  have hcn : IntKind.i64.wrap ((cn : Int) + 1) = (cn : Int) + 1 := IntWalk.i64_in _ (by omega)
  have c1 : w.cell? ⟨nb, 0, none⟩ = some (.int .i64 cn) := hb.cell 0
  have z1 := hb.frozen 0
  obtain ⟨W1, hW1⟩ : ∃ W1, w.setCell ⟨nb, 0, none⟩ (.int .i64 ((cn : Int) + 1)) = W1 := ⟨_, rfl⟩
  have hu1 : Upd (fun q => q = nb) w W1 := by rw [← hW1]; exact (Upd.refl (fun q => q = nb) w).setCell (p := ⟨nb, 0, none⟩) (.inl rfl) _
  have hb1 : Blk W1 nb 3 #[.int .i64 ((cn + 1 : Nat) : Int)] := by rw [← hW1]; exact hb.set 0 _
  have hs1 : W1.heap.size = w.heap.size := by rw [← hW1]; simp [World.setCell]
  obtain ⟨W2, hW2⟩ : ∃ W2, W1.alloc (.cells #[.int .i64 k, .int .i64 n, .string nm, x, y, z, .slice A ls.length c, .slice A' ks.length c'] 28) = W2 := ⟨_, rfl⟩
  have hu2 : Upd nob W1 W2 := by rw [← hW2]; exact (Upd.refl nob W1).alloc _
  have hs2 : W2.heap.size = w.heap.size + 1 := by rw [← hW2]; simp [hs1]
  have bk2 : Blk W2 w.heap.size 28 #[.int .i64 k, .int .i64 n, .string nm, x, y, z, .slice A ls.length c, .slice A' ks.length c'] := by rw [← hW2, ← hs1]; exact Blk.new _ _ _
  have hu02 : Upd (fun q => q = nb) w W2 := hu1.trans (hu2.mono (fun _ f => f.elim))
  have hb2 := hb1.upd hu2 (fun f => f)
  have ho2 : Old D w W2 := Old.of_upd hu02 fun q hq => ⟨fun h => hnb (h ▸ hq), hD q hq⟩
  have hD2 := hD.up hu02
  have r2 := bk2.rowAt
  have k0 : W2.cell? ⟨w.heap.size, 0, none⟩ = some (.int .i64 k) := bk2.cell 0
  have k7 : W2.cell? ⟨w.heap.size, 7, none⟩ = some (.slice A' ks.length c') := bk2.cell 7
  have hl2 := hl0.old ho2 (fun _ h => h)
  have hks2 := hks.old ho2 (fun _ h => h)
  have hlt2 := bk2.lt
  have HB2 := Lib.hid hb2
  have HBK2 := Lib.hid bk2
  have HL2 := Lib.hid hl2
  have HKS := Lib.hid hks2
  rw [← hW1] at hW2
  have HW2 := Lib.hid hW2
  rw [← hW2] at r2
  have R2 := Lib.hid r2
  clear hW1 hW2 hb1 hb2 bk2 hl2 hl0 hks hks2 hb r2
  by_cases hd2 : 2000 < d
  · have hx := HX.out
    rw [if_pos hd2] at hx
    injection hx with h1 h2
    subst h1 h2
    clear HX
    go_enter Tryz.func41, Tryz.ntmps41
    go_wp2_with fail
    go_ret
    rw [HW2.out]
    exact ⟨rfl, HB2.out, hu02⟩
  have r2 := R2.out
  have hd3 : d ≤ 2000 := by omega
  have hx := HX.out
  rw [if_neg hd2] at hx
  have HX2 := Lib.hid hx
  clear hx HX
  go_enter Tryz.func41, Tryz.ntmps41
  go_wp2_with (first
          | ((with_reducible refine this_op (.load 28 (.tmp 3)) ?_); refine wpList_at rfl 28 (.tmp 3) rfl ⟨w.heap.size, 0, none⟩ rfl _ _ r2 Tryz.underlying28 rfl tm_size ?_))
  rw [HW2.out]
  clear r2 R2 c1 z1
  refine (rleaf_any _ _ D W2 HL2.out).mono ?_
  rintro e w3 ⟨rfl, hb3⟩
  have hu3 : Upd nob W2 w3 := Upd.of_below hb3
  obtain ⟨lf, hlf⟩ : ∃ q, (Tm.mk k n nm lv ls ks).rleaf = q := ⟨_, rfl⟩
  have hx := HX2.out
  have hlf2 : rlf k ks.length = lf := hlf
  rw [hlf]
  rw [hlf2] at hx
  have hu03 : Upd (fun q => q = nb) w w3 := hu02.trans (hu3.mono (fun _ f => f.elim))
  have hb3b := HB2.out.upd hu3 (fun f => f)
  have hw3s := hu3.size
  cases lf with
  | true =>
   rw [if_pos rfl] at hx
   injection hx with h1 h2
   subst h1 h2
   have HB3 := Lib.hid hb3b
   clear HX2 hlf hlf2 hb3b
   go_wp2_with fail
   go_ret
   exact ⟨rfl, HB3.out, hu03⟩
  | false =>
   rw [if_neg (by decide)] at hx
   have HX3 := Lib.hid hx
   have HB3 := Lib.hid hb3b
   have hq : 0 ≤ tar k ∧ tar k ≤ ks.length := by
    unfold rlf at hlf2
    simp at hlf2
    exact hlf2
   obtain ⟨q, hqn⟩ : ∃ q : Nat, tar k = q := ⟨(tar k).toNat, by omega⟩
   have hqn2 : (tar k).toNat = q := by omega
   have hqk : q ≤ ks.length := by omega
   have hqc : q ≤ c' := by omega
   have HX4 : Hid (rcnts q ks d (cn + 1) = (X1, X2)) := Lib.hid (by rw [← hqn2]; exact HX3.out)
   have HQ := Lib.hid hqn
   have j0 : w3.cell? ⟨w.heap.size, 0, none⟩ = some (.int .i64 k) := (hu3.cell hlt2 (fun f => f)).trans k0
   have j7 : w3.cell? ⟨w.heap.size, 7, none⟩ = some (.slice A' ks.length c') := (hu3.cell hlt2 (fun f => f)).trans k7
   have hlt3 : w.heap.size < w3.heap.size := by omega
   have hD3 := hD2.up hu3
   have hk3 := HKS.out.old (hD2.old hu3) (fun _ h => h)
   have HK3 := Lib.hid hk3
   clear hx HX2 HX3 hlf hlf2 hb3b hqn hqn2 hq hk3 HKS k0 k7
   go_wp2_with fail
   refine wp_region_P (by kernel_rfl) ?_
   refine wpAny_of_held (S := fun X : World => ∀ p : Addr, p.block < w3.heap.size → X.cell? p = w3.cell? p) _ _ _ _ ?_
   have hS : ∀ p : Addr, p.block < w3.heap.size → w3.drew.cell? p = w3.cell? p := fun _ _ => rfl
   refine hT 0 ?_ rfl (by kernel_rfl) (by rfl) ?_ hS ?_
   rotate_left; · intro wx hx; clear hx; go_simp; with_reducible rfl
   try simp only [tl]
   refine hT 1 ?_ rfl (by kernel_rfl) (by rfl) ?_ hS ?_
   rotate_left
   · intro wx hx
     have q0 := (hx ⟨w.heap.size, 7, none⟩ hlt3).trans j7
     clear hx
     go_simp
     with_reducible rfl
   try simp only [tl]
   refine hT 2 ?_ rfl (by kernel_rfl) (by rfl) ?_ hS ?_
   rotate_left; · intro wx hx; clear hx; go_simp; with_reducible rfl
   try simp only [tl]
   refine hT 3 ?_ rfl (by kernel_rfl) (by rfl) ?_ hS ?_
   rotate_left
   · intro wx hx
     have q0 := (hx ⟨w.heap.size, 0, none⟩ hlt3).trans j0
     clear hx
     go_simp
     with_reducible rfl
   try simp only [tl]
   refine hT 7 ?_ rfl (by kernel_rfl) (by rfl) ?_ hS ?_
   rotate_left; · intro wx hx; clear hx; go_simp; with_reducible rfl
   try simp only [tl]
   refine wpAnyH_alone (i := 4) (by kernel_rfl) rfl (by rfl) fun K hK => ?_
   go_simp
   refine (rkids_any k w3.drew).mono ?_
   rintro e w4 ⟨rfl, rfl⟩
   rw [HQ.out]
   refine hK _ _ (fun _ _ => rfl) ?_
   clear hK K; try simp only [tl]
   refine hT 5 (.slice A' q c') rfl (by kernel_rfl) (by rfl) ?_ hS ?_
   · intro wx hx
     exact run_slice_h8 26 (.tmp 19) (.tmp 22) rfl A' ks.length c' rfl q rfl hqc und_tms 8 sz_tms
   try simp only [tl]
   refine hT 6 ?_ rfl (by kernel_rfl) (by rfl) ?_ hS ?_
   rotate_left; · intro wx hx; clear hx; go_simp; with_reducible rfl
   try simp only [tl]
   refine wpAnyH_done (by kernel_rfl) ?_ _
   refine NoPanic.normal ?_
   have hnb3 : nb < w3.heap.size := by omega
   go_wp2_with fail
   go_loopg [25] q (fun m v wr => ∃ (j cc : Nat), j + m = q ∧ v = .int .i64 j ∧ Blk wr nb 3 #[.int .i64 cc] ∧ cc ≤ 20001 ∧ rcnts (q - j) (ks.drop j) d cc = (X1, X2) ∧ Upd (fun q => q = nb) w3 wr)
   case atStart => exact ⟨0, cn + 1, by omega, rfl, HB3.out, by omega, by rw [List.drop_zero, Nat.sub_zero]; exact HX4.out, (Upd.refl nob w3).drew.mono (fun _ f => f.elim)⟩
   case round =>
    clear j0 j7 HX4
    obtain ⟨j, cc, hj, rfl, hbc, hcc, hrc, hus⟩ := hrel
    have hws := hus.size
    have c1 : wr.cell? ⟨nb, 0, none⟩ = some (.int .i64 cc) := hbc.cell 0
    have ho3 : Old D w3 wr := Old.of_upd hus fun q hq => ⟨fun h => hnb (h ▸ hq), hD3 q hq⟩
    have hDr : Within D wr := hD3.up hus
    have HBC := Lib.hid hbc
    have HRC := Lib.hid hrc
    clear hbc hrc
    by_cases hlt : j < q
    · have t2 : decide ((j : Int) < q) = true := by simp [hlt]
      have hjn : j < ks.length := by omega
      obtain ⟨a, csj, hA, hab, hrow, hlj⟩ := HK3.out.at_ (List.getElem?_eq_getElem hjn)
      rw [Nat.zero_add] at hrow
      have hrow' := hrow.old ho3 (by rw [Addr_add_block]; exact hab)
      have hlj' := hlj.old ho3 (fun _ h => h)
      have hsj := hlj.oneCell
      have hsij : (Tryz.prog.info? 28).map (·.size) = some csj.size := by rw [hsj.1]; exact tm_size
      have hdr : ks.drop j = ks[j] :: ks.drop (j + 1) := List.drop_eq_getElem_cons hjn
      have e1 : q - j = (q - (j + 1)) + 1 := by omega
      have hrc := HRC.out
      rw [hdr, e1, rcnts] at hrc
      have HRC2 := Lib.hid hrc
      have HA := Lib.hid hA
      have HLJ := Lib.hid hlj'
      have HIH := Lib.hid (ih ks[j] (List.getElem_mem hjn))
      clear hA hrc hdr e1 HRC hrow hlj hlj'
      by_cases hgr : 20000 < cc
      · have hrc := HRC2.out
        rw [if_pos hgr] at hrc
        injection hrc with h1 h2
        subst h1 h2
        have t3 : decide ((20000 : Int) < cc) = true := by simp; omega
        clear HRC2
        go_wp2_with (first
                          | ((with_reducible refine this_op (.indexAddr 26 (.tmp 23) (.tmp 25)) ?_); refine wpList_index_at rfl 26 (.tmp 23) (.tmp 25) rfl _ a _ _ rfl HA.out j rfl hlt 28 Tryz.underlying26 8 tm_size ?_)
                          | ((with_reducible refine this_op (.load 28 (.tmp 27)) ?_); refine wpList_at rfl 28 (.tmp 27) rfl (a.add (j * 8)) rfl _ _ hrow' Tryz.underlying28 rfl hsij ?_)
                          | ((with_reducible refine this_op (.store 28 (.tmp 8) (.tmp 28)) ?_); refine wpList_store_row rfl 28 (.tmp 8) (.tmp 28) rfl wr.heap.size _ rfl rfl 28 _ (Blk.new wr _ _) hsij (by rw [hsj.1]; rfl) hsj.2 ?_
                             obtain ⟨W7, hW7⟩ : ∃ W7, (wr.alloc (.cells #[.int .i64 0, .int .i64 0, .string ByteArray.empty, .int .i64 0, .int .i64 0, .slice none 0 0, .slice none 0 0, .slice none 0 0] 28)).setRow wr.heap.size csj = W7 := ⟨_, rfl⟩
                             have hu7 : Upd nob wr W7 := by rw [← hW7]; exact ((Upd.refl nob wr).alloc _).setRow (.inr (Nat.le_refl _)) _
                             have hb7 : Blk W7 wr.heap.size 28 csj := by rw [← hW7]; exact (Blk.new wr _ _).row _
                             rw [hW7]
                             clear hW7
                             have r7 := hb7.rowAt
                             have hb7b := HBC.out.upd hu7 (fun f => f)
                             have c7 : W7.cell? ⟨nb, 0, none⟩ = some (.int .i64 cc) := hb7b.cell 0
                             have HB7 := Lib.hid hb7b
                             clear hb7 hb7b c1))
        go_ret
        exact ⟨rfl, HB7.out, hu03.trans (hus.trans (hu7.mono (fun _ f => f.elim)))⟩
      have hrc := HRC2.out
      rw [if_neg hgr] at hrc
      have hcc2 : cc ≤ 20000 := by omega
      have t3 : decide ((20000 : Int) < cc) = false := by simp; omega
      have hdd : IntKind.i64.wrap ((d : Int) + 1) = ((d + 1 : Nat) : Int) := (IntWalk.i64_in _ (by omega)).trans (by omega)
      have HRC3 := Lib.hid hrc
      clear hrc HRC2
      go_wp2_with (first
                        | ((with_reducible refine this_op (.indexAddr 26 (.tmp 23) (.tmp 25)) ?_); refine wpList_index_at rfl 26 (.tmp 23) (.tmp 25) rfl _ a _ _ rfl HA.out j rfl hlt 28 Tryz.underlying26 8 tm_size ?_)
                        | ((with_reducible refine this_op (.load 28 (.tmp 27)) ?_); refine wpList_at rfl 28 (.tmp 27) rfl (a.add (j * 8)) rfl _ _ hrow' Tryz.underlying28 rfl hsij ?_)
                        | ((with_reducible refine this_op (.store 28 (.tmp 8) (.tmp 28)) ?_); refine wpList_store_row rfl 28 (.tmp 8) (.tmp 28) rfl wr.heap.size _ rfl rfl 28 _ (Blk.new wr _ _) hsij (by rw [hsj.1]; rfl) hsj.2 ?_
                           obtain ⟨W7, hW7⟩ : ∃ W7, (wr.alloc (.cells #[.int .i64 0, .int .i64 0, .string ByteArray.empty, .int .i64 0, .int .i64 0, .slice none 0 0, .slice none 0 0, .slice none 0 0] 28)).setRow wr.heap.size csj = W7 := ⟨_, rfl⟩
                           have hu7 : Upd nob wr W7 := by rw [← hW7]; exact ((Upd.refl nob wr).alloc _).setRow (.inr (Nat.le_refl _)) _
                           have hb7 : Blk W7 wr.heap.size 28 csj := by rw [← hW7]; exact (Blk.new wr _ _).row _
                           rw [hW7]
                           clear hW7
                           have r7 := hb7.rowAt
                           have hb7b := HBC.out.upd hu7 (fun f => f)
                           have c7 : W7.cell? ⟨nb, 0, none⟩ = some (.int .i64 cc) := hb7b.cell 0
                           have HB7 := Lib.hid hb7b
                           clear hb7 hb7b c1)
                        | ((with_reducible refine this_op (.load 28 (.tmp 8)) ?_); go_big_want; refine owp_load_at 28 (.tmp 8) rfl ⟨wr.heap.size, 0, none⟩ rfl _ _ r7 Tryz.underlying28 rfl hsij ?_))
      refine (HIH.out csj D (d + 1) cc nb W7 (HLJ.out.old (hDr.old hu7) (fun _ h => h)) (hDr.up hu7) hnb HB7.out hcc2 (by omega)).mono ?_
      rintro e w8 ⟨rfl, hb8, hu8⟩
      have hrc := HRC3.out
      have hle := rcnt_le ks[j] (d + 1) cc hcc2
      obtain ⟨⟨Y1, Y2⟩, hY⟩ : ∃ Y, rcnt ks[j] (d + 1) cc = Y := ⟨_, rfl⟩
      rw [hY] at hrc hb8 hle ⊢
      simp only at hrc hb8 hle ⊢
      have hu38 : Upd (fun q => q = nb) w3 w8 := hus.trans ((hu7.mono (fun _ f => f.elim)).trans hu8)
      have HB8 := Lib.hid hb8
      clear hb8 hY HRC3 c7 r7
      cases Y1 with
      | true =>
       rw [if_pos rfl] at hrc
       have HRC4 := Lib.hid hrc
       clear hrc
       go_wp2_with fail
       go_roundg (gk - 1)
       case measure => omega
       case rel => exact ⟨j + 1, Y2, by omega, by go_num, HB8.out, hle, HRC4.out, hu38⟩
      | false =>
       rw [if_neg (by decide)] at hrc
       injection hrc with h1 h2
       subst h1 h2
       go_wp2_with fail
       go_ret
       exact ⟨rfl, HB8.out, hu03.trans hu38⟩
    have t2 : decide ((j : Int) < q) = false := by simp; omega
    have hrc := HRC.out
    have e1 : q - j = 0 := by omega
    rw [e1, rcnts] at hrc
    injection hrc with h1 h2
    subst h1 h2
    clear HRC
    by_cases hle : cc ≤ 20000
    · have t4 : decide ((cc : Int) ≤ 20000) = true := by simp; omega
      go_wp2_with fail
      go_ret
      exact ⟨by simp [hle], HBC.out, hu03.trans hus⟩
    have t4 : decide ((cc : Int) ≤ 20000) = false := by simp; omega
    go_wp2_with fail
    go_ret
    exact ⟨by simp [hle], HBC.out, hu03.trans hus⟩
theorem rgreat_any (t : Tm) (cs : Array Value) (D : Nat → Prop) (w : World) (hD : Within D w) (hl : TmIs D w t cs) :
    Calls Tryz.prog 23 #[.agg cs] w fun e w' => e = .returned (.bool (rgreat t)) ∧ Below w.heap.size w w' := by
 have hs := hl.oneCell
 have hsi : (Tryz.prog.info? 28).map (·.size) = some cs.size := by rw [hs.1]; exact tm_size
 obtain ⟨X, hX⟩ : ∃ X, rgreat t = X := ⟨_, rfl⟩
 rw [hX]
 have HX := Lib.hid hX; clear hX
 obtain ⟨W1, hW1⟩ : ∃ W1, (w.alloc (.cells cs 28)).alloc (.cells #[.int .i64 0] 3) = W1 := ⟨_, rfl⟩
 have huW1 : Upd nob w W1 := by rw [← hW1]; exact ((Upd.refl nob w).alloc _).alloc _
 have hsW1 : W1.heap.size = w.heap.size + 2 := by rw [← hW1]; simp
 have bk0 : Blk W1 (w.heap.size) 28 cs := by
  rw [← hW1]
  have h := Blk.new (w) 28 cs
  exact h.alloc _
 have bk1 : Blk W1 (w.heap.size + 1) 3 #[.int .i64 0] := by
  rw [← hW1]
  have h := Blk.new (w.alloc (.cells cs 28)) 3 #[.int .i64 0]
  rw [World.size_alloc] at h
  exact h
 have hl1 := hl.old (hD.old huW1) (fun _ h => h)
 have hD1 := hD.up huW1
 have r0 := bk0.rowAt
 have HB1 := Lib.hid bk1
 have HW1 := Lib.hid hW1
 rw [← hW1] at r0
 have HL1 := Lib.hid hl1
 clear hW1 bk0 bk1 hl hl1
 go_enter Tryz.func23, Tryz.ntmps23
 go_wp2_with (first
     | ((with_reducible refine this_op (.load 28 (.tmp 1)) ?_); refine wpList_at rfl 28 (.tmp 1) rfl ⟨w.heap.size, 0, none⟩ rfl _ _ r0 Tryz.underlying28 rfl hsi ?_))
 rw [HW1.out]
 refine (rcnt_any t cs D 1 0 (w.heap.size + 1) W1 HL1.out hD1 (fun h => by have := hD _ h; omega) HB1.out (by omega) (by omega)).mono ?_
 rintro e w2 ⟨rfl, _, hu2⟩
 have hb : Below w.heap.size w w2 := (huW1.trans' hu2 (fun q hq h => by omega)).below
 obtain ⟨b, hb2⟩ : ∃ b, (rcnt t 1 0).1 = b := ⟨_, rfl⟩
 have e2 : X = !b := by rw [← HX.out, rgreat, hb2]
 rw [hb2]
 subst e2
 clear hb2 r0 HX
 cases b <;> (go_wp2_with fail; go_ret; exact ⟨rfl, hb⟩)
end Go.Proofs.YtiampoebdmflgaaGreat
/- The reference's same, Same. -/
namespace Go.Proofs.YtiampoebdmflgaaGreat
open Go.RowKit
set_option linter.unusedVariables false
set_option maxRecDepth 100000
set_option maxHeartbeats 4000000
set_option linter.unusedSimpArgs false
def reqs : List Lv → List Lv → Bool
 | [], [] => true
 | a :: l, b :: r => req a b && reqs l r
 | _, _ => false
theorem reqs_len : ∀ {l r : List Lv}, l.length ≠ r.length → reqs l r = false
 | [], [], h => absurd rfl h
 | [], _ :: _, _ => rfl
 | _ :: _, [], _ => rfl
 | a :: l, b :: r, h => by rw [reqs, reqs_len (l := l) (r := r) (fun h2 => h (by simp [h2])), Bool.and_false]
mutual
def rsame : Tm → Tm → Bool
 | .mk k n nm lv ls ks, b =>
  if k ≠ b.k ∨ (Tm.mk k n nm lv ls ks).rleaf ≠ b.rleaf then false
  else if (Tm.mk k n nm lv ls ks).rleaf = true then true
  else if k = 1 then n == b.n else if k = 2 then req lv b.lv else if k = 7 then (nm.toList == b.nm.toList && reqs ls b.ls)
  else rsames (tar k).toNat ks b.ks
def rsames : Nat → List Tm → List Tm → Bool
 | 0, _, _ => true
 | m + 1, a :: as_, b :: bs => rsame a b && rsames m as_ bs
 | _ + 1, _, _ => true
end
theorem rsame_eq {k n : Int} {nm : ByteArray} {lv : Lv} {ls : List Lv} {ks : List Tm} {b : Tm} (h : k = b.k) (hl : (Tm.mk k n nm lv ls ks).rleaf = b.rleaf) :
    rsame (.mk k n nm lv ls ks) b = if (Tm.mk k n nm lv ls ks).rleaf = true then true
    else if k = 1 then n == b.n else if k = 2 then req lv b.lv else if k = 7 then (nm.toList == b.nm.toList && reqs ls b.ls) else rsames (tar k).toNat ks b.ks := by
 rw [rsame, if_neg (fun hh => hh.elim (fun h1 => h1 h) (fun h1 => h1 hl))]
theorem rsame_eq2 {k n m : Int} {nm nmb : ByteArray} {lv lvb : Lv} {ls lsb : List Lv} {ks ksb : List Tm} (hl : (Tm.mk k n nm lv ls ks).rleaf = (Tm.mk k m nmb lvb lsb ksb).rleaf) :
    rsame (.mk k n nm lv ls ks) (.mk k m nmb lvb lsb ksb) = if (Tm.mk k n nm lv ls ks).rleaf = true then true
    else if k = 1 then n == m else if k = 2 then req lv lvb else if k = 7 then (nm.toList == nmb.toList && reqs ls lsb) else rsames (tar k).toNat ks ksb := rsame_eq rfl hl
theorem rsame_any (a : Tm) : ∀ (b : Tm) (ca cb : Array Value) (D : Nat → Prop) (w : World), Within D w → TmIs D w a ca → TmIs D w b cb →
    Calls Tryz.prog 37 #[.agg ca, .agg cb] w fun e w' => e = .returned (.bool (rsame a b)) ∧ Below w.heap.size w w' := by
 induction a using Tm.ind with
 | h ka na nma lva lsa ksa ih =>
  intro b ca cb D w hD ha hb
  obtain ⟨kb, nb, nmb, lvb, lsb, ksb⟩ := b
  have ha0 := Lib.hid ha
  have hb0 := Lib.hid hb
  obtain ⟨xa, ya, za, Aa, c_a, Aa', c_a', rfl, hka, hna, hnma, hlva, hls1a, hlsa, hks1a, hksa⟩ := ha.lit
  obtain ⟨xb, yb, zb, Ab, c_b, Ab', c_b', rfl, hkb, hnb, hnmb, hlvb, hls1b, hlsb, hks1b, hksb⟩ := hb.lit
  simp only [Tm.k, Tm.n, Tm.nm, Tm.lv, Tm.ls, Tm.ks] at ha0 hb0 hka hna hnma hlva hls1a hlsa hks1a hksa hkb hnb hnmb hlvb hls1b hlsb hks1b hksb ⊢
  clear ha hb
  obtain ⟨X, hX⟩ : ∃ X, rsame (.mk ka na nma lva lsa ksa) (.mk kb nb nmb lvb lsb ksb) = X := ⟨_, rfl⟩
  rw [hX]
  have HX := Lib.hid hX; clear hX
  obtain ⟨W1, hW1⟩ : ∃ W1, (w.alloc (.cells #[.int .i64 ka, .int .i64 na, .string nma, xa, ya, za, .slice Aa lsa.length c_a, .slice Aa' ksa.length c_a'] 28)).alloc (.cells #[.int .i64 kb, .int .i64 nb, .string nmb, xb, yb, zb, .slice Ab lsb.length c_b, .slice Ab' ksb.length c_b'] 28) = W1 := ⟨_, rfl⟩
  have huW1 : Upd nob w W1 := by rw [← hW1]; exact ((Upd.refl nob w).alloc _).alloc _
  have hsW1 : W1.heap.size = w.heap.size + 2 := by rw [← hW1]; simp
  have b0 : Blk W1 (w.heap.size) 28 #[.int .i64 ka, .int .i64 na, .string nma, xa, ya, za, .slice Aa lsa.length c_a, .slice Aa' ksa.length c_a'] := by
   rw [← hW1]
   have h := Blk.new (w) 28 #[.int .i64 ka, .int .i64 na, .string nma, xa, ya, za, .slice Aa lsa.length c_a, .slice Aa' ksa.length c_a']
   exact h.alloc _
  have b1 : Blk W1 (w.heap.size + 1) 28 #[.int .i64 kb, .int .i64 nb, .string nmb, xb, yb, zb, .slice Ab lsb.length c_b, .slice Ab' ksb.length c_b'] := by
   rw [← hW1]
   have h := Blk.new (w.alloc (.cells #[.int .i64 ka, .int .i64 na, .string nma, xa, ya, za, .slice Aa lsa.length c_a, .slice Aa' ksa.length c_a'] 28)) 28 #[.int .i64 kb, .int .i64 nb, .string nmb, xb, yb, zb, .slice Ab lsb.length c_b, .slice Ab' ksb.length c_b']
   rw [World.size_alloc] at h
   exact h
  have HW1 := Lib.hid hW1
  have B0 := Lib.hid b0
  have B1 := Lib.hid b1
  have hDW := hD.up huW1
  have ha1 := Lib.hid (ha0.out.old (hD.old huW1) (fun _ h => h))
  have hb1 := Lib.hid (hb0.out.old (hD.old huW1) (fun _ h => h))
  have q0 : W1.cell? ⟨w.heap.size, 0, none⟩ = some (.int .i64 ka) := b0.cell 0
  have q1 : W1.cell? ⟨w.heap.size + 1, 0, none⟩ = some (.int .i64 kb) := b1.cell 0
  have r0 := b0.rowAt
  have r1 := b1.rowAt
  clear hW1 b0 b1
  go_enter Tryz.func37, Tryz.ntmps37
  go_wp2_with fail
  rw [HW1.out]
  by_cases hkk : ka = kb
  · subst hkk
    have t1 : (ka != ka) = false := by simp
    refine wp_region_P (by kernel_rfl) ?_
    refine wpAny_of_held (S := fun X : World => ∀ p : Addr, p.block < W1.heap.size → X.cell? p = W1.cell? p) _ _ _ _ ?_
    have hS : ∀ p : Addr, p.block < W1.heap.size → W1.drew.cell? p = W1.cell? p := fun _ _ => rfl
    refine hT 0 ?_ rfl (by kernel_rfl) (by rfl) ?_ hS ?_
    rotate_left; · intro wx hx; clear hx; go_simp; with_reducible rfl
    try simp only [List.getElem_toArray, List.getElem_cons_succ, List.getElem_cons_zero, Act.put, List.setIfInBounds_toArray, List.set_cons_zero, List.set_cons_succ]
    refine hT 1 ?_ rfl (by kernel_rfl) (by rfl) ?_ hS ?_
    rotate_left
    · intro wx hx
      have q0 := (hx ⟨w.heap.size, 0, none⟩ (by show w.heap.size < _; omega)).trans q0
      clear hx
      go_simp
      with_reducible rfl
    try simp only [List.getElem_toArray, List.getElem_cons_succ, List.getElem_cons_zero, Act.put, List.setIfInBounds_toArray, List.set_cons_zero, List.set_cons_succ]
    refine hT 2 ?_ rfl (by kernel_rfl) (by rfl) ?_ hS ?_
    rotate_left; · intro wx hx; clear hx; go_simp; with_reducible rfl
    try simp only [List.getElem_toArray, List.getElem_cons_succ, List.getElem_cons_zero, Act.put, List.setIfInBounds_toArray, List.set_cons_zero, List.set_cons_succ]
    refine hT 3 ?_ rfl (by kernel_rfl) (by rfl) ?_ hS ?_
    rotate_left
    · intro wx hx
      have q0 := (hx ⟨w.heap.size + 1, 0, none⟩ (by show w.heap.size + 1 < _; omega)).trans q1
      clear hx
      go_simp
      with_reducible rfl
    try simp only [List.getElem_toArray, List.getElem_cons_succ, List.getElem_cons_zero, Act.put, List.setIfInBounds_toArray, List.set_cons_zero, List.set_cons_succ]
    refine hT 4 ?_ rfl (by kernel_rfl) (by rfl) ?_ hS ?_
    rotate_left; · intro wx hx; clear hx; go_simp; with_reducible rfl
    try simp only [List.getElem_toArray, List.getElem_cons_succ, List.getElem_cons_zero, Act.put, List.setIfInBounds_toArray, List.set_cons_zero, List.set_cons_succ]
    refine hT 5 ?_ rfl (by kernel_rfl) (by rfl) ?_ hS ?_
    rotate_left; · intro wx hx; clear hx; go_simp; with_reducible rfl
    try simp only [List.getElem_toArray, List.getElem_cons_succ, List.getElem_cons_zero, Act.put, List.setIfInBounds_toArray, List.set_cons_zero, List.set_cons_succ]
    refine hT 6 (.agg #[.int .i64 ka, .int .i64 na, .string nma, xa, ya, za, .slice Aa lsa.length c_a, .slice Aa' ksa.length c_a']) rfl (by kernel_rfl) (by rfl) ?_ hS ?_
    · intro wx hx
      exact run_load_at 28 (.tmp 2) rfl ⟨w.heap.size, 0, none⟩ rfl #[.int .i64 ka, .int .i64 na, .string nma, xa, ya, za, .slice Aa lsa.length c_a, .slice Aa' ksa.length c_a'] _ (row_on r0 (by show w.heap.size < _; omega) hx) Tryz.underlying28 rfl tm_size
    try simp only [List.getElem_toArray, List.getElem_cons_succ, List.getElem_cons_zero, Act.put, List.setIfInBounds_toArray, List.set_cons_zero, List.set_cons_succ]
    refine hT 8 (.agg #[.int .i64 ka, .int .i64 nb, .string nmb, xb, yb, zb, .slice Ab lsb.length c_b, .slice Ab' ksb.length c_b']) rfl (by kernel_rfl) (by rfl) ?_ hS ?_
    · intro wx hx
      exact run_load_at 28 (.tmp 3) rfl ⟨w.heap.size + 1, 0, none⟩ rfl #[.int .i64 ka, .int .i64 nb, .string nmb, xb, yb, zb, .slice Ab lsb.length c_b, .slice Ab' ksb.length c_b'] _ (row_on r1 (by show w.heap.size + 1 < _; omega) hx) Tryz.underlying28 rfl tm_size
    try simp only [List.getElem_toArray, List.getElem_cons_succ, List.getElem_cons_zero, Act.put, List.setIfInBounds_toArray, List.set_cons_zero, List.set_cons_succ]
    refine wpAnyH_alone (i := 7) (by kernel_rfl) rfl (by rfl) fun K hK => ?_
    go_simp
    refine (rleaf_any _ _ D W1.drew ha1.out.drew).mono ?_
    rintro e w3 ⟨rfl, hb3⟩
    have hu3 : Upd nob W1 w3 := ((Upd.refl nob W1).drew).trans (Upd.of_below hb3)
    refine hK _ _ (cells_of_upd hu3) ?_
    clear hK K
    try simp only [List.getElem_toArray, List.getElem_cons_succ, List.getElem_cons_zero, Act.put, List.setIfInBounds_toArray, List.set_cons_zero, List.set_cons_succ]
    have hS : ∀ p : Addr, p.block < W1.heap.size → w3.cell? p = W1.cell? p := cells_of_upd hu3
    refine wpAnyH_alone (i := 9) (by kernel_rfl) rfl (by rfl) fun K hK => ?_
    go_simp
    refine (rleaf_any _ _ D w3 (hb1.out.old (hDW.old hu3) (fun _ h => h))).mono ?_
    rintro e w4 ⟨rfl, hb4⟩
    have hu4 : Upd nob W1 w4 := hu3.trans (Upd.of_below hb4)
    refine hK _ _ (cells_of_upd hu4) ?_
    clear hK K
    try simp only [List.getElem_toArray, List.getElem_cons_succ, List.getElem_cons_zero, Act.put, List.setIfInBounds_toArray, List.set_cons_zero, List.set_cons_succ]
    have hS : ∀ p : Addr, p.block < W1.heap.size → w4.cell? p = W1.cell? p := cells_of_upd hu4
    obtain ⟨la, hla⟩ : ∃ x, (Tm.mk ka na nma lva lsa ksa).rleaf = x := ⟨_, rfl⟩
    obtain ⟨lb, hlb⟩ : ∃ x, (Tm.mk ka nb nmb lvb lsb ksb).rleaf = x := ⟨_, rfl⟩
    rw [hla, hlb]
    have HLA := Lib.hid hla
    have HLB := Lib.hid hlb
    clear hla hlb
    refine hT 10 ?_ rfl (by kernel_rfl) (by rfl) ?_ hS ?_
    rotate_left; · intro wx hx; clear hx; go_simp; with_reducible rfl
    try simp only [List.getElem_toArray, List.getElem_cons_succ, List.getElem_cons_zero, Act.put, List.setIfInBounds_toArray, List.set_cons_zero, List.set_cons_succ]
    refine hT 11 ?_ rfl (by kernel_rfl) (by rfl) ?_ hS ?_
    rotate_left; · intro wx hx; clear hx; go_simp; with_reducible rfl
    try simp only [List.getElem_toArray, List.getElem_cons_succ, List.getElem_cons_zero, Act.put, List.setIfInBounds_toArray, List.set_cons_zero, List.set_cons_succ]
    refine wpAnyH_done (by kernel_rfl) ?_ _
    refine NoPanic.normal ?_
    have hu9 : Upd nob w w4 := huW1.trans hu4
    have v00 := (B0.out.upd hu4 (fun f => f)).rowAt
    clear q0 q1 r0 r1 hS
    by_cases hll : la = lb
    · subst hll
      have hXX : X = if la = true then true else if ka = 1 then na == nb else if ka = 2 then req lva lvb else if ka = 7 then (nma.toList == nmb.toList && reqs lsa lsb) else rsames (tar ka).toNat ksa ksb := by
       refine HX.out.symm.trans ((rsame_eq2 (HLA.out.trans HLB.out.symm)).trans ?_)
       rw [HLA.out]
      have HXX := Lib.hid hXX
      clear HX hXX
      have t3 : (!la == la) = false := by cases la <;> rfl
      rw [t3]
      clear t3
      go_wp2_with (first
                  | ((with_reducible refine this_op (.load 28 (.tmp 2)) ?_); refine wpList_at rfl 28 (.tmp 2) rfl ⟨w.heap.size, 0, none⟩ rfl _ _ v00 Tryz.underlying28 rfl tm_size ?_))
      refine (rleaf_any _ _ D w4 ((ha0.out.old (hD.old hu9) (fun _ h => h)))).mono ?_
      rintro e w5 ⟨rfl, hb5⟩
      rw [HLA.out]
      have hu5 : Upd nob w w5 := hu9.trans (Upd.of_below hb5)
      have hu15 : Upd nob W1 w5 := hu4.trans (Upd.of_below hb5)
      clear v00
      cases la with
      | true =>
       have hx : X = true := by rw [HXX.out, if_pos rfl]
       clear HXX
       subst hx
       go_wp2_with fail
       go_ret
       exact ⟨rfl, hu5.below⟩
      | false =>
       have hXX : X = if ka = 1 then na == nb else if ka = 2 then req lva lvb else if ka = 7 then (nma.toList == nmb.toList && reqs lsa lsb) else rsames (tar ka).toNat ksa ksb := by rw [HXX.out, if_neg (by decide)]
       have C0 := B0.out.upd hu15 (fun f => f)
       have C1 := B1.out.upd hu15 (fun f => f)
       have p00 : w5.cell? ⟨w.heap.size, 0, none⟩ = some (.int .i64 ka) := C0.cell 0
       have p01 : w5.cell? ⟨w.heap.size, 1, none⟩ = some (.int .i64 na) := C0.cell 1
       have p02 : w5.cell? ⟨w.heap.size, 2, none⟩ = some (.string nma) := C0.cell 2
       have p06 : w5.cell? ⟨w.heap.size, 6, none⟩ = some (.slice Aa lsa.length c_a) := C0.cell 6
       have p10 : w5.cell? ⟨w.heap.size + 1, 0, none⟩ = some (.int .i64 ka) := C1.cell 0
       have p11 : w5.cell? ⟨w.heap.size + 1, 1, none⟩ = some (.int .i64 nb) := C1.cell 1
       have p12 : w5.cell? ⟨w.heap.size + 1, 2, none⟩ = some (.string nmb) := C1.cell 2
       have p16 : w5.cell? ⟨w.heap.size + 1, 6, none⟩ = some (.slice Ab lsb.length c_b) := C1.cell 6
       have u0 := sub_row C0.rowAt 3 #[xa, ya, za] (fun j v hv => by rcases j with _ | _ | _ | j <;> simp at hv ⊢ <;> exact hv)
       have u1 := sub_row C1.rowAt 3 #[xb, yb, zb] (fun j v hv => by rcases j with _ | _ | _ | j <;> simp at hv ⊢ <;> exact hv)
       have hD5 := hD.up hu5
       have hlv4a := hlva.old (hD.old hu5) (fun _ h => h)
       have hlv4b := hlvb.old (hD.old hu5) (fun _ h => h)
       have hls4a := Lib.hid (hlsa.old (hD.old hu5) (fun _ h => h))
       have hls4b := Lib.hid (hlsb.old (hD.old hu5) (fun _ h => h))
       have hlt0 := C0.lt
       have hlt1 := C1.lt
       clear HXX C0 C1
       by_cases hk1 : ka = 1
       · subst hk1
         have hx : X = (na == nb) := by rw [hXX, if_pos rfl]
         clear hXX
         subst hx
         go_wp2_with fail
         go_ret
         exact ⟨rfl, hu5.below⟩
       by_cases hk2 : ka = 2
       · subst hk2
         have hx : X = req lva lvb := by rw [hXX, if_neg (by decide), if_pos rfl]
         clear hXX
         subst hx
         go_wp2_with (first
                         | ((with_reducible refine this_op (.load 25 (.tmp 32)) ?_); refine wpList_at rfl 25 (.tmp 32) rfl ⟨w.heap.size, 3, none⟩ rfl _ _ u0 Tryz.underlying25 rfl lv_size ?_)
                         | ((with_reducible refine this_op (.load 25 (.tmp 34)) ?_); refine wpList_at rfl 25 (.tmp 34) rfl ⟨w.heap.size + 1, 3, none⟩ rfl _ _ u1 Tryz.underlying25 rfl lv_size ?_))
         refine (req_any _ _ _ _ D w5 hD5 hlv4a hlv4b).mono ?_
         rintro e w6 ⟨rfl, hb6⟩
         have hu6 : Upd nob w w6 := hu5.trans (Upd.of_below hb6)
         go_wp2_with fail
         go_ret
         exact ⟨rfl, hu6.below⟩
       by_cases hk7 : ka = 7
       · subst hk7
         have hx : X = (nma.toList == nmb.toList && reqs lsa lsb) := by rw [hXX, if_neg (by decide), if_neg (by decide), if_pos rfl]
         clear hXX
         obtain ⟨q, hq⟩ : ∃ q, (nma.toList == nmb.toList) = q := ⟨_, rfl⟩
         have hqn : (nma.toList != nmb.toList) = !q := by rw [bne, hq]
         rw [hq] at hx
         cases q with
         | false =>
          rw [Bool.false_and] at hx
          subst hx
          go_wp2_with fail
          go_ret
          exact ⟨rfl, hu5.below⟩
         | true =>
          rw [Bool.true_and] at hx
          by_cases hlen : lsa.length = lsb.length
          · have tl : ((lsa.length : Int) != lsb.length) = false := by simp [hlen]
            obtain ⟨m, hm⟩ : ∃ m, lsb.length = m := ⟨_, rfl⟩
            have HMB := Lib.hid hm
            have HMA := Lib.hid (hlen.trans hm)
            have HX := Lib.hid hx
            rw [hlen] at p06 tl ⊢
            rw [hm] at p06 p16 tl ⊢
            clear hx hlen hm
            go_wp2_with fail
            go_loopg [56] m (fun r v wr => ∃ j : Nat, j + r = m ∧ v = .int .i64 j ∧ X = reqs (lsa.drop j) (lsb.drop j) ∧ Upd nob w5 wr)
            case atStart => exact ⟨0, by omega, rfl, by rw [List.drop_zero, List.drop_zero]; exact HX.out, Upd.refl _ _⟩
            case round =>
             clear HX
             obtain ⟨j, hj, rfl, hx, hur⟩ := hrel
             have HX := Lib.hid hx
             clear hx
             by_cases hlt : j < m
             · have t2 : decide ((j : Int) < m) = true := by simp [hlt]
               have hj1 : j < lsa.length := by rw [HMA.out]; exact hlt
               have hj2 : j < lsb.length := by rw [HMB.out]; exact hlt
               obtain ⟨a, cs1, hA, hab, hr1, hl1⟩ := hls4a.out.at_ (List.getElem?_eq_getElem hj1)
               obtain ⟨b, cs2, hB, hbb, hr2, hl2⟩ := hls4b.out.at_ (List.getElem?_eq_getElem hj2)
               have ho := hD5.old hur
               have r1 := hr1.old ho (by rw [Addr_add_block]; exact hab)
               have r2 := hr2.old ho (by rw [Addr_add_block]; exact hbb)
               have k1 := hl1.old ho (fun _ h => h)
               have k2 := hl2.old ho (fun _ h => h)
               rw [Nat.zero_add] at r1 r2
               have hs1 : (Tryz.prog.info? 25).map (·.size) = some cs1.size := by rw [k1.oneCell.1]; exact lv_size
               have hs2 : (Tryz.prog.info? 25).map (·.size) = some cs2.size := by rw [k2.oneCell.1]; exact lv_size
               have hsw := hur.size
               have p07 : wr.cell? ⟨w.heap.size, 6, none⟩ = some (.slice Aa m c_a) := (hur.cell hlt0 (fun f => f)).trans p06
               have p17 : wr.cell? ⟨w.heap.size + 1, 6, none⟩ = some (.slice Ab m c_b) := (hur.cell hlt1 (fun f => f)).trans p16
               have hba := hD5 _ hab
               have hbb' := hD5 _ hbb
               have HA := Lib.hid hA
               have HB := Lib.hid hB
               have hDr := hD5.up hur
               have hx := HX.out
               rw [List.drop_eq_getElem_cons hj1, List.drop_eq_getElem_cons hj2, reqs] at hx
               have HX2 := Lib.hid hx
               clear hx HX hA hB hr1 hr2 hl1 hl2
               go_wp2_with fail
               refine wp_region_P (by kernel_rfl) ?_
               refine wpAny_of_held (S := fun X : World => ∀ p : Addr, p.block < wr.heap.size → X.cell? p = wr.cell? p) _ _ _ _ ?_
               have hS : ∀ p : Addr, p.block < wr.heap.size → wr.drew.cell? p = wr.cell? p := fun _ _ => rfl
               refine hT 0 ?_ rfl (by kernel_rfl) (by rfl) ?_ hS ?_
               rotate_left; · intro wx hx; clear hx; go_simp; with_reducible rfl
               try simp only [List.getElem_toArray, List.getElem_cons_succ, List.getElem_cons_zero, Act.put, List.setIfInBounds_toArray, List.set_cons_zero, List.set_cons_succ]
               refine hT 1 ?_ rfl (by kernel_rfl) (by rfl) ?_ hS ?_
               rotate_left
               · intro wx hx
                 have q0 := (hx ⟨w.heap.size, 6, none⟩ (by show w.heap.size < _; omega)).trans p07
                 clear hx
                 go_simp
                 with_reducible rfl
               try simp only [List.getElem_toArray, List.getElem_cons_succ, List.getElem_cons_zero, Act.put, List.setIfInBounds_toArray, List.set_cons_zero, List.set_cons_succ]
               refine hT 2 ?_ rfl (by kernel_rfl) (by rfl) ?_ hS ?_
               rotate_left; · intro wx hx; clear hx; go_simp; with_reducible rfl
               try simp only [List.getElem_toArray, List.getElem_cons_succ, List.getElem_cons_zero, Act.put, List.setIfInBounds_toArray, List.set_cons_zero, List.set_cons_succ]
               refine hT 3 (.pointer (some (Addr.add a (j * 3)))) rfl (by kernel_rfl) (by rfl) ?_ hS ?_
               · intro wx hx
                 exact run_index_at 23 (.tmp 60) (.tmp 61) rfl _ a _ _ rfl HA.out j rfl hlt 25 Tryz.underlying23 3 lv_size
               try simp only [List.getElem_toArray, List.getElem_cons_succ, List.getElem_cons_zero, Act.put, List.setIfInBounds_toArray, List.set_cons_zero, List.set_cons_succ]
               refine hT 4 (.agg cs1) rfl (by kernel_rfl) (by rfl) ?_ hS ?_
               · intro wx hx
                 exact run_load_at 25 (.tmp 62) rfl (Addr.add a (j * 3)) rfl cs1 _ (row_on r1 (by rw [Addr_add_block]; omega) hx) Tryz.underlying25 rfl hs1
               try simp only [List.getElem_toArray, List.getElem_cons_succ, List.getElem_cons_zero, Act.put, List.setIfInBounds_toArray, List.set_cons_zero, List.set_cons_succ]
               refine hT 5 ?_ rfl (by kernel_rfl) (by rfl) ?_ hS ?_
               rotate_left; · intro wx hx; clear hx; go_simp; with_reducible rfl
               try simp only [List.getElem_toArray, List.getElem_cons_succ, List.getElem_cons_zero, Act.put, List.setIfInBounds_toArray, List.set_cons_zero, List.set_cons_succ]
               refine hT 6 ?_ rfl (by kernel_rfl) (by rfl) ?_ hS ?_
               rotate_left
               · intro wx hx
                 have q0 := (hx ⟨w.heap.size + 1, 6, none⟩ (by show w.heap.size + 1 < _; omega)).trans p17
                 clear hx
                 go_simp
                 with_reducible rfl
               try simp only [List.getElem_toArray, List.getElem_cons_succ, List.getElem_cons_zero, Act.put, List.setIfInBounds_toArray, List.set_cons_zero, List.set_cons_succ]
               refine hT 7 ?_ rfl (by kernel_rfl) (by rfl) ?_ hS ?_
               rotate_left; · intro wx hx; clear hx; go_simp; with_reducible rfl
               try simp only [List.getElem_toArray, List.getElem_cons_succ, List.getElem_cons_zero, Act.put, List.setIfInBounds_toArray, List.set_cons_zero, List.set_cons_succ]
               refine hT 8 (.pointer (some (Addr.add b (j * 3)))) rfl (by kernel_rfl) (by rfl) ?_ hS ?_
               · intro wx hx
                 exact run_index_at 23 (.tmp 65) (.tmp 66) rfl _ b _ _ rfl HB.out j rfl hlt 25 Tryz.underlying23 3 lv_size
               try simp only [List.getElem_toArray, List.getElem_cons_succ, List.getElem_cons_zero, Act.put, List.setIfInBounds_toArray, List.set_cons_zero, List.set_cons_succ]
               refine hT 9 (.agg cs2) rfl (by kernel_rfl) (by rfl) ?_ hS ?_
               · intro wx hx
                 exact run_load_at 25 (.tmp 67) rfl (Addr.add b (j * 3)) rfl cs2 _ (row_on r2 (by rw [Addr_add_block]; omega) hx) Tryz.underlying25 rfl hs2
               try simp only [List.getElem_toArray, List.getElem_cons_succ, List.getElem_cons_zero, Act.put, List.setIfInBounds_toArray, List.set_cons_zero, List.set_cons_succ]
               refine wpAnyH_alone (i := 10) (by kernel_rfl) rfl (by rfl) fun K hK => ?_
               go_simp
               refine (req_any lsa[j] lsb[j] cs1 cs2 D wr.drew hDr.drew k1.drew k2.drew).mono ?_
               rintro e w7 ⟨rfl, hb7⟩
               have hu77 : Upd nob wr w7 := ((Upd.refl nob wr).drew).trans (Upd.of_below hb7)
               have hu7 : Upd nob w5 w7 := hur.trans hu77
               obtain ⟨q5, hq5⟩ : ∃ q, req lsa[j] lsb[j] = q := ⟨_, rfl⟩
               rw [hq5]
               refine hK _ _ (cells_of_upd hu77) ?_
               clear hK K
               try simp only [List.getElem_toArray, List.getElem_cons_succ, List.getElem_cons_zero, Act.put, List.setIfInBounds_toArray, List.set_cons_zero, List.set_cons_succ]
               have hS : ∀ p : Addr, p.block < wr.heap.size → w7.cell? p = wr.cell? p := cells_of_upd hu77
               refine hT 11 ?_ rfl (by kernel_rfl) (by rfl) ?_ hS ?_
               rotate_left; · intro wx hx; clear hx; go_simp; with_reducible rfl
               try simp only [List.getElem_toArray, List.getElem_cons_succ, List.getElem_cons_zero, Act.put, List.setIfInBounds_toArray, List.set_cons_zero, List.set_cons_succ]
               refine wpAnyH_done (by kernel_rfl) ?_ _
               refine NoPanic.normal ?_
               have hx := HX2.out
               rw [hq5] at hx
               clear HX2 hq5
               cases q5 with
               | true =>
                rw [Bool.true_and] at hx
                have HX := Lib.hid hx; clear hx
                go_wp2_with fail
                go_roundg (gk - 1)
                case measure => omega
                case rel => exact ⟨j + 1, by omega, by simp, HX.out, hu7⟩
               | false =>
                rw [Bool.false_and] at hx
                subst hx
                go_wp2_with fail
                go_ret
                exact ⟨rfl, (hu5.trans hu7).below⟩
             have t2 : decide ((j : Int) < m) = false := by simp; omega
             have hx := HX.out
             rw [List.drop_eq_nil_of_le (by rw [HMA.out]; omega), List.drop_eq_nil_of_le (by rw [HMB.out]; omega), reqs] at hx
             subst hx
             go_wp2_with fail
             go_ret
             exact ⟨rfl, (hu5.trans hur).below⟩
          have tl : ((lsa.length : Int) != lsb.length) = true := by simp; omega
          rw [reqs_len hlen] at hx
          subst hx
          clear hlen
          go_wp2_with fail
          go_ret
          exact ⟨rfl, hu5.below⟩
       have e1 : (ka == 1) = false := by simpa using hk1
       have e2 : (ka == 2) = false := by simpa using hk2
       have e7 : (ka == 7) = false := by simpa using hk7
       have hx : X = rsames (tar ka).toNat ksa ksb := by rw [hXX, if_neg hk1, if_neg hk2, if_neg hk7]
       clear hXX
       have HK := Lib.hid (And.intro hk1 (And.intro hk2 hk7))
       clear hk1 hk2 hk7
       have h1 : (decide (tar ka < 0) || decide ((ksa.length : Int) < tar ka)) = false := HLA.out
       have h2 : (decide (tar ka < 0) || decide ((ksb.length : Int) < tar ka)) = false := HLB.out
       simp only [Bool.or_eq_false_iff, decide_eq_false_iff_not] at h1 h2
       have hta := rkids_any ka
       obtain ⟨m, hm⟩ : ∃ m : Nat, tar ka = m := ⟨(tar ka).toNat, by omega⟩
       have htl := tar_le ka
       rw [hm] at hx h1 h2 hta htl
       have hm1 : m ≤ ksa.length := by omega
       have hm2 : m ≤ ksb.length := by omega
       have hm3 : m ≤ 3 := by omega
       have hmn : ((m : Int)).toNat = m := by omega
       rw [hmn] at hx
       have HX := Lib.hid hx
       clear h1 h2 hm hx htl hmn
       go_wp2_with fail
       refine (hta w5).mono ?_
       rintro e w6 ⟨rfl, hw6⟩
       obtain rfl : w5 = w6 := hw6.symm
       clear hta
       go_wp2_with fail
       go_loopg [75] m (fun q v wr => ∃ j : Nat, j + q = m ∧ v = .int .i64 j ∧ rsames (m - j) (ksa.drop j) (ksb.drop j) = X ∧ Upd nob W1 wr)
       case atStart => exact ⟨0, by omega, rfl, by rw [List.drop_zero, List.drop_zero, Nat.sub_zero]; exact HX.out.symm, hu15⟩
       case round =>
        clear HX p00 p01 p02 p06 p10 p11 p12 p16
        obtain ⟨j, hj, rfl, hx, hur⟩ := hrel
        rcases Nat.eq_zero_or_pos gk with hk0 | hk0
        · have t2 : decide ((j : Int) < m) = false := by simp; omega
          rw [show m - j = 0 by omega, rsames] at hx
          subst hx
          go_wp2_with fail
          go_ret
          exact ⟨rfl, (huW1.trans hur).below⟩
        have hjm : j < m := by omega
        have t2 : decide ((j : Int) < m) = true := by simp [hjm]
        have hj1 : j < ksa.length := by omega
        have hj2 : j < ksb.length := by omega
        rw [show m - j = (m - (j + 1)) + 1 by omega, List.drop_eq_getElem_cons hj1, List.drop_eq_getElem_cons hj2, rsames] at hx
        have huwr := huW1.trans hur
        obtain ⟨a, cs1, hA, hab, hr1, hl1⟩ := hksa.at_ (List.getElem?_eq_getElem hj1)
        obtain ⟨b, cs2, hB, hbb, hr2, hl2⟩ := hksb.at_ (List.getElem?_eq_getElem hj2)
        have ho := hD.old huwr
        have r1 := hr1.old ho (by rw [Addr_add_block]; exact hab)
        have r2 := hr2.old ho (by rw [Addr_add_block]; exact hbb)
        have k1 := hl1.old ho (fun _ h => h)
        have k2 := hl2.old ho (fun _ h => h)
        rw [Nat.zero_add] at r1 r2
        have hs1 : (Tryz.prog.info? 28).map (·.size) = some cs1.size := by rw [k1.oneCell.1]; exact tm_size
        have hs2 : (Tryz.prog.info? 28).map (·.size) = some cs2.size := by rw [k2.oneCell.1]; exact tm_size
        have p07 : wr.cell? ⟨w.heap.size, 7, none⟩ = some (.slice Aa' ksa.length c_a') := (B0.out.upd hur (fun f => f)).cell 7
        have p17 : wr.cell? ⟨w.heap.size + 1, 7, none⟩ = some (.slice Ab' ksb.length c_b') := (B1.out.upd hur (fun f => f)).cell 7
        have hba := hD _ hab
        have hbb' := hD _ hbb
        have hwz := huwr.size
        have hsw := hur.size
        have HX := Lib.hid hx
        have HA := Lib.hid hA
        have HB := Lib.hid hB
        have hDr := hD.up huwr
        have hmem : ksa[j] ∈ ksa := List.getElem_mem hj1
        clear hx hA hB hr1 hr2 hl1 hl2
        go_wp2_with fail
        refine wp_region_P (by kernel_rfl) ?_
        refine wpAny_of_held (S := fun X : World => ∀ p : Addr, p.block < wr.heap.size → X.cell? p = wr.cell? p) _ _ _ _ ?_
        have hS : ∀ p : Addr, p.block < wr.heap.size → wr.drew.cell? p = wr.cell? p := fun _ _ => rfl
        refine hT 0 ?_ rfl (by kernel_rfl) (by rfl) ?_ hS ?_
        rotate_left; · intro wx hx; clear hx; go_simp; with_reducible rfl
        try simp only [List.getElem_toArray, List.getElem_cons_succ, List.getElem_cons_zero, Act.put, List.setIfInBounds_toArray, List.set_cons_zero, List.set_cons_succ]
        refine hT 1 ?_ rfl (by kernel_rfl) (by rfl) ?_ hS ?_
        rotate_left
        · intro wx hx
          have q0 := (hx ⟨w.heap.size, 7, none⟩ (by show w.heap.size < _; omega)).trans p07
          clear hx
          go_simp
          with_reducible rfl
        try simp only [List.getElem_toArray, List.getElem_cons_succ, List.getElem_cons_zero, Act.put, List.setIfInBounds_toArray, List.set_cons_zero, List.set_cons_succ]
        refine hT 2 ?_ rfl (by kernel_rfl) (by rfl) ?_ hS ?_
        rotate_left; · intro wx hx; clear hx; go_simp; with_reducible rfl
        try simp only [List.getElem_toArray, List.getElem_cons_succ, List.getElem_cons_zero, Act.put, List.setIfInBounds_toArray, List.set_cons_zero, List.set_cons_succ]
        refine hT 3 (.pointer (some (Addr.add a (j * 8)))) rfl (by kernel_rfl) (by rfl) ?_ hS ?_
        · intro wx hx
          exact run_index_at 26 (.tmp 79) (.tmp 80) rfl _ a _ _ rfl HA.out j rfl hj1 28 Tryz.underlying26 8 tm_size
        try simp only [List.getElem_toArray, List.getElem_cons_succ, List.getElem_cons_zero, Act.put, List.setIfInBounds_toArray, List.set_cons_zero, List.set_cons_succ]
        refine hT 4 (.agg cs1) rfl (by kernel_rfl) (by rfl) ?_ hS ?_
        · intro wx hx
          exact run_load_at 28 (.tmp 81) rfl (Addr.add a (j * 8)) rfl cs1 _ (row_on r1 (by rw [Addr_add_block]; omega) hx) Tryz.underlying28 rfl hs1
        try simp only [List.getElem_toArray, List.getElem_cons_succ, List.getElem_cons_zero, Act.put, List.setIfInBounds_toArray, List.set_cons_zero, List.set_cons_succ]
        refine hT 5 ?_ rfl (by kernel_rfl) (by rfl) ?_ hS ?_
        rotate_left; · intro wx hx; clear hx; go_simp; with_reducible rfl
        try simp only [List.getElem_toArray, List.getElem_cons_succ, List.getElem_cons_zero, Act.put, List.setIfInBounds_toArray, List.set_cons_zero, List.set_cons_succ]
        refine hT 6 ?_ rfl (by kernel_rfl) (by rfl) ?_ hS ?_
        rotate_left
        · intro wx hx
          have q0 := (hx ⟨w.heap.size + 1, 7, none⟩ (by show w.heap.size + 1 < _; omega)).trans p17
          clear hx
          go_simp
          with_reducible rfl
        try simp only [List.getElem_toArray, List.getElem_cons_succ, List.getElem_cons_zero, Act.put, List.setIfInBounds_toArray, List.set_cons_zero, List.set_cons_succ]
        refine hT 7 ?_ rfl (by kernel_rfl) (by rfl) ?_ hS ?_
        rotate_left; · intro wx hx; clear hx; go_simp; with_reducible rfl
        try simp only [List.getElem_toArray, List.getElem_cons_succ, List.getElem_cons_zero, Act.put, List.setIfInBounds_toArray, List.set_cons_zero, List.set_cons_succ]
        refine hT 8 (.pointer (some (Addr.add b (j * 8)))) rfl (by kernel_rfl) (by rfl) ?_ hS ?_
        · intro wx hx
          exact run_index_at 26 (.tmp 84) (.tmp 85) rfl _ b _ _ rfl HB.out j rfl hj2 28 Tryz.underlying26 8 tm_size
        try simp only [List.getElem_toArray, List.getElem_cons_succ, List.getElem_cons_zero, Act.put, List.setIfInBounds_toArray, List.set_cons_zero, List.set_cons_succ]
        refine hT 9 (.agg cs2) rfl (by kernel_rfl) (by rfl) ?_ hS ?_
        · intro wx hx
          exact run_load_at 28 (.tmp 86) rfl (Addr.add b (j * 8)) rfl cs2 _ (row_on r2 (by rw [Addr_add_block]; omega) hx) Tryz.underlying28 rfl hs2
        try simp only [List.getElem_toArray, List.getElem_cons_succ, List.getElem_cons_zero, Act.put, List.setIfInBounds_toArray, List.set_cons_zero, List.set_cons_succ]
        refine wpAnyH_alone (i := 10) (by kernel_rfl) rfl (by rfl) fun K hK => ?_
        go_simp
        refine (ih ksa[j] hmem ksb[j] cs1 cs2 D wr.drew hDr.drew k1.drew k2.drew).mono ?_
        rintro e w7 ⟨rfl, hb7⟩
        have hu77 : Upd nob wr w7 := ((Upd.refl nob wr).drew).trans (Upd.of_below hb7)
        have hu7 : Upd nob W1 w7 := hur.trans hu77
        obtain ⟨q, hq⟩ : ∃ q, rsame ksa[j] ksb[j] = q := ⟨_, rfl⟩
        rw [hq]
        refine hK _ _ (cells_of_upd hu77) ?_
        clear hK K
        try simp only [List.getElem_toArray, List.getElem_cons_succ, List.getElem_cons_zero, Act.put, List.setIfInBounds_toArray, List.set_cons_zero, List.set_cons_succ]
        have hS : ∀ p : Addr, p.block < wr.heap.size → w7.cell? p = wr.cell? p := cells_of_upd hu77
        refine hT 11 ?_ rfl (by kernel_rfl) (by rfl) ?_ hS ?_
        rotate_left; · intro wx hx; clear hx; go_simp; with_reducible rfl
        try simp only [List.getElem_toArray, List.getElem_cons_succ, List.getElem_cons_zero, Act.put, List.setIfInBounds_toArray, List.set_cons_zero, List.set_cons_succ]
        refine wpAnyH_done (by kernel_rfl) ?_ _
        refine NoPanic.normal ?_
        have hx := HX.out
        rw [hq] at hx
        clear HX hq
        cases q with
        | true =>
         rw [Bool.true_and] at hx
         have HX := Lib.hid hx; clear hx
         go_wp2_with fail
         go_roundg (gk - 1)
         case measure => omega
         case rel => exact ⟨j + 1, by omega, by simp, HX.out, hu7⟩
        | false =>
         rw [Bool.false_and] at hx
         subst hx
         go_wp2_with fail
         go_ret
         exact ⟨rfl, (huW1.trans hu7).below⟩
    have hx : X = false := by rw [← HX.out, rsame, if_pos (.inr (by rw [HLA.out, HLB.out]; exact hll))]
    have t3 : (!la == lb) = true := by simpa using hll
    rw [t3]
    subst hx
    clear HX
    go_wp2_with fail
    go_ret
    exact ⟨rfl, hu9.below⟩
  have t1 : (ka != kb) = true := by simpa using hkk
  have hx : X = false := by rw [← HX.out, rsame, if_pos (.inl hkk)]
  subst hx
  clear HX
  refine wp_region_P (by kernel_rfl) ?_
  refine wpAny_of_held (S := fun X : World => ∀ p : Addr, p.block < W1.heap.size → X.cell? p = W1.cell? p) _ _ _ _ ?_
  have hS : ∀ p : Addr, p.block < W1.heap.size → W1.drew.cell? p = W1.cell? p := fun _ _ => rfl
  refine hT 0 ?_ rfl (by kernel_rfl) (by rfl) ?_ hS ?_
  rotate_left; · intro wx hx; clear hx; go_simp; with_reducible rfl
  try simp only [List.getElem_toArray, List.getElem_cons_succ, List.getElem_cons_zero, Act.put, List.setIfInBounds_toArray, List.set_cons_zero, List.set_cons_succ]
  refine hT 1 ?_ rfl (by kernel_rfl) (by rfl) ?_ hS ?_
  rotate_left
  · intro wx hx
    have q0 := (hx ⟨w.heap.size, 0, none⟩ (by show w.heap.size < _; omega)).trans q0
    clear hx
    go_simp
    with_reducible rfl
  try simp only [List.getElem_toArray, List.getElem_cons_succ, List.getElem_cons_zero, Act.put, List.setIfInBounds_toArray, List.set_cons_zero, List.set_cons_succ]
  refine hT 2 ?_ rfl (by kernel_rfl) (by rfl) ?_ hS ?_
  rotate_left; · intro wx hx; clear hx; go_simp; with_reducible rfl
  try simp only [List.getElem_toArray, List.getElem_cons_succ, List.getElem_cons_zero, Act.put, List.setIfInBounds_toArray, List.set_cons_zero, List.set_cons_succ]
  refine hT 3 ?_ rfl (by kernel_rfl) (by rfl) ?_ hS ?_
  rotate_left
  · intro wx hx
    have q0 := (hx ⟨w.heap.size + 1, 0, none⟩ (by show w.heap.size + 1 < _; omega)).trans q1
    clear hx
    go_simp
    with_reducible rfl
  try simp only [List.getElem_toArray, List.getElem_cons_succ, List.getElem_cons_zero, Act.put, List.setIfInBounds_toArray, List.set_cons_zero, List.set_cons_succ]
  refine hT 4 ?_ rfl (by kernel_rfl) (by rfl) ?_ hS ?_
  rotate_left; · intro wx hx; clear hx; go_simp; with_reducible rfl
  try simp only [List.getElem_toArray, List.getElem_cons_succ, List.getElem_cons_zero, Act.put, List.setIfInBounds_toArray, List.set_cons_zero, List.set_cons_succ]
  refine hT 5 ?_ rfl (by kernel_rfl) (by rfl) ?_ hS ?_
  rotate_left; · intro wx hx; clear hx; go_simp; with_reducible rfl
  try simp only [List.getElem_toArray, List.getElem_cons_succ, List.getElem_cons_zero, Act.put, List.setIfInBounds_toArray, List.set_cons_zero, List.set_cons_succ]
  refine wpAnyH_take (i := 6) (v := undef) rfl (by kernel_rfl) (by kernel_rfl) (by kernel_rfl) (fun _ _ _ h => h) (Or.inr ⟨by rfl, by rfl⟩) hS ?_
  try simp only [List.getElem_toArray, List.getElem_cons_succ, List.getElem_cons_zero, Act.put, List.setIfInBounds_toArray, List.set_cons_zero, List.set_cons_succ]
  refine wpAnyH_take (i := 7) (v := undef) rfl (by kernel_rfl) (by kernel_rfl) (by kernel_rfl) (fun _ _ _ h => h) (Or.inr ⟨by rfl, by rfl⟩) hS ?_
  try simp only [List.getElem_toArray, List.getElem_cons_succ, List.getElem_cons_zero, Act.put, List.setIfInBounds_toArray, List.set_cons_zero, List.set_cons_succ]
  refine wpAnyH_take (i := 8) (v := undef) rfl (by kernel_rfl) (by kernel_rfl) (by kernel_rfl) (fun _ _ _ h => h) (Or.inr ⟨by rfl, by rfl⟩) hS ?_
  try simp only [List.getElem_toArray, List.getElem_cons_succ, List.getElem_cons_zero, Act.put, List.setIfInBounds_toArray, List.set_cons_zero, List.set_cons_succ]
  refine wpAnyH_take (i := 9) (v := undef) rfl (by kernel_rfl) (by kernel_rfl) (by kernel_rfl) (fun _ _ _ h => h) (Or.inr ⟨by rfl, by rfl⟩) hS ?_
  try simp only [List.getElem_toArray, List.getElem_cons_succ, List.getElem_cons_zero, Act.put, List.setIfInBounds_toArray, List.set_cons_zero, List.set_cons_succ]
  refine wpAnyH_take (i := 10) (v := undef) rfl (by kernel_rfl) (by kernel_rfl) (by kernel_rfl) (fun _ _ _ h => h) (Or.inr ⟨by rfl, by rfl⟩) hS ?_
  try simp only [List.getElem_toArray, List.getElem_cons_succ, List.getElem_cons_zero, Act.put, List.setIfInBounds_toArray, List.set_cons_zero, List.set_cons_succ]
  refine hT 11 ?_ rfl (by kernel_rfl) (by rfl) ?_ hS ?_
  rotate_left; · intro wx hx; clear hx; go_simp; with_reducible rfl
  try simp only [List.getElem_toArray, List.getElem_cons_succ, List.getElem_cons_zero, Act.put, List.setIfInBounds_toArray, List.set_cons_zero, List.set_cons_succ]
  refine wpAnyH_done (by kernel_rfl) ?_ _
  refine NoPanic.normal ?_
  go_wp2_with fail
  go_ret
  exact ⟨rfl, below_drewN huW1.below 1⟩
end Go.Proofs.YtiampoebdmflgaaGreat
/- The reference's Same. -/
namespace Go.Proofs.YtiampoebdmflgaaGreat
open Go.RowKit
set_option linter.unusedVariables false
set_option maxRecDepth 100000
set_option maxHeartbeats 4000000
set_option linter.unusedSimpArgs false
def rSame (a b : Tm) : Bool := !rgreat a && (!rgreat b && rsame a b)
theorem rSame_any (a b : Tm) (ca cb : Array Value) (D : Nat → Prop) (w : World) (hD : Within D w) (ha : TmIs D w a ca) (hb : TmIs D w b cb) :
    Calls Tryz.prog 14 #[.agg ca, .agg cb] w fun e w' => e = .returned (.bool (rSame a b)) ∧ Below w.heap.size w w' := by
 have hsa := ha.oneCell
 have hsb := hb.oneCell
 have hia : (Tryz.prog.info? 28).map (·.size) = some ca.size := by rw [hsa.1]; exact tm_size
 have hib : (Tryz.prog.info? 28).map (·.size) = some cb.size := by rw [hsb.1]; exact tm_size
 obtain ⟨xb, yb, zb, Ab, c_b, Ab', c_b', rfl, _, _, _, _, _, _, _, _⟩ := hb.lit
 obtain ⟨X, hX⟩ : ∃ X, rSame a b = X := ⟨_, rfl⟩
 rw [hX]
 have HX := Lib.hid hX; clear hX
 obtain ⟨W1, hW1⟩ : ∃ W1, (w.alloc (.cells ca 28)).alloc (.cells #[.int .i64 b.k, .int .i64 b.n, .string b.nm, xb, yb, zb, .slice Ab b.ls.length c_b, .slice Ab' b.ks.length c_b'] 28) = W1 := ⟨_, rfl⟩
 have huW1 : Upd nob w W1 := by rw [← hW1]; exact ((Upd.refl nob w).alloc _).alloc _
 have hsW1 : W1.heap.size = w.heap.size + 2 := by rw [← hW1]; simp
 have b0 : Blk W1 (w.heap.size) 28 ca := by
  rw [← hW1]
  have h := Blk.new (w) 28 ca
  exact h.alloc _
 have b1 : Blk W1 (w.heap.size + 1) 28 #[.int .i64 b.k, .int .i64 b.n, .string b.nm, xb, yb, zb, .slice Ab b.ls.length c_b, .slice Ab' b.ks.length c_b'] := by
  rw [← hW1]
  have h := Blk.new (w.alloc (.cells ca 28)) 28 #[.int .i64 b.k, .int .i64 b.n, .string b.nm, xb, yb, zb, .slice Ab b.ls.length c_b, .slice Ab' b.ks.length c_b']
  rw [World.size_alloc] at h
  exact h
 have HW1 := Lib.hid hW1
 have B0 := Lib.hid b0
 have B1 := Lib.hid b1
 have r0 := b0.rowAt
 have ha1 := ha.old (hD.old huW1) (fun _ h => h)
 have hb1 := hb.old (hD.old huW1) (fun _ h => h)
 have hD1 := hD.up huW1
 clear hW1 b0 b1
 go_enter Tryz.func14, Tryz.ntmps14
 rw [← HW1.out] at r0
 go_wp2_with (first
       | ((with_reducible refine this_op (.load 28 (.tmp 2)) ?_); refine wpList_at rfl 28 (.tmp 2) rfl ⟨w.heap.size, 0, none⟩ rfl _ _ r0 Tryz.underlying28 rfl hia ?_))
 rw [HW1.out]
 refine (rgreat_any a ca D W1 hD1 ha1).mono ?_
 rintro e w2 ⟨rfl, hb2⟩
 have hu2 : Upd nob W1 w2 := Upd.of_below hb2
 have r1 := (B1.out.upd hu2 (fun f => f)).rowAt
 clear r0
 cases hga : rgreat a with
 | true =>
  have hx : X = false := by rw [← HX.out, rSame, hga]; rfl
  clear HX hga
  subst hx
  go_wp2_with fail
  go_ret
  exact ⟨rfl, (huW1.trans hu2).below⟩
 | false =>
  have hx : X = (!rgreat b && rsame a b) := by rw [← HX.out, rSame, hga]; rfl
  clear HX hga
  have HX := Lib.hid hx; clear hx
  go_wp2_with (first
          | ((with_reducible refine this_op (.load 28 (.tmp 3)) ?_); go_big_want; refine owp_load_at 28 (.tmp 3) rfl ⟨w.heap.size + 1, 0, none⟩ rfl _ _ r1 Tryz.underlying28 rfl hib ?_))
  refine (rgreat_any b _ D w2 (hD1.up hu2) (hb1.old (hD1.old hu2) (fun _ h => h))).mono ?_
  rintro e w3 ⟨rfl, hb3⟩
  have hu3 : Upd nob W1 w3 := hu2.trans (Upd.of_below hb3)
  have s0 := (B0.out.upd hu3 (fun f => f)).rowAt
  have s1 := (B1.out.upd hu3 (fun f => f)).rowAt
  clear r1
  cases hgb : rgreat b with
  | true =>
   have hx : X = false := by rw [HX.out, hgb]; rfl
   clear HX hgb
   subst hx
   go_wp2_with fail
   go_ret
   exact ⟨rfl, (huW1.trans hu3).below⟩
  | false =>
   have hx : X = rsame a b := by rw [HX.out, hgb]; rfl
   clear HX hgb
   have HX := Lib.hid hx; clear hx
   have p0 : w3.cell? ⟨w.heap.size + 1, 0, none⟩ = some (.int .i64 b.k) := (B1.out.upd hu3 (fun f => f)).cell 0
   have p1 : w3.cell? ⟨w.heap.size + 1, 1, none⟩ = some (.int .i64 b.n) := (B1.out.upd hu3 (fun f => f)).cell 1
   have p2 : w3.cell? ⟨w.heap.size + 1, 2, none⟩ = some (.string b.nm) := (B1.out.upd hu3 (fun f => f)).cell 2
   have p3 : w3.cell? ⟨w.heap.size + 1, 3, none⟩ = some (xb) := (B1.out.upd hu3 (fun f => f)).cell 3
   have p4 : w3.cell? ⟨w.heap.size + 1, 4, none⟩ = some (yb) := (B1.out.upd hu3 (fun f => f)).cell 4
   have p5 : w3.cell? ⟨w.heap.size + 1, 5, none⟩ = some (zb) := (B1.out.upd hu3 (fun f => f)).cell 5
   have p6 : w3.cell? ⟨w.heap.size + 1, 6, none⟩ = some (.slice Ab b.ls.length c_b) := (B1.out.upd hu3 (fun f => f)).cell 6
   have p7 : w3.cell? ⟨w.heap.size + 1, 7, none⟩ = some (.slice Ab' b.ks.length c_b') := (B1.out.upd hu3 (fun f => f)).cell 7
   go_wp2_with (first
             | (go_big_want; first | (refine owp_load_at 28 (.tmp 3) rfl ⟨w.heap.size + 1, 0, none⟩ rfl _ _ s1 Tryz.underlying28 rfl hib ?_) | (refine owp_load_at 28 (.tmp 2) rfl ⟨w.heap.size, 0, none⟩ rfl _ _ s0 Tryz.underlying28 rfl hia ?_)))
   refine (rsame_any a b ca _ D w3 (hD1.up hu3) (ha1.old (hD1.old hu3) (fun _ h => h)) (hb1.old (hD1.old hu3) (fun _ h => h))).mono ?_
   rintro e w4 ⟨rfl, hb4⟩
   have hu4 : Upd nob W1 w4 := hu3.trans (Upd.of_below hb4)
   have hx := HX.out
   obtain ⟨q, hq⟩ : ∃ q, rsame a b = q := ⟨_, rfl⟩
   rw [hq] at hx ⊢
   clear HX hq
   subst hx
   cases X <;> (go_wp2_with fail; go_ret; exact ⟨rfl, (huW1.trans hu4).below⟩)
end Go.Proofs.YtiampoebdmflgaaGreat
/- The reference's May of levels. -/
namespace Go.Proofs.YtiampoebdmflgaaGreat
open Go.RowKit
set_option linter.unusedVariables false
set_option maxRecDepth 100000
set_option maxHeartbeats 8000000
set_option linter.unusedSimpArgs false
mutual
def Lv.wf : Lv → Bool
 | .mk k _ ks => decide (0 ≤ lar k) && decide ((ks.length : Int) = lar k) && Lv.wfs ks
def Lv.wfs : List Lv → Bool
 | [] => true
 | l :: ls => Lv.wf l && Lv.wfs ls
end
mutual
def Lv.nodes : Lv → Nat
 | .mk _ _ ks => Lv.nodess ks + 1
def Lv.nodess : List Lv → Nat
 | [] => 0
 | l :: ls => Lv.nodes l + Lv.nodess ls
end
theorem wfs_app (a b : List Lv) : Lv.wfs (a ++ b) = (Lv.wfs a && Lv.wfs b) := by
 induction a with
 | nil => simp [Lv.wfs]
 | cons x a ih => simp [Lv.wfs, ih, Bool.and_assoc]
theorem nodess_app (a b : List Lv) : Lv.nodess (a ++ b) = Lv.nodess a + Lv.nodess b := by
 induction a with
 | nil => simp [Lv.nodess]
 | cons x a ih => simp [Lv.nodess, ih]; omega
def LMayR (l : Lv) (nb : Nat) (n : Int) (w : World) (r : Int) (w' : World) : Prop := ∃ n' : Int, Blk w' nb 3 #[.int .i64 n'] ∧ Upd (fun q => q = nb) w w' ∧ 0 ≤ n' ∧ n' ≤ 1001 ∧ (r = 0 → l.wf = true ∧ n' = n + l.nodes ∧ n' ≤ 100)
def LMayC (l : Lv) : Prop := ∀ (cs : Array Value) (D : Nat → Prop) (w : World) (vars depth n : Int) (nb : Nat), Within D w → LvIs D w l cs → ¬ D nb → Blk w nb 3 #[.int .i64 n] → 0 ≤ n → n ≤ 1000 → 0 ≤ depth → depth ≤ 1000 →
 Calls Tryz.prog 85 #[.agg cs, .int .i64 vars, .int .i64 depth, .pointer (some ⟨nb, 0, none⟩)] w fun e w' => ∃ r : Int, e = .returned (.int .i64 r) ∧ LMayR l nb n w r w'
theorem lmay_any (l : Lv) : LMayC l := by
 induction l using Lv.ind with
 | h k N ks ih =>
  intro cs D w vars depth n nb hD hl hnb hb hn0 hn1 hd0 hd1
  obtain ⟨A, c, rfl, hk, hN, hks1, hks⟩ := (by simpa only [LvIs] using hl : ∃ A c, cs = #[.int .i64 k, .int .i64 N, .slice A ks.length c] ∧ InI k ∧ InI N ∧ (ks.length * 40 ≤ 140737488351232 ∧ ks.length ≤ c) ∧ LvsAt D w ks A 0)
  have hnl : nb < w.heap.size := hb.lt
  have hwr : wrap64 (n + 1) = n + 1 := by unfold wrap64; omega
  obtain ⟨W1, hW1⟩ : ∃ W, w.setCell ⟨nb, 0, none⟩ (.int .i64 (n + 1)) = W := ⟨_, rfl⟩
  have hu1 : Upd (fun q => q = nb) w W1 := by rw [← hW1]; exact (Upd.refl (fun q => q = nb) w).setCell (.inl rfl) _
  have hb1 : Blk W1 nb 3 #[.int .i64 (n + 1)] := by rw [← hW1]; exact hb.set 0 _
  have hs1 : W1.heap.size = w.heap.size := by rw [← hW1]; simp
  obtain ⟨W2, hW2⟩ : ∃ W, W1.alloc (.cells #[.int .i64 k, .int .i64 N, .slice A ks.length c] 25) = W := ⟨_, rfl⟩
  have hu2 : Upd nob W1 W2 := by rw [← hW2]; exact (Upd.refl nob W1).alloc _
  have hb2 : Blk W2 w.heap.size 25 #[.int .i64 k, .int .i64 N, .slice A ks.length c] := by rw [← hW2, ← hs1]; exact Blk.new W1 _ _
  have hb2n := hb1.upd hu2 (fun f => f)
  have hu02 : Upd (fun q => q = nb) w W2 := hu1.trans (hu2.mono (fun _ f => f.elim))
  have q0 : w.cell? ⟨nb, 0, none⟩ = some (.int .i64 n) := hb.cell 0
  have qf := hb.frozen 0
  have s0 : W2.cell? ⟨w.heap.size, 0, none⟩ = some (.int .i64 k) := hb2.cell 0
  have s1 : W2.cell? ⟨w.heap.size, 1, none⟩ = some (.int .i64 N) := hb2.cell 1
  have s2 : W2.cell? ⟨w.heap.size, 2, none⟩ = some (.slice A ks.length c) := hb2.cell 2
  have sl : w.heap.size < W2.heap.size := hb2.lt
  have HB2N := Lib.hid hb2n
  have HB2 := Lib.hid hb2
  have HU02 := Lib.hid hu02
  have HW2 := Lib.hid (show (w.setCell ⟨nb, 0, none⟩ (.int .i64 (n + 1))).alloc (.cells #[.int .i64 k, .int .i64 N, .slice A ks.length c] 25) = W2 by rw [hW1]; exact hW2)
  have q2 : ((w.setCell ⟨nb, 0, none⟩ (.int .i64 (n + 1))).alloc (.cells #[.int .i64 k, .int .i64 N, .slice A ks.length c] 25)).cell? ⟨nb, 0, none⟩ = some (.int .i64 (n + 1)) := by rw [HW2.out]; exact hb2n.cell 0
  have HKS := Lib.hid hks
  clear hW1 hW2 hb1 hb2n hb2 hl hb hu1 hu2 hu02 hks hs1
  by_cases a1 : 32 < depth
  · have t1 : decide (32 < depth) = true := by simp [a1]
    clear s0 s1 s2 sl
    go_enter Tryz.func85, Tryz.ntmps85
    go_wp2_with fail
    rw [HW2.out]
    go_ret
    exact ⟨2, rfl, n + 1, HB2N.out, HU02.out, by omega, by omega, fun h => by cases h⟩
  have t1 : decide (32 < depth) = false := by simp [a1]
  by_cases a2 : 100 < n + 1
  · have t2 : decide (100 < n + 1) = true := by simp [a2]
    clear s0 s1 s2 sl
    go_enter Tryz.func85, Tryz.ntmps85
    go_wp2_with fail
    rw [HW2.out]
    go_ret
    exact ⟨2, rfl, n + 1, HB2N.out, HU02.out, by omega, by omega, fun h => by cases h⟩
  have t2 : decide (100 < n + 1) = false := by simp [a2]
  go_enter Tryz.func85, Tryz.ntmps85
  go_wp2_with fail
  rw [HW2.out]
  clear q0 qf q2
  by_cases b1 : lar k < 0
  · have t3 : decide (lar k < 0) = true := by simp [b1]
    refine wp_region_P (by kernel_rfl) ?_
    refine wpAny_of_S [] (fun _ X => X = W2.drew) _ _ _ _ ?_
    have hS : W2.drew = W2.drew := rfl
    refine sT 0 ?_ [] rfl (by kernel_rfl) (by rfl) ?_ hS ?_
    rotate_left
    · rintro wx ⟨L, hL, hun, hx⟩
      obtain rfl := hx
      have hx := True.intro
      clear hx hL hun
      go_simp
      with_reducible rfl
    try simp only [tl]
    refine sT 1 ?_ [] rfl (by kernel_rfl) (by rfl) ?_ hS ?_
    rotate_left
    · rintro wx ⟨L, hL, hun, hx⟩
      obtain rfl := hx
      have hx := True.intro
      have q : W2.drew.cell? ⟨w.heap.size, 0, none⟩ = some (.int .i64 k) := s0
      clear hx hL hun
      go_simp
      with_reducible rfl
    try simp only [tl]
    refine wpAnyS_one (i := 2) [] (by kernel_rfl) rfl (by rfl) fun K hK => ?_
    go_simp
    refine (rarity_any k W2.drew).mono ?_
    rintro e w' ⟨rfl, hw'⟩
    subst hw'
    refine hK _ _ rfl ?_
    clear hK K; try simp only [tl]
    refine sT 3 ?_ [] rfl (by kernel_rfl) (by rfl) ?_ hS ?_
    rotate_left
    · rintro wx ⟨L, hL, hun, hx⟩
      obtain rfl := hx
      have hx := True.intro
      clear hx hL hun
      go_simp
      with_reducible rfl
    try simp only [tl]
    refine sT 4 ?_ [] rfl (by kernel_rfl) (by rfl) ?_ hS ?_
    rotate_left
    · rintro wx ⟨L, hL, hun, hx⟩
      obtain rfl := hx
      have hx := True.intro
      clear hx hL hun
      go_simp
      with_reducible rfl
    try simp only [tl]
    refine wpAnyS_take (i := 5) (v := undef) [] rfl (by kernel_rfl) (fun _ _ _ h => h) (Or.inr ⟨by rfl, rfl⟩) hS ?_
    try simp only [tl]
    refine wpAnyS_take (i := 6) (v := undef) [] rfl (by kernel_rfl) (fun _ _ _ h => h) (Or.inr ⟨by rfl, rfl⟩) hS ?_
    try simp only [tl]
    refine wpAnyS_take (i := 7) (v := undef) [] rfl (by kernel_rfl) (fun _ _ _ h => h) (Or.inr ⟨by rfl, rfl⟩) hS ?_
    try simp only [tl]
    refine wpAnyS_take (i := 8) (v := undef) [] rfl (by kernel_rfl) (fun _ _ _ h => h) (Or.inr ⟨by rfl, rfl⟩) hS ?_
    try simp only [tl]
    refine wpAnyS_take (i := 9) (v := undef) [] rfl (by kernel_rfl) (fun _ _ _ h => h) (Or.inr ⟨by rfl, rfl⟩) hS ?_
    try simp only [tl]
    refine wpAnyS_take (i := 10) (v := undef) [] rfl (by kernel_rfl) (fun _ _ _ h => h) (Or.inr ⟨by rfl, rfl⟩) hS ?_
    try simp only [tl]
    refine wpAnyS_take (i := 11) (v := undef) [] rfl (by kernel_rfl) (fun _ _ _ h => h) (Or.inr ⟨by rfl, rfl⟩) hS ?_
    try simp only [tl]
    refine sT 12 ?_ [] rfl (by kernel_rfl) (by rfl) ?_ hS ?_
    rotate_left
    · rintro wx ⟨L, hL, hun, hx⟩
      obtain rfl := hx
      have hx := True.intro
      clear hx hL hun
      go_simp
      with_reducible rfl
    try simp only [tl]
    refine wpAnyS_one (i := 13) [] (by kernel_rfl) rfl (by rfl) fun K hK => ?_
    go_simp
    refine hK _ _ rfl ?_
    clear hK K; try simp only [tl]
    refine wpAnyS_done (by kernel_rfl) ?_
    refine NoPanic.normal ?_
    go_wp2_with fail
    go_ret
    exact ⟨1, rfl, n + 1, HB2N.out, HU02.out.drew, by omega, by omega, fun h => by cases h⟩
  have t3 : decide (lar k < 0) = false := by simp; omega
  by_cases b2 : (ks.length : Int) = lar k
  · have hlar : lar k = (ks.length : Int) := b2.symm
    have HBB := Lib.hid b2
    have HB1 := Lib.hid b1
    have t4 : decide ((ks.length : Int) < 0) = false := by simp
    clear b1 b2 t3
    refine wp_region_P (by kernel_rfl) ?_
    refine wpAny_of_S [] (fun _ X => X = W2.drew) _ _ _ _ ?_
    have hS : W2.drew = W2.drew := rfl
    refine sT 0 ?_ [] rfl (by kernel_rfl) (by rfl) ?_ hS ?_
    rotate_left
    · rintro wx ⟨L, hL, hun, hx⟩
      obtain rfl := hx
      have hx := True.intro
      clear hx hL hun
      go_simp
      with_reducible rfl
    try simp only [tl]
    refine sT 1 ?_ [] rfl (by kernel_rfl) (by rfl) ?_ hS ?_
    rotate_left
    · rintro wx ⟨L, hL, hun, hx⟩
      obtain rfl := hx
      have hx := True.intro
      have q : W2.drew.cell? ⟨w.heap.size, 0, none⟩ = some (.int .i64 k) := s0
      clear hx hL hun
      go_simp
      with_reducible rfl
    try simp only [tl]
    refine wpAnyS_one (i := 2) [] (by kernel_rfl) rfl (by rfl) fun K hK => ?_
    go_simp
    refine (rarity_any k W2.drew).mono ?_
    rintro e w' ⟨rfl, hw'⟩
    subst hw'
    refine hK _ _ rfl ?_
    clear hK K; try simp only [tl]
    refine sT 3 ?_ [] rfl (by kernel_rfl) (by rfl) ?_ hS ?_
    rotate_left
    · rintro wx ⟨L, hL, hun, hx⟩
      obtain rfl := hx
      have hx := True.intro
      clear hx hL hun
      go_simp
      with_reducible rfl
    try simp only [tl]
    refine sT 4 ?_ [] rfl (by kernel_rfl) (by rfl) ?_ hS ?_
    rotate_left
    · rintro wx ⟨L, hL, hun, hx⟩
      obtain rfl := hx
      have hx := True.intro
      clear hx hL hun
      go_simp
      with_reducible rfl
    try simp only [tl]
    refine sT 5 ?_ [] rfl (by kernel_rfl) (by rfl) ?_ hS ?_
    rotate_left
    · rintro wx ⟨L, hL, hun, hx⟩
      obtain rfl := hx
      have hx := True.intro
      clear hx hL hun
      go_simp
      with_reducible rfl
    try simp only [tl]
    refine sT 6 ?_ [] rfl (by kernel_rfl) (by rfl) ?_ hS ?_
    rotate_left
    · rintro wx ⟨L, hL, hun, hx⟩
      obtain rfl := hx
      have hx := True.intro
      have q : W2.drew.cell? ⟨w.heap.size, 2, none⟩ = some (.slice A ks.length c) := s2
      clear hx hL hun
      go_simp
      with_reducible rfl
    try simp only [tl]
    refine sT 7 ?_ [] rfl (by kernel_rfl) (by rfl) ?_ hS ?_
    rotate_left
    · rintro wx ⟨L, hL, hun, hx⟩
      obtain rfl := hx
      have hx := True.intro
      clear hx hL hun
      go_simp
      with_reducible rfl
    try simp only [tl]
    refine sT 8 ?_ [] rfl (by kernel_rfl) (by rfl) ?_ hS ?_
    rotate_left
    · rintro wx ⟨L, hL, hun, hx⟩
      obtain rfl := hx
      have hx := True.intro
      clear hx hL hun
      go_simp
      with_reducible rfl
    try simp only [tl]
    refine sT 9 ?_ [] rfl (by kernel_rfl) (by rfl) ?_ hS ?_
    rotate_left
    · rintro wx ⟨L, hL, hun, hx⟩
      obtain rfl := hx
      have hx := True.intro
      have q : W2.drew.cell? ⟨w.heap.size, 0, none⟩ = some (.int .i64 k) := s0
      clear hx hL hun
      go_simp
      with_reducible rfl
    try simp only [tl]
    refine wpAnyS_one (i := 10) [] (by kernel_rfl) rfl (by rfl) fun K hK => ?_
    go_simp
    refine (rarity_any k W2.drew).mono ?_
    rintro e w' ⟨rfl, hw'⟩
    subst hw'
    refine hK _ _ rfl ?_
    clear hK K; try simp only [tl]
    refine sT 11 ?_ [] rfl (by kernel_rfl) (by rfl) ?_ hS ?_
    rotate_left
    · rintro wx ⟨L, hL, hun, hx⟩
      obtain rfl := hx
      have hx := True.intro
      clear hx hL hun
      go_simp
      with_reducible rfl
    try simp only [tl]
    refine sT 12 ?_ [] rfl (by kernel_rfl) (by rfl) ?_ hS ?_
    rotate_left
    · rintro wx ⟨L, hL, hun, hx⟩
      obtain rfl := hx
      have hx := True.intro
      clear hx hL hun
      go_simp
      with_reducible rfl
    try simp only [tl]
    refine wpAnyS_one (i := 13) [] (by kernel_rfl) rfl (by rfl) fun K hK => ?_
    go_simp
    refine hK _ _ rfl ?_
    clear hK K; try simp only [tl]
    refine wpAnyS_done (by kernel_rfl) ?_
    refine NoPanic.normal ?_
    go_wp2_with fail
    all_goals first
     | (go_ret; exact ⟨_, rfl, n + 1, HB2N.out, HU02.out.drew, by omega, by omega, fun h => absurd h (by decide)⟩)
     | skip
    all_goals
     obtain ⟨M, hM⟩ : ∃ M, ks.length = M := ⟨_, rfl⟩
     have HM := Lib.hid hM
     have hdd : wrap64 (depth + 1) = depth + 1 := by unfold wrap64; omega
     try clear hlar
     try clear t4
     rw [hM] at hks1 ⊢
     clear hM
     go_loopg [87] M (fun q v87 wr => ∃ (j : Nat) (nn : Int), j + q = M ∧ v87 = .int .i64 j ∧ Blk wr nb 3 #[.int .i64 nn] ∧ Upd (fun q => q = nb) w wr ∧ 0 ≤ nn ∧ nn ≤ 100 ∧ Lv.wfs (ks.take j) = true ∧ nn = n + 1 + Lv.nodess (ks.take j) ∧ w.heap.size + 1 ≤ wr.heap.size)
     case atStart => exact ⟨0, n + 1, by omega, rfl, HB2N.out, HU02.out.drew, by omega, by omega, by simp [Lv.wfs], by simp [Lv.nodess], sl⟩
     case round =>
      obtain ⟨j, nn, hj, rfl, hbr, hur, hn2, hn3, hwf, hnd, hsz⟩ := hrel
      have HBR := Lib.hid hbr
      have hrl := hbr.lt
      have hoD : Old D w wr := Old.of_upd hur (fun q hq => ⟨fun h => by have h : q = nb := h; subst h; exact hnb hq, hD q hq⟩)
      clear hbr
      by_cases hlt : j < M
      · have t5 : decide ((j : Int) < M) = true := by simp [hlt]
        have hjl : j < ks.length := by have := HM.out; omega
        obtain ⟨a, ccs, hA, hab, hrow, hll⟩ := (HKS.out.old hoD (fun _ h => h)).at_ (List.getElem?_eq_getElem hjl)
        rw [Nat.zero_add] at hrow
        have HLL := Lib.hid hll
        obtain ⟨p, q, B, m, d, rfl⟩ := hll.lit3
        have HA := Lib.hid hA
        clear hA hll
        go_wp2_with (first
         | ((with_reducible refine this_op (.indexAddr 23 (.tmp 85) (.tmp 87)) ?_); refine wpList_index_at rfl 23 (.tmp 85) (.tmp 87) rfl _ a _ _ rfl HA.out j rfl hlt 25 Tryz.underlying23 3 lv_size ?_)
         | ((with_reducible refine this_op (.load 25 (.tmp 89)) ?_); refine wpList_at rfl 25 (.tmp 89) rfl (a.add (j * 3)) rfl _ _ hrow Tryz.underlying25 rfl lv_size ?_)
         | ((with_reducible refine this_op (.store 25 (.tmp 10) (.tmp 90)) ?_); refine wpList_store_row rfl 25 (.tmp 10) (.tmp 90) rfl wr.heap.size _ rfl rfl 25 _ (Blk.new wr _ _) lv_size rfl (by simp [Value.oneCell']) ?_
            obtain ⟨W4, hW4⟩ : ∃ W, (wr.alloc (.cells #[.int .i64 0, .int .i64 0, .slice none 0 0] 25)).setRow wr.heap.size #[.int .i64 p, .int .i64 q, .slice B m d] = W := ⟨_, rfl⟩
            have hu4 : Upd nob wr W4 := by rw [← hW4]; exact ((Upd.refl nob wr).alloc _).setRow (.inr (Nat.le_refl _)) _
            have hb4 : Blk W4 wr.heap.size 25 #[.int .i64 p, .int .i64 q, .slice B m d] := by rw [← hW4]; exact (Blk.new wr _ _).row _
            rw [hW4]
            clear hW4
            have hz4 : wr.heap.size + 1 ≤ W4.heap.size := hb4.lt
            have r4 := hb4.rowAt
            have HB4 := Lib.hid (HBR.out.upd hu4 (fun f => f))
            clear hb4)
         | ((with_reducible refine this_op (.load 25 (.tmp 10)) ?_); refine wpList_at rfl 25 (.tmp 10) rfl ⟨wr.heap.size, 0, none⟩ rfl _ _ r4 Tryz.underlying25 rfl lv_size ?_))
        refine (ih ks[j] (List.getElem_mem _) _ D W4 vars (depth + 1) nn nb (fun q hq => by have := hD q hq; omega) (HLL.out.old (Old.of_upd hu4 (fun q hq => ⟨fun f => f, by have := hD q hq; omega⟩)) (fun _ h => h)) hnb HB4.out hn2 (by omega) (by omega) (by omega)).mono ?_
        rintro e w5 ⟨r, rfl, n5, hb5, hu5, h50, h51, h5r⟩
        have hur5 : Upd (fun q => q = nb) w w5 := (hur.trans (hu4.mono (fun _ f => f.elim))).trans hu5
        have HB5 := Lib.hid hb5
        have H5R := Lib.hid h5r
        clear hb5 r4 h5r
        by_cases hr0 : r = 0
        · have h := H5R.out hr0
          subst hr0
          go_wp2_with fail
          go_roundg (gk - 1)
          case measure => omega
          case rel =>
           refine ⟨j + 1, n5, by omega, by go_num, HB5.out, hur5, by omega, h.2.2, ?_, ?_, by have := hu4.size; have := hu5.size; omega⟩
           · rw [List.take_succ_eq_append_getElem hjl, wfs_app, hwf]; simp [Lv.wfs, h.1]
           rw [List.take_succ_eq_append_getElem hjl, nodess_app]; have := h.2.1; have e : Lv.nodess [ks[j]] = Lv.nodes ks[j] := by simp [Lv.nodess]
           omega
        have t6 : decide (r = 0) = false := by simp [hr0]
        go_wp2_with fail
        go_ret
        exact ⟨_, rfl, n5, HB5.out, hur5, by omega, by omega, fun h => absurd h hr0⟩
      have t5 : decide ((j : Int) < M) = false := by simp; omega
      have hjM : ks.take j = ks := by rw [List.take_of_length_le]; have := HM.out; omega
      rw [hjM] at hwf hnd
      go_wp2_with fail
      go_ret
      refine ⟨_, rfl, nn, HBR.out, hur, by omega, by omega, fun _ => ⟨?_, ?_, hn3⟩⟩
      · have h1 := HBB.out
        have h2 := HB1.out
        rw [Lv.wf, hwf]
        simp
        omega
      rw [Lv.nodes]
      omega
  have t4 : ((ks.length : Int) != lar k) = true := by simp [b2]
  refine wp_region_P (by kernel_rfl) ?_
  refine wpAny_of_S [] (fun _ X => X = W2.drew) _ _ _ _ ?_
  have hS : W2.drew = W2.drew := rfl
  refine sT 0 ?_ [] rfl (by kernel_rfl) (by rfl) ?_ hS ?_
  rotate_left
  · rintro wx ⟨L, hL, hun, hx⟩
    obtain rfl := hx
    have hx := True.intro
    clear hx hL hun
    go_simp
    with_reducible rfl
  try simp only [tl]
  refine sT 1 ?_ [] rfl (by kernel_rfl) (by rfl) ?_ hS ?_
  rotate_left
  · rintro wx ⟨L, hL, hun, hx⟩
    obtain rfl := hx
    have hx := True.intro
    have q : W2.drew.cell? ⟨w.heap.size, 0, none⟩ = some (.int .i64 k) := s0
    clear hx hL hun
    go_simp
    with_reducible rfl
  try simp only [tl]
  refine wpAnyS_one (i := 2) [] (by kernel_rfl) rfl (by rfl) fun K hK => ?_
  go_simp
  refine (rarity_any k W2.drew).mono ?_
  rintro e w' ⟨rfl, hw'⟩
  subst hw'
  refine hK _ _ rfl ?_
  clear hK K; try simp only [tl]
  refine sT 3 ?_ [] rfl (by kernel_rfl) (by rfl) ?_ hS ?_
  rotate_left
  · rintro wx ⟨L, hL, hun, hx⟩
    obtain rfl := hx
    have hx := True.intro
    clear hx hL hun
    go_simp
    with_reducible rfl
  try simp only [tl]
  refine sT 4 ?_ [] rfl (by kernel_rfl) (by rfl) ?_ hS ?_
  rotate_left
  · rintro wx ⟨L, hL, hun, hx⟩
    obtain rfl := hx
    have hx := True.intro
    clear hx hL hun
    go_simp
    with_reducible rfl
  try simp only [tl]
  refine sT 5 ?_ [] rfl (by kernel_rfl) (by rfl) ?_ hS ?_
  rotate_left
  · rintro wx ⟨L, hL, hun, hx⟩
    obtain rfl := hx
    have hx := True.intro
    clear hx hL hun
    go_simp
    with_reducible rfl
  try simp only [tl]
  refine sT 6 ?_ [] rfl (by kernel_rfl) (by rfl) ?_ hS ?_
  rotate_left
  · rintro wx ⟨L, hL, hun, hx⟩
    obtain rfl := hx
    have hx := True.intro
    have q : W2.drew.cell? ⟨w.heap.size, 2, none⟩ = some (.slice A ks.length c) := s2
    clear hx hL hun
    go_simp
    with_reducible rfl
  try simp only [tl]
  refine sT 7 ?_ [] rfl (by kernel_rfl) (by rfl) ?_ hS ?_
  rotate_left
  · rintro wx ⟨L, hL, hun, hx⟩
    obtain rfl := hx
    have hx := True.intro
    clear hx hL hun
    go_simp
    with_reducible rfl
  try simp only [tl]
  refine sT 8 ?_ [] rfl (by kernel_rfl) (by rfl) ?_ hS ?_
  rotate_left
  · rintro wx ⟨L, hL, hun, hx⟩
    obtain rfl := hx
    have hx := True.intro
    clear hx hL hun
    go_simp
    with_reducible rfl
  try simp only [tl]
  refine sT 9 ?_ [] rfl (by kernel_rfl) (by rfl) ?_ hS ?_
  rotate_left
  · rintro wx ⟨L, hL, hun, hx⟩
    obtain rfl := hx
    have hx := True.intro
    have q : W2.drew.cell? ⟨w.heap.size, 0, none⟩ = some (.int .i64 k) := s0
    clear hx hL hun
    go_simp
    with_reducible rfl
  try simp only [tl]
  refine wpAnyS_one (i := 10) [] (by kernel_rfl) rfl (by rfl) fun K hK => ?_
  go_simp
  refine (rarity_any k W2.drew).mono ?_
  rintro e w' ⟨rfl, hw'⟩
  subst hw'
  refine hK _ _ rfl ?_
  clear hK K; try simp only [tl]
  refine sT 11 ?_ [] rfl (by kernel_rfl) (by rfl) ?_ hS ?_
  rotate_left
  · rintro wx ⟨L, hL, hun, hx⟩
    obtain rfl := hx
    have hx := True.intro
    clear hx hL hun
    go_simp
    with_reducible rfl
  try simp only [tl]
  refine sT 12 ?_ [] rfl (by kernel_rfl) (by rfl) ?_ hS ?_
  rotate_left
  · rintro wx ⟨L, hL, hun, hx⟩
    obtain rfl := hx
    have hx := True.intro
    clear hx hL hun
    go_simp
    with_reducible rfl
  try simp only [tl]
  refine wpAnyS_one (i := 13) [] (by kernel_rfl) rfl (by rfl) fun K hK => ?_
  go_simp
  refine hK _ _ rfl ?_
  clear hK K; try simp only [tl]
  refine wpAnyS_done (by kernel_rfl) ?_
  refine NoPanic.normal ?_
  go_wp2_with fail
  go_ret
  exact ⟨1, rfl, n + 1, HB2N.out, HU02.out.drew, by omega, by omega, fun h => by cases h⟩
end Go.Proofs.YtiampoebdmflgaaGreat
/- The reference's May of terms. -/
namespace Go.Proofs.YtiampoebdmflgaaGreat
open Go.RowKit
set_option linter.unusedVariables false
set_option maxRecDepth 100000
set_option maxHeartbeats 8000000
set_option linter.unusedSimpArgs false
theorem lmay_top (l : Lv) (cs : Array Value) (D : Nat → Prop) (w : World) (vars : Int) (hD : Within D w) (hl : LvIs D w l cs) :
    Calls Tryz.prog 54 #[.agg cs, .int .i64 vars] w fun e w' => ∃ r : Int, e = .returned (.int .i64 r) ∧ (r = 0 → l.wf = true) ∧ Upd nob w w' := by
 obtain ⟨p, q, B, m, d, rfl⟩ := hl.lit3
 obtain ⟨W1, hW1⟩ : ∃ W, (w.alloc (.cells #[.int .i64 p, .int .i64 q, .slice B m d] 25)).alloc (.cells #[.int .i64 0] 3) = W := ⟨_, rfl⟩
 have hu1 : Upd nob w W1 := by rw [← hW1]; exact ((Upd.refl nob w).alloc _).alloc _
 have hb1 : Blk W1 w.heap.size 25 #[.int .i64 p, .int .i64 q, .slice B m d] := by rw [← hW1]; exact (Blk.new w _ _).alloc _
 have hb2 : Blk W1 (w.heap.size + 1) 3 #[.int .i64 0] := by
  rw [← hW1]
  have h := Blk.new (w.alloc (.cells #[.int .i64 p, .int .i64 q, .slice B m d] 25)) 3 #[.int .i64 0]
  rw [World.size_alloc] at h
  exact h
 have r0 := hb1.rowAt
 have HB2 := Lib.hid hb2
 have HL1 := Lib.hid (hl.old (hD.old hu1) (fun _ h => h))
 rw [← hW1] at r0
 have HW1 := Lib.hid hW1
 clear hW1 hb1 hb2 hl
 go_enter Tryz.func54, Tryz.ntmps54
 go_wp2_with (first
  | ((with_reducible refine this_op (.load 25 (.tmp 2)) ?_); refine wpList_at rfl 25 (.tmp 2) rfl ⟨w.heap.size, 0, none⟩ rfl _ _ r0 Tryz.underlying25 rfl lv_size ?_))
 rw [HW1.out]
 refine (lmay_any l _ D W1 vars 1 0 (w.heap.size + 1) (hD.up hu1) HL1.out (fun h => by have := hD _ h; omega) HB2.out (by omega) (by omega) (by omega) (by omega)).mono ?_
 rintro e w2 ⟨r, rfl, n', hb, hu, _, _, hr⟩
 have HR := Lib.hid hr
 clear hr
 go_wp2_with fail
 go_ret
 exact ⟨r, rfl, fun h => (HR.out h).1, hu1.trans' hu (fun q hq h => by have h : q = w.heap.size + 1 := h; omega)⟩
def BoolR (e : Ending) (w w' : World) : Prop := (∃ b : Bool, e = .returned (.bool b)) ∧ w = w'
theorem name_any (s : ByteArray) (w : World) (hs : s.size ≤ 140737488351232) : Calls Tryz.prog 55 #[.string s] w fun e w' => BoolR e w w' := by
 go_enter Tryz.func55, Tryz.ntmps55
 go_wp2_with fail
 go_loopg [8] s.size (fun k v8 wr => ∃ j : Nat, j + k = s.size ∧ v8 = .int .i64 j ∧ w = wr)
 case atStart => exact ⟨0, by omega, rfl, rfl⟩
 case round =>
  obtain ⟨j, hj, rfl, rfl⟩ := hrel
  by_cases hlt : j < s.size
  · have t2 : decide ((j : Int) < s.size) = true := by simp [hlt]
    rcases Nat.eq_zero_or_pos j with rfl | hpos
    · go_wp2_with fail
      all_goals first
       | (go_ret; exact ⟨⟨_, rfl⟩, rfl⟩)
       | (go_roundg (gk - 1)
          case measure => omega
          case rel => exact ⟨1, by omega, by go_num, rfl⟩)
    have t3 : ((j : Int) == 0) = false := by simp; omega
    go_wp2_with fail
    all_goals first
     | (go_ret; exact ⟨⟨_, rfl⟩, rfl⟩)
     | (go_roundg (gk - 1)
        case measure => omega
        case rel => exact ⟨j + 1, by omega, by go_num, rfl⟩)
  have t2 : decide ((j : Int) < s.size) = false := by simp; omega
  go_wp2_with fail
  all_goals (go_ret; exact ⟨⟨_, rfl⟩, rfl⟩)
end Go.Proofs.YtiampoebdmflgaaGreat
