/- Texts put one behind the other: Zeq, Slc, Zcount, Zsame, Zsam, Tcoll. -/
import Derived.Test.YtiampoebdmflgaaSn3
import Derived.Test.YtiampoebdmflgaaSn2
/- The reference's sameForm, Equal. -/
namespace Go.Proofs.Ytiampoebdmflgaa
open Go.RowKit
set_option linter.unusedVariables false
set_option maxRecDepth 100000
set_option maxHeartbeats 4000000
set_option linter.unusedSimpArgs false
theorem nsame_any (m n : Nm) (cs ds : Array Value) (D : Nat → Prop) (w : World) (hD : Within D w) (hm : NmIs D w m cs) (hn : NmIs D w n ds) :
    Calls Try.prog 65 #[.agg cs, .agg ds] w fun e w' => e = .returned (.bool (m.same n)) ∧ Below w.heap.size w w' := by
 obtain ⟨A, c, rfl, ⟨hokm, _⟩, hzm⟩ := hm
 obtain ⟨B, c2, rfl, ⟨hokn, _⟩, hzn⟩ := hn
 have hlm := hokm.2.2
 have hln := hokn.2.2
 clear hokm hokn
 obtain ⟨X, hX⟩ : ∃ X, m.same n = X := ⟨_, rfl⟩
 rw [hX]
 unfold Nm.same at hX
 obtain ⟨W1, hW1⟩ : ∃ W1, (w.alloc (.cells #[.int .i64 m.c, .slice A m.ks.length c] 132)).alloc (.cells #[.int .i64 n.c, .slice B n.ks.length c2] 132) = W1 := ⟨_, rfl⟩
 have huW1 : Upd nob w W1 := by rw [← hW1]; exact ((Upd.refl nob w).alloc _).alloc _
 have hsW1 : W1.heap.size = w.heap.size + 2 := by rw [← hW1]; simp
 have bk0 : Blk W1 (w.heap.size) 132 #[.int .i64 m.c, .slice A m.ks.length c] := by
  rw [← hW1]
  have h := Blk.new (w) 132 #[.int .i64 m.c, .slice A m.ks.length c]
  exact h.alloc _
 have bk1 : Blk W1 (w.heap.size + 1) 132 #[.int .i64 n.c, .slice B n.ks.length c2] := by
  rw [← hW1]
  have h := Blk.new (w.alloc (.cells #[.int .i64 m.c, .slice A m.ks.length c] 132)) 132 #[.int .i64 n.c, .slice B n.ks.length c2]
  rw [World.size_alloc] at h
  exact h
 obtain ⟨L1, hL1⟩ : ∃ L, m.ks.length = L := ⟨_, rfl⟩
 obtain ⟨L2, hL2⟩ : ∃ L, n.ks.length = L := ⟨_, rfl⟩
 have HX := Lib.hid hX
 have HL1 := Lib.hid hL1
 have HL2 := Lib.hid hL2
 rw [hL1] at hW1 bk0 hlm ⊢
 rw [hL2] at hW1 bk1 hln ⊢
 have k0 : W1.cell? ⟨w.heap.size, 1, none⟩ = some (.slice A L1 c) := bk0.cell 1
 have k1 : W1.cell? ⟨w.heap.size + 1, 1, none⟩ = some (.slice B L2 c2) := bk1.cell 1
 have hlt0 := bk0.lt
 have hlt1 := bk1.lt
 have HW1 := Lib.hid hW1
 clear hX hL1 hL2 hW1 bk0 bk1
 have hD1 := hD.up huW1
 by_cases hc : m.c = n.c
 · by_cases hl : L1 = L2
   · subst hl
     have t1 : (m.c != n.c) = false := by simpa using hc
     have hx : decide (m.ks = n.ks) = X := by rw [← HX.out, hc]; simp
     have HX2 := Lib.hid hx
     clear hx HX hc
     go_enter Try.func65, Try.ntmps65
     go_wp2_with fail
     rw [HW1.out]
     clear HW1
     go_loopg [23] L1 (fun r v wr => ∃ j : Nat, j + r = L1 ∧ v = .int .i64 j ∧ decide (m.ks.drop j = n.ks.drop j) = X ∧ Upd nob W1 wr)
     case atStart => exact ⟨0, by omega, rfl, by rw [List.drop_zero, List.drop_zero]; exact HX2.out, Upd.refl _ _⟩
     case round =>
      clear HX2
      obtain ⟨j, hj, rfl, hdx, hus⟩ := hrel
      have hws := hus.size
      have q0 : wr.cell? ⟨w.heap.size, 1, none⟩ = some (.slice A L1 c) := (hus.cell hlt0 (fun f => f)).trans k0
      have q1 : wr.cell? ⟨w.heap.size + 1, 1, none⟩ = some (.slice B L1 c2) := (hus.cell hlt1 (fun f => f)).trans k1
      have HDX := Lib.hid hdx
      clear hdx
      by_cases hlt : j < L1
      · have t2 : decide ((j : Int) < L1) = true := by simp [hlt]
        have hj1 : j < m.ks.length := by rw [HL1.out]; exact hlt
        have hj2 : j < n.ks.length := by rw [HL2.out]; exact hlt
        obtain ⟨a, hA, hab, hcell, _⟩ := hzm j _ (List.getElem?_eq_getElem hj1)
        obtain ⟨b, hB, hbb, hcellb, _⟩ := hzn j _ (List.getElem?_eq_getElem hj2)
        have hd1 : m.ks.drop j = m.ks[j] :: m.ks.drop (j + 1) := List.drop_eq_getElem_cons hj1
        have hd2 : n.ks.drop j = n.ks[j] :: n.ks.drop (j + 1) := List.drop_eq_getElem_cons hj2
        have hdx := HDX.out
        rw [hd1, hd2] at hdx
        obtain ⟨x, hx⟩ : ∃ x, m.ks[j] = x := ⟨_, rfl⟩
        obtain ⟨y, hy⟩ : ∃ y, n.ks[j] = y := ⟨_, rfl⟩
        rw [hx] at hcell hdx
        rw [hy] at hcellb hdx
        have hua := huW1.trans hus
        have hcell1 : wr.cell? (a.add j) = some (.int .i64 x) := ((hD.old hua).cell (by rw [Addr_add_block]; exact hab)).trans hcell
        have hcell2 : wr.cell? (b.add j) = some (.int .i64 y) := ((hD.old hua).cell (by rw [Addr_add_block]; exact hbb)).trans hcellb
        have hbl := hD.up hua _ hab
        have hbl2 := hD.up hua _ hbb
        have HA := Lib.hid hA
        have HB := Lib.hid hB
        have HDX2 := Lib.hid hdx
        clear hA hB hcell hcellb hd1 hd2 hdx hx hy HDX
        go_wp2_with fail
        refine wp_region_P (by kernel_rfl) ?_
        refine wpAny_of_held (S := fun X : World => ∀ p : Addr, p.block < wr.heap.size → X.cell? p = wr.cell? p) _ _ _ _ ?_
        have hS : ∀ p : Addr, p.block < wr.heap.size → wr.drew.cell? p = wr.cell? p := fun _ _ => rfl
        refine hT 0 ?_ rfl (by kernel_rfl) (by rfl) ?_ hS ?_
        rotate_left; · intro wx hx; clear hx; go_simp; with_reducible rfl
        try simp only [tl]
        refine hT 1 ?_ rfl (by kernel_rfl) (by rfl) ?_ hS ?_
        rotate_left
        · intro wx hx
          have q0 := (hx ⟨w.heap.size, 1, none⟩ (by show w.heap.size < _; omega)).trans q0
          clear hx
          go_simp
          with_reducible rfl
        try simp only [tl]
        refine hT 2 ?_ rfl (by kernel_rfl) (by rfl) ?_ hS ?_
        rotate_left; · intro wx hx; clear hx; go_simp; with_reducible rfl
        try simp only [tl]
        refine hT 3 (.pointer (some (Addr.add a j))) rfl (by kernel_rfl) (by rfl) ?_ hS ?_
        · intro wx hx
          refine (run_index_at 130 (.tmp 27) (.tmp 28) rfl A a L1 c rfl HA.out j rfl hlt 3 Try.underlying130 1 int_size).trans ?_
          rw [Nat.mul_one]
        try simp only [tl]
        refine hT 4 (.int .i64 x) rfl (by kernel_rfl) (by rfl) ?_ hS ?_
        · intro wx hx
          have q := (hx (Addr.add a j) (by rw [Addr_add_block]; exact hbl)).trans hcell1
          clear hx
          go_simp
        try simp only [tl]
        refine hT 5 ?_ rfl (by kernel_rfl) (by rfl) ?_ hS ?_
        rotate_left; · intro wx hx; clear hx; go_simp; with_reducible rfl
        try simp only [tl]
        refine hT 6 ?_ rfl (by kernel_rfl) (by rfl) ?_ hS ?_
        rotate_left
        · intro wx hx
          have q0 := (hx ⟨w.heap.size + 1, 1, none⟩ (by show w.heap.size + 1 < _; omega)).trans q1
          clear hx
          go_simp
          with_reducible rfl
        try simp only [tl]
        refine hT 7 ?_ rfl (by kernel_rfl) (by rfl) ?_ hS ?_
        rotate_left; · intro wx hx; clear hx; go_simp; with_reducible rfl
        try simp only [tl]
        refine hT 8 (.pointer (some (Addr.add b j))) rfl (by kernel_rfl) (by rfl) ?_ hS ?_
        · intro wx hx
          refine (run_index_at 130 (.tmp 32) (.tmp 33) rfl B b L1 c2 rfl HB.out j rfl hlt 3 Try.underlying130 1 int_size).trans ?_
          rw [Nat.mul_one]
        try simp only [tl]
        refine hT 9 (.int .i64 y) rfl (by kernel_rfl) (by rfl) ?_ hS ?_
        · intro wx hx
          have q := (hx (Addr.add b j) (by rw [Addr_add_block]; exact hbl2)).trans hcell2
          clear hx
          go_simp
        try simp only [tl]
        refine hT 10 ?_ rfl (by kernel_rfl) (by rfl) ?_ hS ?_
        rotate_left; · intro wx hx; clear hx; go_simp; with_reducible rfl
        try simp only [tl]
        refine wpAnyH_done (by kernel_rfl) ?_ _
        refine NoPanic.normal ?_
        by_cases hxy : x = y
        · subst hxy
          have hdx := HDX2.out
          have HD3 : Hid (decide (m.ks.drop (j + 1) = n.ks.drop (j + 1)) = X) := Lib.hid (by rw [← hdx]; simp)
          clear hdx HDX2
          go_wp2_with fail
          go_roundg (gk - 1)
          case measure => omega
          case rel => exact ⟨j + 1, by omega, by go_num, HD3.out, hus.trans ((Upd.refl nob wr).drew)⟩
        have t3 : (x != y) = true := by simpa using hxy
        have hdx := HDX2.out
        have e : X = false := by rw [← hdx]; simp [hxy]
        subst e
        clear hdx HDX2 hxy
        go_wp2_with fail
        go_ret
        exact ⟨rfl, (hua.trans ((Upd.refl nob wr).drew)).below⟩
      have t2 : decide ((j : Int) < L1) = false := by simp; omega
      have hdx := HDX.out
      rw [List.drop_eq_nil_of_le (by rw [HL1.out]; omega), List.drop_eq_nil_of_le (by rw [HL2.out]; omega)] at hdx
      have e : X = true := by rw [← hdx]; simp
      subst e
      clear hdx HDX
      go_wp2_with fail
      go_ret
      exact ⟨rfl, (huW1.trans hus).below⟩
   have t1 : (m.c != n.c) = false := by simpa using hc
   have t2 : ((L1 : Int) != L2) = true := by simp; omega
   have e : X = false := by
    rw [← HX.out]
    have : m.ks ≠ n.ks := fun h => hl (by rw [← HL1.out, ← HL2.out, h])
    simp [this]
   subst e
   clear HX hl hc
   go_enter Try.func65, Try.ntmps65
   go_wp2_with fail
   go_ret
   rw [HW1.out]
   exact ⟨rfl, huW1.below⟩
 have t1 : (m.c != n.c) = true := by simpa using hc
 have e : X = false := by rw [← HX.out]; simp [hc]
 subst e
 clear HX hc
 go_enter Try.func65, Try.ntmps65
 go_wp2_with fail
 go_ret
 rw [HW1.out]
 exact ⟨rfl, huW1.below⟩
mutual
theorem lok_of_rsnd : ∀ (l : Lv) (d c : Nat), (rsnd l d c).1 = true → LOk l
 | .mk k n ks, d, c, h => by
  rw [rsnd] at h
  simp only [LOk]
  by_cases h1 : 256 < d ∨ 1000 < c + 1 ∨ lar k < 0 ∨ (ks.length : Int) ≠ lar k
  · rw [if_pos h1] at h; cases h
  rw [if_neg h1] at h
  have hk : (ks.length : Int) = lar k := by omega
  have hkk : ((ks.length : Int) != lar k) = false := by simpa using hk
  unfold lright
  rw [hkk]
  by_cases h2 : k = 1
  · rw [if_pos h2] at h
    rw [if_pos h2]
    subst h2
    have h0 : ks = [] := List.eq_nil_of_length_eq_zero (by have : lar 1 = 0 := rfl; omega)
    subst h0
    exact ⟨by simpa using h, by simp only [LOks]⟩
  rw [if_neg h2] at h
  rw [if_neg h2]
  by_cases h3 : k = 2
  · rw [if_pos h3] at h
    subst h3
    have h0 : ks = [] := List.eq_nil_of_length_eq_zero (by have : lar 2 = 0 := rfl; omega)
    subst h0
    exact ⟨by simpa using h, by simp only [LOks]⟩
  rw [if_neg h3] at h
  by_cases h4 : k = 3 ∧ (n < 1 ∨ 1099511627776 < n)
  · rw [if_pos h4] at h; cases h
  rw [if_neg h4] at h
  refine ⟨?_, loks_of_rsnds ks d (c + 1) h⟩
  by_cases h5 : k = 3
  · rw [if_pos h5]
    have : ¬ (n < 1 ∨ 1099511627776 < n) := fun hh => h4 ⟨h5, hh⟩
    simp; omega
  rw [if_neg h5, if_neg h3]; rfl
theorem loks_of_rsnds : ∀ (l : List Lv) (d c : Nat), (rsnds l d c).1 = true → LOks l
 | [], _, _, _ => by simp only [LOks]
 | l :: ls, d, c, h => by
  rw [rsnds] at h
  simp only [LOks]
  by_cases h1 : (rsnd l (d + 1) c).1 = true
  · rw [if_pos h1] at h
    exact ⟨lok_of_rsnd l (d + 1) c h1, loks_of_rsnds ls d _ h⟩
  rw [if_neg h1] at h; cases h
end
theorem lok_of_rsound {l : Lv} (h : rsound l = true) : LOk l := lok_of_rsnd l 1 0 h
def req (a b : Lv) : Bool := rsound a && rsound b && (rnorm a).same (rnorm b)
theorem req_any (la lb : Lv) (ca cb : Array Value) (D : Nat → Prop) (w : World) (hD : Within D w) (ha : LvIs D w la ca) (hb : LvIs D w lb cb) :
    Calls Try.prog 41 #[.agg ca, .agg cb] w fun e w' => e = .returned (.bool (req la lb)) ∧ Below w.heap.size w w' := by
 have hsa := ha.oneCell
 have hsb := hb.oneCell
 have hia : (Try.prog.info? 24).map (·.size) = some ca.size := by rw [hsa.1]; exact lv_size
 have hib : (Try.prog.info? 24).map (·.size) = some cb.size := by rw [hsb.1]; exact lv_size
 obtain ⟨X, hX⟩ : ∃ X, req la lb = X := ⟨_, rfl⟩
 rw [hX]
 unfold req at hX
 obtain ⟨W1, hW1⟩ : ∃ W1, (w.alloc (.cells ca 24)).alloc (.cells cb 24) = W1 := ⟨_, rfl⟩
 have huW1 : Upd nob w W1 := by rw [← hW1]; exact ((Upd.refl nob w).alloc _).alloc _
 have hsW1 : W1.heap.size = w.heap.size + 2 := by rw [← hW1]; simp
 have bk0 : Blk W1 (w.heap.size) 24 ca := by
  rw [← hW1]
  have h := Blk.new (w) 24 ca
  exact h.alloc _
 have bk1 : Blk W1 (w.heap.size + 1) 24 cb := by
  rw [← hW1]
  have h := Blk.new (w.alloc (.cells ca 24)) 24 cb
  rw [World.size_alloc] at h
  exact h
 have r0 := bk0.rowAt
 have r1 := bk1.rowAt
 have hlt0 := bk0.lt
 have hlt1 := bk1.lt
 have hD1 := hD.up huW1
 have HLA := Lib.hid (ha.old (hD.old huW1) (fun _ h => h))
 have HLB := Lib.hid (hb.old (hD.old huW1) (fun _ h => h))
 have HW1 := Lib.hid hW1
 have HX := Lib.hid hX
 clear hX hW1 bk0 bk1 ha hb
 cases hs1 : rsound la with
 | false =>
  have e : X = false := by rw [← HX.out, hs1]; rfl
  subst e
  have HS1 := Lib.hid hs1
  clear hs1 HX
  go_enter Try.func41, Try.ntmps41
  go_wp2_with fail
  rw [HW1.out]
  refine wp_region_P (by kernel_rfl) ?_
  refine wpAny_of_held (S := fun X : World => ∀ p : Addr, p.block < W1.heap.size → X.cell? p = W1.cell? p) _ _ _ _ ?_
  have hS : ∀ p : Addr, p.block < W1.heap.size → W1.drew.cell? p = W1.cell? p := fun _ _ => rfl
  refine hT 0 (.agg ca) rfl (by kernel_rfl) (by rfl) ?_ hS ?_
  · intro wx hx
    exact run_load_at 24 (.tmp 2) rfl ⟨w.heap.size, 0, none⟩ rfl ca _ (row_on r0 hlt0 hx) Try.underlying24 rfl hia
  try simp only [tl]
  refine wpAnyH_alone (i := 1) (by kernel_rfl) rfl (by rfl) fun K hK => ?_
  go_simp
  refine (rsound_any la ca D W1.drew hD1.drew HLA.out.drew).mono ?_
  rintro e w2 ⟨rfl, hb2⟩
  rw [HS1.out]
  have hu2 : Upd nob W1 w2 := ((Upd.refl nob W1).drew).trans (Upd.of_below hb2)
  refine hK _ _ (cells_of_upd hu2) ?_
  clear hK K; try simp only [tl]
  have hS : ∀ p : Addr, p.block < W1.heap.size → w2.cell? p = W1.cell? p := cells_of_upd hu2
  refine hT 2 ?_ rfl (by kernel_rfl) (by rfl) ?_ hS ?_
  rotate_left; · intro wx hx; clear hx; go_simp; with_reducible rfl
  try simp only [tl]
  refine wpAnyH_take (i := 3) (v := undef) rfl (by kernel_rfl) (by kernel_rfl) (by kernel_rfl) (fun _ _ _ h => h) (Or.inr ⟨by rfl, by rfl⟩) hS ?_
  try simp only [tl]
  refine wpAnyH_take (i := 4) (v := undef) rfl (by kernel_rfl) (by kernel_rfl) (by kernel_rfl) (fun _ _ _ h => h) (Or.inr ⟨by rfl, by rfl⟩) hS ?_
  try simp only [tl]
  refine hT 5 ?_ rfl (by kernel_rfl) (by rfl) ?_ hS ?_
  rotate_left; · intro wx hx; clear hx; go_simp; with_reducible rfl
  try simp only [tl]
  refine hT 6 ?_ rfl (by kernel_rfl) (by rfl) ?_ hS ?_
  rotate_left; · intro wx hx; clear hx; go_simp; with_reducible rfl
  try simp only [tl]
  refine wpAnyH_take (i := 7) (v := undef) rfl (by kernel_rfl) (by kernel_rfl) (by kernel_rfl) (fun _ _ _ h => h) (Or.inr ⟨by rfl, by rfl⟩) hS ?_
  try simp only [tl]
  refine wpAnyH_take (i := 8) (v := undef) rfl (by kernel_rfl) (by kernel_rfl) (by kernel_rfl) (fun _ _ _ h => h) (Or.inr ⟨by rfl, by rfl⟩) hS ?_
  try simp only [tl]
  refine wpAnyH_take (i := 9) (v := undef) rfl (by kernel_rfl) (by kernel_rfl) (by kernel_rfl) (fun _ _ _ h => h) (Or.inr ⟨by rfl, by rfl⟩) hS ?_
  try simp only [tl]
  refine wpAnyH_take (i := 10) (v := undef) rfl (by kernel_rfl) (by kernel_rfl) (by kernel_rfl) (fun _ _ _ h => h) (Or.inr ⟨by rfl, by rfl⟩) hS ?_
  try simp only [tl]
  refine wpAnyH_take (i := 11) (v := undef) rfl (by kernel_rfl) (by kernel_rfl) (by kernel_rfl) (fun _ _ _ h => h) (Or.inr ⟨by rfl, by rfl⟩) hS ?_
  try simp only [tl]
  refine hT 12 ?_ rfl (by kernel_rfl) (by rfl) ?_ hS ?_
  rotate_left; · intro wx hx; clear hx; go_simp; with_reducible rfl
  try simp only [tl]
  refine hT 13 ?_ rfl (by kernel_rfl) (by rfl) ?_ hS ?_
  rotate_left; · intro wx hx; clear hx; go_simp; with_reducible rfl
  try simp only [tl]
  refine wpAnyH_done (by kernel_rfl) ?_ _
  refine NoPanic.normal ?_
  go_wp2_with fail
  go_ret
  exact ⟨rfl, (huW1.trans hu2).below⟩
 | true =>
  have HS1 := Lib.hid hs1
  cases hs2 : rsound lb with
  | false =>
   have e : X = false := by rw [← HX.out, hs1, hs2]; rfl
   subst e
   have HS2 := Lib.hid hs2
   clear hs1 hs2 HX
   go_enter Try.func41, Try.ntmps41
   go_wp2_with fail
   rw [HW1.out]
   refine wp_region_P (by kernel_rfl) ?_
   refine wpAny_of_held (S := fun X : World => ∀ p : Addr, p.block < W1.heap.size → X.cell? p = W1.cell? p) _ _ _ _ ?_
   have hS : ∀ p : Addr, p.block < W1.heap.size → W1.drew.cell? p = W1.cell? p := fun _ _ => rfl
   refine hT 0 (.agg ca) rfl (by kernel_rfl) (by rfl) ?_ hS ?_
   · intro wx hx
     exact run_load_at 24 (.tmp 2) rfl ⟨w.heap.size, 0, none⟩ rfl ca _ (row_on r0 hlt0 hx) Try.underlying24 rfl hia
   try simp only [tl]
   refine wpAnyH_alone (i := 1) (by kernel_rfl) rfl (by rfl) fun K hK => ?_
   go_simp
   refine (rsound_any la ca D W1.drew hD1.drew HLA.out.drew).mono ?_
   rintro e w2 ⟨rfl, hb2⟩
   rw [HS1.out]
   have hu2 : Upd nob W1 w2 := ((Upd.refl nob W1).drew).trans (Upd.of_below hb2)
   refine hK _ _ (cells_of_upd hu2) ?_
   clear hK K; try simp only [tl]
   have hS : ∀ p : Addr, p.block < W1.heap.size → w2.cell? p = W1.cell? p := cells_of_upd hu2
   refine hT 2 ?_ rfl (by kernel_rfl) (by rfl) ?_ hS ?_
   rotate_left; · intro wx hx; clear hx; go_simp; with_reducible rfl
   try simp only [tl]
   refine hT 3 (.agg cb) rfl (by kernel_rfl) (by rfl) ?_ hS ?_
   · intro wx hx
     exact run_load_at 24 (.tmp 3) rfl ⟨w.heap.size + 1, 0, none⟩ rfl cb _ (row_on r1 hlt1 hx) Try.underlying24 rfl hib
   try simp only [tl]
   refine wpAnyH_alone (i := 4) (by kernel_rfl) rfl (by rfl) fun K hK => ?_
   go_simp
   refine (rsound_any lb cb D w2 (hD1.up hu2) (HLB.out.old (hD1.old hu2) (fun _ h => h))).mono ?_
   rintro e w3 ⟨rfl, hb3⟩
   rw [HS2.out]
   have hu3 : Upd nob W1 w3 := hu2.trans (Upd.of_below hb3)
   refine hK _ _ (cells_of_upd hu3) ?_
   clear hK K; try simp only [tl]
   have hS : ∀ p : Addr, p.block < W1.heap.size → w3.cell? p = W1.cell? p := cells_of_upd hu3
   refine hT 5 ?_ rfl (by kernel_rfl) (by rfl) ?_ hS ?_
   rotate_left; · intro wx hx; clear hx; go_simp; with_reducible rfl
   try simp only [tl]
   refine hT 6 ?_ rfl (by kernel_rfl) (by rfl) ?_ hS ?_
   rotate_left; · intro wx hx; clear hx; go_simp; with_reducible rfl
   try simp only [tl]
   refine wpAnyH_take (i := 7) (v := undef) rfl (by kernel_rfl) (by kernel_rfl) (by kernel_rfl) (fun _ _ _ h => h) (Or.inr ⟨by rfl, by rfl⟩) hS ?_
   try simp only [tl]
   refine wpAnyH_take (i := 8) (v := undef) rfl (by kernel_rfl) (by kernel_rfl) (by kernel_rfl) (fun _ _ _ h => h) (Or.inr ⟨by rfl, by rfl⟩) hS ?_
   try simp only [tl]
   refine wpAnyH_take (i := 9) (v := undef) rfl (by kernel_rfl) (by kernel_rfl) (by kernel_rfl) (fun _ _ _ h => h) (Or.inr ⟨by rfl, by rfl⟩) hS ?_
   try simp only [tl]
   refine wpAnyH_take (i := 10) (v := undef) rfl (by kernel_rfl) (by kernel_rfl) (by kernel_rfl) (fun _ _ _ h => h) (Or.inr ⟨by rfl, by rfl⟩) hS ?_
   try simp only [tl]
   refine wpAnyH_take (i := 11) (v := undef) rfl (by kernel_rfl) (by kernel_rfl) (by kernel_rfl) (fun _ _ _ h => h) (Or.inr ⟨by rfl, by rfl⟩) hS ?_
   try simp only [tl]
   refine hT 12 ?_ rfl (by kernel_rfl) (by rfl) ?_ hS ?_
   rotate_left; · intro wx hx; clear hx; go_simp; with_reducible rfl
   try simp only [tl]
   refine hT 13 ?_ rfl (by kernel_rfl) (by rfl) ?_ hS ?_
   rotate_left; · intro wx hx; clear hx; go_simp; with_reducible rfl
   try simp only [tl]
   refine wpAnyH_done (by kernel_rfl) ?_ _
   refine NoPanic.normal ?_
   go_wp2_with fail
   go_ret
   exact ⟨rfl, (huW1.trans hu3).below⟩
  | true =>
   have hx : (rnorm la).same (rnorm lb) = X := by rw [← HX.out, hs1, hs2]; rfl
   have HS2 := Lib.hid hs2
   have hoka := lok_of_rsound hs1
   have hokb := lok_of_rsound hs2
   have HX2 := Lib.hid hx
   clear hs1 hs2 hx HX
   go_enter Try.func41, Try.ntmps41
   go_wp2_with fail
   rw [HW1.out]
   refine wp_region_P (by kernel_rfl) ?_
   refine wpAny_of_held (S := fun X : World => ∀ p : Addr, p.block < W1.heap.size → X.cell? p = W1.cell? p) _ _ _ _ ?_
   have hS : ∀ p : Addr, p.block < W1.heap.size → W1.drew.cell? p = W1.cell? p := fun _ _ => rfl
   refine hT 0 (.agg ca) rfl (by kernel_rfl) (by rfl) ?_ hS ?_
   · intro wx hx
     exact run_load_at 24 (.tmp 2) rfl ⟨w.heap.size, 0, none⟩ rfl ca _ (row_on r0 hlt0 hx) Try.underlying24 rfl hia
   try simp only [tl]
   refine wpAnyH_alone (i := 1) (by kernel_rfl) rfl (by rfl) fun K hK => ?_
   go_simp
   refine (rsound_any la ca D W1.drew hD1.drew HLA.out.drew).mono ?_
   rintro e w2 ⟨rfl, hb2⟩
   rw [HS1.out]
   have hu2 : Upd nob W1 w2 := ((Upd.refl nob W1).drew).trans (Upd.of_below hb2)
   refine hK _ _ (cells_of_upd hu2) ?_
   clear hK K; try simp only [tl]
   have hS : ∀ p : Addr, p.block < W1.heap.size → w2.cell? p = W1.cell? p := cells_of_upd hu2
   refine hT 2 ?_ rfl (by kernel_rfl) (by rfl) ?_ hS ?_
   rotate_left; · intro wx hx; clear hx; go_simp; with_reducible rfl
   try simp only [tl]
   refine hT 3 (.agg cb) rfl (by kernel_rfl) (by rfl) ?_ hS ?_
   · intro wx hx
     exact run_load_at 24 (.tmp 3) rfl ⟨w.heap.size + 1, 0, none⟩ rfl cb _ (row_on r1 hlt1 hx) Try.underlying24 rfl hib
   try simp only [tl]
   refine wpAnyH_alone (i := 4) (by kernel_rfl) rfl (by rfl) fun K hK => ?_
   go_simp
   refine (rsound_any lb cb D w2 (hD1.up hu2) (HLB.out.old (hD1.old hu2) (fun _ h => h))).mono ?_
   rintro e w3 ⟨rfl, hb3⟩
   rw [HS2.out]
   have hu3 : Upd nob W1 w3 := hu2.trans (Upd.of_below hb3)
   refine hK _ _ (cells_of_upd hu3) ?_
   clear hK K; try simp only [tl]
   have hS : ∀ p : Addr, p.block < W1.heap.size → w3.cell? p = W1.cell? p := cells_of_upd hu3
   refine hT 5 ?_ rfl (by kernel_rfl) (by rfl) ?_ hS ?_
   rotate_left; · intro wx hx; clear hx; go_simp; with_reducible rfl
   try simp only [tl]
   refine hT 6 ?_ rfl (by kernel_rfl) (by rfl) ?_ hS ?_
   rotate_left; · intro wx hx; clear hx; go_simp; with_reducible rfl
   try simp only [tl]
   refine hT 7 (.agg ca) rfl (by kernel_rfl) (by rfl) ?_ hS ?_
   · intro wx hx
     exact run_load_at 24 (.tmp 2) rfl ⟨w.heap.size, 0, none⟩ rfl ca _ (row_on r0 hlt0 hx) Try.underlying24 rfl hia
   try simp only [tl]
   refine hT 9 (.agg cb) rfl (by kernel_rfl) (by rfl) ?_ hS ?_
   · intro wx hx
     exact run_load_at 24 (.tmp 3) rfl ⟨w.heap.size + 1, 0, none⟩ rfl cb _ (row_on r1 hlt1 hx) Try.underlying24 rfl hib
   try simp only [tl]
   refine wpAnyH_alone (i := 8) (by kernel_rfl) rfl (by rfl) fun K hK => ?_
   go_simp
   refine (rnorm_any la ca D w3 hoka (hD1.up hu3) (HLA.out.old (hD1.old hu3) (fun _ h => h))).mono ?_
   rintro e w4 ⟨cs4, rfl, hn4, hb4⟩
   have hu34 : Upd nob w3 w4 := Upd.of_below hb4
   have hu4 : Upd nob W1 w4 := hu3.trans hu34
   have hu4s := hu34.size
   have HN4 := Lib.hid hn4
   clear hn4
   refine hK _ _ (cells_of_upd hu4) ?_
   clear hK K; try simp only [tl]
   have hS : ∀ p : Addr, p.block < W1.heap.size → w4.cell? p = W1.cell? p := cells_of_upd hu4
   refine wpAnyH_alone (i := 10) (by kernel_rfl) rfl (by rfl) fun K hK => ?_
   go_simp
   refine (rnorm_any lb cb D w4 hokb (hD1.up hu4) (HLB.out.old (hD1.old hu4) (fun _ h => h))).mono ?_
   rintro e w5 ⟨cs5, rfl, hn5, hb5⟩
   have hu45 : Upd nob w4 w5 := Upd.of_below hb5
   have hu5 : Upd nob W1 w5 := hu4.trans hu45
   have hu5s := hu45.size
   have HN5 : Hid (NmIs (fun q => w3.heap.size ≤ q ∧ q < w5.heap.size) w5 (rnorm lb) cs5) := Lib.hid (hn5.old (Old.refl _ _) (fun q hq => ⟨by have := hq.1; omega, hq.2⟩))
   have HN45 : Hid (NmIs (fun q => w3.heap.size ≤ q ∧ q < w5.heap.size) w5 (rnorm la) cs4) := Lib.hid (HN4.out.old (Old.of_upd hu45 fun q hq => ⟨fun f => f, hq.2⟩) (fun q hq => ⟨hq.1, by have := hq.2; omega⟩))
   clear hn5
   refine hK _ _ (cells_of_upd hu5) ?_
   clear hK K; try simp only [tl]
   have hS : ∀ p : Addr, p.block < W1.heap.size → w5.cell? p = W1.cell? p := cells_of_upd hu5
   refine wpAnyH_alone (i := 11) (by kernel_rfl) rfl (by rfl) fun K hK => ?_
   go_simp
   refine (nsame_any (rnorm la) (rnorm lb) cs4 cs5 (fun q => w3.heap.size ≤ q ∧ q < w5.heap.size) w5 (fun q h => h.2) HN45.out HN5.out).mono ?_
   rintro e w6 ⟨rfl, hb6⟩
   rw [HX2.out]
   have hu6 : Upd nob W1 w6 := hu5.trans (Upd.of_below hb6)
   refine hK _ _ (cells_of_upd hu6) ?_
   clear hK K; try simp only [tl]
   have hS : ∀ p : Addr, p.block < W1.heap.size → w6.cell? p = W1.cell? p := cells_of_upd hu6
   refine hT 12 ?_ rfl (by kernel_rfl) (by rfl) ?_ hS ?_
   rotate_left; · intro wx hx; clear hx; go_simp; with_reducible rfl
   try simp only [tl]
   refine hT 13 ?_ rfl (by kernel_rfl) (by rfl) ?_ hS ?_
   rotate_left; · intro wx hx; clear hx; go_simp; with_reducible rfl
   try simp only [tl]
   refine wpAnyH_done (by kernel_rfl) ?_ _
   refine NoPanic.normal ?_
   go_wp2_with fail
   go_ret
   exact ⟨rfl, (huW1.trans hu6).below⟩
end Go.Proofs.Ytiampoebdmflgaa
/- Slices of slices. -/
namespace Go.Proofs.Ytiampoebdmflgaa
open Go.RowKit
set_option linter.unusedVariables false
set_option maxRecDepth 100000
set_option maxHeartbeats 1000000
theorem run_slice_h8 {P : Program} {o : Oper} {a : Act} {w : World} (ty : TypeId) (x y : Operand) (ho : o.op = .slice ty x none (some y) none) (A : Option Addr) (n c : Nat)
    (hx : a.eval x = .slice A n c) (j : Nat) (hy : a.eval y = .int .i64 j) (hj : j ≤ c) (hu : P.underlying ty = some (.slice (P.elem ty))) (sz : Nat) (hs : (P.info? (P.elem ty)).map (·.size) = some sz) :
    (execOp a.eval o).run P w = .ok (.value (.slice A j c)) w := by
 cases hq : P.info? (P.elem ty) with
 | none => simp [hq] at hs
 | some i =>
  have hsz : i.size = sz := by simpa [hq] using hs
  have h0 : sliced A 0 j c sz = .slice A j c := by
   unfold sliced
   split
   · rfl
   cases A with
   | none => rfl
   | some a => simp [Addr.add]
  unfold execOp
  simp only [ho, hx, hy, Option.map]
  have h1 := run_slice_h (P := P) (w := w) ty A n c hu .i64 (j : Int) (by omega) (by omega)
  simp [run_sliceAt_slice w ty _ _ _ _ hu, h1, sizeOf, typeInfo, hq, hsz, h0]
theorem run_slice_l8 {P : Program} {o : Oper} {a : Act} {w : World} (ty : TypeId) (x y : Operand) (ho : o.op = .slice ty x (some y) none none) (A : Option Addr) (n c : Nat)
    (hx : a.eval x = .slice A n c) (j : Nat) (hy : a.eval y = .int .i64 j) (hj : j ≤ n) (hu : P.underlying ty = some (.slice (P.elem ty))) (sz : Nat) (hs : (P.info? (P.elem ty)).map (·.size) = some sz) :
    (execOp a.eval o).run P w = .ok (.value (.slice (if c = j then A else A.map (·.add (j * sz))) (n - j) (c - j))) w := by
 cases hq : P.info? (P.elem ty) with
 | none => simp [hq] at hs
 | some i =>
  have hsz : i.size = sz := by simpa [hq] using hs
  unfold execOp
  simp only [ho, hx, hy, Option.map]
  have h1 := run_slice_l (P := P) (w := w) ty A n c hu .i64 (j : Int) (by omega) (by omega)
  cases A <;> simp [run_sliceAt_slice w ty _ _ _ _ hu, h1, sizeOf, typeInfo, hq, hsz, sliced]
theorem elem_tms : Try.prog.elem 25 = 27 := by kernel_rfl
theorem und_tms : Try.prog.underlying 25 = some (.slice (Try.prog.elem 25)) := by rw [elem_tms]; exact Try.underlying25
theorem sz_tms : (Try.prog.info? (Try.prog.elem 25)).map (·.size) = some 8 := by rw [elem_tms]; exact tm_size
theorem TmsAt.drop {D : Nat → Prop} {w : World} {ts : List Tm} {A : Option Addr} (h : TmsAt D w ts A 0) (p c : Nat) (hc : ts.length ≤ c) : TmsAt D w (ts.drop p) (if c = p then A else A.map (·.add (p * 8))) 0 :=
 TmsAt.mk fun j l hj => by
  rw [List.getElem?_drop] at hj
  obtain ⟨a, cs, hA, hab, hrow, hl⟩ := h.at_ hj
  have hlt := (List.getElem?_eq_some_iff.1 hj).1
  have hne : c ≠ p := by omega
  refine ⟨a.add (p * 8), cs, by rw [if_neg hne, hA]; rfl, by rw [Addr_add_block]; exact hab, ?_, hl⟩
  rw [Addr_add_add]
  have e : p * 8 + (0 + j) * 8 = (0 + (p + j)) * 8 := by omega
  rw [e]; exact hrow
theorem TmsAt.take {D : Nat → Prop} {w : World} {ts : List Tm} {A : Option Addr} (h : TmsAt D w ts A 0) (p : Nat) : TmsAt D w (ts.take p) A 0 :=
 TmsAt.mk fun j l hj => by
  rw [List.getElem?_take] at hj
  split at hj
  · exact h.at_ hj
  cases hj
def There (w : World) : Nat → Prop := fun q => q < w.heap.size
theorem There_in (w : World) : Within (There w) w := fun _ h => h
theorem cell_there {w : World} {a : Addr} {v : Value} (h : w.cell? a = some v) : There w a.block := by
 unfold There
 apply Decidable.byContradiction
 intro hn
 have : w.heap[a.block]? = none := Array.getElem?_eq_none (by omega)
 simp [World.cell?, this] at h
end Go.Proofs.Ytiampoebdmflgaa
/- The reference's count, TooGreat. -/
namespace Go.Proofs.Ytiampoebdmflgaa
open Go.RowKit
set_option linter.unusedVariables false
set_option maxRecDepth 100000
set_option maxHeartbeats 4000000
set_option linter.unusedSimpArgs false
mutual
def rcnt : Tm → Nat → Nat → Bool × Nat
 | .mk k _ _ _ _ ks, d, c => if 2000 < d then (false, c + 1) else if rlf k ks.length = true then (true, c + 1) else rcnts (tar k).toNat ks d (c + 1)
def rcnts : Nat → List Tm → Nat → Nat → Bool × Nat
 | 0, _, _, c => (decide (c ≤ 20000), c)
 | _ + 1, [], _, c => (decide (c ≤ 20000), c)
 | i + 1, t :: l, d, c => if 20000 < c then (false, c) else if (rcnt t (d + 1) c).1 = true then rcnts i l d (rcnt t (d + 1) c).2 else (false, (rcnt t (d + 1) c).2)
end
def rgreat (t : Tm) : Bool := !(rcnt t 1 0).1
mutual
theorem rcnt_le : ∀ (t : Tm) (d c : Nat), c ≤ 20000 → (rcnt t d c).2 ≤ 20001
 | .mk k _ _ _ _ ks, d, c, h => by
  rw [rcnt]
  split
  · simp only; omega
  split
  · simp only; omega
  exact rcnts_le _ ks d (c + 1) (by omega)
theorem rcnts_le : ∀ (i : Nat) (l : List Tm) (d c : Nat), c ≤ 20001 → (rcnts i l d c).2 ≤ 20001
 | 0, _, _, c, h => by rw [rcnts]; exact h
 | _ + 1, [], _, c, h => by rw [rcnts]; exact h
 | i + 1, t :: l, d, c, h => by
  rw [rcnts]
  split
  · exact h
  have h1 := rcnt_le t (d + 1) c (by omega)
  split
  · exact rcnts_le i l d _ h1
  exact h1
end
theorem rcnt_any (t : Tm) : ∀ (cs : Array Value) (D : Nat → Prop) (d cn nb : Nat) (w : World), TmIs D w t cs → Within D w → ¬ D nb → Blk w nb 3 #[.int .i64 cn] → cn ≤ 20000 → d ≤ 2001 →
    Calls Try.prog 44 #[.agg cs, .int .i64 d, .pointer (some ⟨nb, 0, none⟩)] w fun e w' =>
     e = .returned (.bool (rcnt t d cn).1) ∧ Blk w' nb 3 #[.int .i64 (rcnt t d cn).2] ∧ Upd (fun q => q = nb) w w' := by
 induction t using Tm.ind with
 | h k n nm lv ls ks ih =>
  intro cs D d cn nb w hl hD hnb hb hc hd
  have hz := tm_zero
  have hl0 := hl
  obtain ⟨x, y, z, A, c, A', c', rfl, _, _, _, _, _, _, hks1, hks⟩ := hl.lit
  simp only [Tm.k, Tm.n, Tm.nm, Tm.lv, Tm.ls, Tm.ks] at hks1 hks hl0 ⊢
  have hnbw := hb.lt
  obtain ⟨⟨X1, X2⟩, hX⟩ : ∃ X, rcnt (.mk k n nm lv ls ks) d cn = X := ⟨_, rfl⟩
  have hXle := rcnt_le (.mk k n nm lv ls ks) d cn hc
  rw [hX] at hXle ⊢
  rw [rcnt] at hX
  have HX := Lib.hid hX; clear hX hl
  have hcn : IntKind.i64.wrap ((cn : Int) + 1) = (cn : Int) + 1 := IntWalk.i64_in _ (by omega)
  have c1 : w.cell? ⟨nb, 0, none⟩ = some (.int .i64 cn) := hb.cell 0
  have z1 := hb.frozen 0
  obtain ⟨W1, hW1⟩ : ∃ W1, w.setCell ⟨nb, 0, none⟩ (.int .i64 ((cn : Int) + 1)) = W1 := ⟨_, rfl⟩
  have hu1 : Upd (fun q => q = nb) w W1 := by rw [← hW1]; exact (Upd.refl (fun q => q = nb) w).setCell (p := ⟨nb, 0, none⟩) (.inl rfl) _
  have hb1 : Blk W1 nb 3 #[.int .i64 ((cn + 1 : Nat) : Int)] := by rw [← hW1]; exact hb.set 0 _
  have hs1 : W1.heap.size = w.heap.size := by rw [← hW1]; simp [World.setCell]
  obtain ⟨W2, hW2⟩ : ∃ W2, W1.alloc (.cells #[.int .i64 k, .int .i64 n, .string nm, x, y, z, .slice A ls.length c, .slice A' ks.length c'] 27) = W2 := ⟨_, rfl⟩
  have hu2 : Upd nob W1 W2 := by rw [← hW2]; exact (Upd.refl nob W1).alloc _
  have hs2 : W2.heap.size = w.heap.size + 1 := by rw [← hW2]; simp [hs1]
  have bk2 : Blk W2 w.heap.size 27 #[.int .i64 k, .int .i64 n, .string nm, x, y, z, .slice A ls.length c, .slice A' ks.length c'] := by rw [← hW2, ← hs1]; exact Blk.new _ _ _
  have hu02 : Upd (fun q => q = nb) w W2 := hu1.trans (hu2.mono (fun _ f => f.elim))
  have hb2 := hb1.upd hu2 (fun f => f)
  have ho2 : Old D w W2 := Old.of_upd hu02 fun q hq => ⟨fun h => hnb (h ▸ hq), hD q hq⟩
  have hD2 := hD.up hu02
  have r2 := bk2.rowAt
  have k0 : W2.cell? ⟨w.heap.size, 0, none⟩ = some (.int .i64 k) := bk2.cell 0
  have k7 : W2.cell? ⟨w.heap.size, 7, none⟩ = some (.slice A' ks.length c') := bk2.cell 7
  have hl2 := hl0.old ho2 (fun _ h => h)
  have hks2 := hks.old ho2 (fun _ h => h)
  have hlt2 := bk2.lt
  have HB2 := Lib.hid hb2
  have HBK2 := Lib.hid bk2
  have HL2 := Lib.hid hl2
  have HKS := Lib.hid hks2
  rw [← hW1] at hW2
  have HW2 := Lib.hid hW2
  rw [← hW2] at r2
  have R2 := Lib.hid r2
  clear hW1 hW2 hb1 hb2 bk2 hl2 hl0 hks hks2 hb r2
  by_cases hd2 : 2000 < d
  · have hx := HX.out
    rw [if_pos hd2] at hx
    injection hx with h1 h2
    subst h1 h2
    clear HX
    go_enter Try.func44, Try.ntmps44
    go_wp2_with fail
    go_ret
    rw [HW2.out]
    exact ⟨rfl, HB2.out, hu02⟩
  have r2 := R2.out
  have hd3 : d ≤ 2000 := by omega
  have hx := HX.out
  rw [if_neg hd2] at hx
  have HX2 := Lib.hid hx
  clear hx HX
  go_enter Try.func44, Try.ntmps44
  go_wp2_with (first
          | ((with_reducible refine this_op (.load 27 (.tmp 3)) ?_); refine wpList_at rfl 27 (.tmp 3) rfl ⟨w.heap.size, 0, none⟩ rfl _ _ r2 Try.underlying27 rfl tm_size ?_))
  rw [HW2.out]
  clear r2 R2 c1 z1
  refine (rleaf_any _ _ D W2 HL2.out).mono ?_
  rintro e w3 ⟨rfl, hb3⟩
  have hu3 : Upd nob W2 w3 := Upd.of_below hb3
  obtain ⟨lf, hlf⟩ : ∃ q, (Tm.mk k n nm lv ls ks).rleaf = q := ⟨_, rfl⟩
  have hx := HX2.out
  have hlf2 : rlf k ks.length = lf := hlf
  rw [hlf]
  rw [hlf2] at hx
  have hu03 : Upd (fun q => q = nb) w w3 := hu02.trans (hu3.mono (fun _ f => f.elim))
  have hb3b := HB2.out.upd hu3 (fun f => f)
  have hw3s := hu3.size
  cases lf with
  | true =>
   rw [if_pos rfl] at hx
   injection hx with h1 h2
   subst h1 h2
   have HB3 := Lib.hid hb3b
   clear HX2 hlf hlf2 hb3b
   go_wp2_with fail
   go_ret
   exact ⟨rfl, HB3.out, hu03⟩
  | false =>
   rw [if_neg (by decide)] at hx
   have HX3 := Lib.hid hx
   have HB3 := Lib.hid hb3b
   have hq : 0 ≤ tar k ∧ tar k ≤ ks.length := by
    unfold rlf at hlf2
    simp at hlf2
    exact hlf2
   obtain ⟨q, hqn⟩ : ∃ q : Nat, tar k = q := ⟨(tar k).toNat, by omega⟩
   have hqn2 : (tar k).toNat = q := by omega
   have hqk : q ≤ ks.length := by omega
   have hqc : q ≤ c' := by omega
   have HX4 : Hid (rcnts q ks d (cn + 1) = (X1, X2)) := Lib.hid (by rw [← hqn2]; exact HX3.out)
   have HQ := Lib.hid hqn
   have j0 : w3.cell? ⟨w.heap.size, 0, none⟩ = some (.int .i64 k) := (hu3.cell hlt2 (fun f => f)).trans k0
   have j7 : w3.cell? ⟨w.heap.size, 7, none⟩ = some (.slice A' ks.length c') := (hu3.cell hlt2 (fun f => f)).trans k7
   have hlt3 : w.heap.size < w3.heap.size := by omega
   have hD3 := hD2.up hu3
   have hk3 := HKS.out.old (hD2.old hu3) (fun _ h => h)
   have HK3 := Lib.hid hk3
   clear hx HX2 HX3 hlf hlf2 hb3b hqn hqn2 hq hk3 HKS k0 k7
   go_wp2_with fail
   refine wp_region_P (by kernel_rfl) ?_
   refine wpAny_of_held (S := fun X : World => ∀ p : Addr, p.block < w3.heap.size → X.cell? p = w3.cell? p) _ _ _ _ ?_
   have hS : ∀ p : Addr, p.block < w3.heap.size → w3.drew.cell? p = w3.cell? p := fun _ _ => rfl
   refine hT 0 ?_ rfl (by kernel_rfl) (by rfl) ?_ hS ?_
   rotate_left; · intro wx hx; clear hx; go_simp; with_reducible rfl
   try simp only [tl]
   refine hT 1 ?_ rfl (by kernel_rfl) (by rfl) ?_ hS ?_
   rotate_left
   · intro wx hx
     have q0 := (hx ⟨w.heap.size, 7, none⟩ hlt3).trans j7
     clear hx
     go_simp
     with_reducible rfl
   try simp only [tl]
   refine hT 2 ?_ rfl (by kernel_rfl) (by rfl) ?_ hS ?_
   rotate_left; · intro wx hx; clear hx; go_simp; with_reducible rfl
   try simp only [tl]
   refine hT 3 ?_ rfl (by kernel_rfl) (by rfl) ?_ hS ?_
   rotate_left
   · intro wx hx
     have q0 := (hx ⟨w.heap.size, 0, none⟩ hlt3).trans j0
     clear hx
     go_simp
     with_reducible rfl
   try simp only [tl]
   refine hT 7 ?_ rfl (by kernel_rfl) (by rfl) ?_ hS ?_
   rotate_left; · intro wx hx; clear hx; go_simp; with_reducible rfl
   try simp only [tl]
   refine wpAnyH_alone (i := 4) (by kernel_rfl) rfl (by rfl) fun K hK => ?_
   go_simp
   refine (rkids_any k w3.drew).mono ?_
   rintro e w4 ⟨rfl, rfl⟩
   rw [HQ.out]
   refine hK _ _ (fun _ _ => rfl) ?_
   clear hK K; try simp only [tl]
   refine hT 5 (.slice A' q c') rfl (by kernel_rfl) (by rfl) ?_ hS ?_
   · intro wx hx
     exact run_slice_h8 25 (.tmp 19) (.tmp 22) rfl A' ks.length c' rfl q rfl hqc und_tms 8 sz_tms
   try simp only [tl]
   refine hT 6 ?_ rfl (by kernel_rfl) (by rfl) ?_ hS ?_
   rotate_left; · intro wx hx; clear hx; go_simp; with_reducible rfl
   try simp only [tl]
   refine wpAnyH_done (by kernel_rfl) ?_ _
   refine NoPanic.normal ?_
   have hnb3 : nb < w3.heap.size := by omega
   go_wp2_with fail
   go_loopg [25] q (fun m v wr => ∃ (j cc : Nat), j + m = q ∧ v = .int .i64 j ∧ Blk wr nb 3 #[.int .i64 cc] ∧ cc ≤ 20001 ∧ rcnts (q - j) (ks.drop j) d cc = (X1, X2) ∧ Upd (fun q => q = nb) w3 wr)
   case atStart => exact ⟨0, cn + 1, by omega, rfl, HB3.out, by omega, by rw [List.drop_zero, Nat.sub_zero]; exact HX4.out, (Upd.refl nob w3).drew.mono (fun _ f => f.elim)⟩
   case round =>
    clear j0 j7 HX4
    obtain ⟨j, cc, hj, rfl, hbc, hcc, hrc, hus⟩ := hrel
    have hws := hus.size
    have c1 : wr.cell? ⟨nb, 0, none⟩ = some (.int .i64 cc) := hbc.cell 0
    have ho3 : Old D w3 wr := Old.of_upd hus fun q hq => ⟨fun h => hnb (h ▸ hq), hD3 q hq⟩
    have hDr : Within D wr := hD3.up hus
    have HBC := Lib.hid hbc
    have HRC := Lib.hid hrc
    clear hbc hrc
    by_cases hlt : j < q
    · have t2 : decide ((j : Int) < q) = true := by simp [hlt]
      have hjn : j < ks.length := by omega
      obtain ⟨a, csj, hA, hab, hrow, hlj⟩ := HK3.out.at_ (List.getElem?_eq_getElem hjn)
      rw [Nat.zero_add] at hrow
      have hrow' := hrow.old ho3 (by rw [Addr_add_block]; exact hab)
      have hlj' := hlj.old ho3 (fun _ h => h)
      have hsj := hlj.oneCell
      have hsij : (Try.prog.info? 27).map (·.size) = some csj.size := by rw [hsj.1]; exact tm_size
      have hdr : ks.drop j = ks[j] :: ks.drop (j + 1) := List.drop_eq_getElem_cons hjn
      have e1 : q - j = (q - (j + 1)) + 1 := by omega
      have hrc := HRC.out
      rw [hdr, e1, rcnts] at hrc
      have HRC2 := Lib.hid hrc
      have HA := Lib.hid hA
      have HLJ := Lib.hid hlj'
      have HIH := Lib.hid (ih ks[j] (List.getElem_mem hjn))
      clear hA hrc hdr e1 HRC hrow hlj hlj'
      by_cases hgr : 20000 < cc
      · have hrc := HRC2.out
        rw [if_pos hgr] at hrc
        injection hrc with h1 h2
        subst h1 h2
        have t3 : decide ((20000 : Int) < cc) = true := by simp; omega
        clear HRC2
        go_wp2_with (first
                          | ((with_reducible refine this_op (.indexAddr 25 (.tmp 23) (.tmp 25)) ?_); refine wpList_index_at rfl 25 (.tmp 23) (.tmp 25) rfl _ a _ _ rfl HA.out j rfl hlt 27 Try.underlying25 8 tm_size ?_)
                          | ((with_reducible refine this_op (.load 27 (.tmp 27)) ?_); refine wpList_at rfl 27 (.tmp 27) rfl (a.add (j * 8)) rfl _ _ hrow' Try.underlying27 rfl hsij ?_)
                          | ((with_reducible refine this_op (.store 27 (.tmp 8) (.tmp 28)) ?_); refine wpList_store_row rfl 27 (.tmp 8) (.tmp 28) rfl wr.heap.size _ rfl rfl 27 _ (Blk.new wr _ _) hsij (by rw [hsj.1]; rfl) hsj.2 ?_
                             obtain ⟨W7, hW7⟩ : ∃ W7, (wr.alloc (.cells #[.int .i64 0, .int .i64 0, .string ByteArray.empty, .int .i64 0, .int .i64 0, .slice none 0 0, .slice none 0 0, .slice none 0 0] 27)).setRow wr.heap.size csj = W7 := ⟨_, rfl⟩
                             have hu7 : Upd nob wr W7 := by rw [← hW7]; exact ((Upd.refl nob wr).alloc _).setRow (.inr (Nat.le_refl _)) _
                             have hb7 : Blk W7 wr.heap.size 27 csj := by rw [← hW7]; exact (Blk.new wr _ _).row _
                             rw [hW7]
                             clear hW7
                             have r7 := hb7.rowAt
                             have hb7b := HBC.out.upd hu7 (fun f => f)
                             have c7 : W7.cell? ⟨nb, 0, none⟩ = some (.int .i64 cc) := hb7b.cell 0
                             have HB7 := Lib.hid hb7b
                             clear hb7 hb7b c1))
        go_ret
        exact ⟨rfl, HB7.out, hu03.trans (hus.trans (hu7.mono (fun _ f => f.elim)))⟩
      have hrc := HRC2.out
      rw [if_neg hgr] at hrc
      have hcc2 : cc ≤ 20000 := by omega
      have t3 : decide ((20000 : Int) < cc) = false := by simp; omega
      have hdd : IntKind.i64.wrap ((d : Int) + 1) = ((d + 1 : Nat) : Int) := (IntWalk.i64_in _ (by omega)).trans (by omega)
      have HRC3 := Lib.hid hrc
      clear hrc HRC2
      go_wp2_with (first
                        | ((with_reducible refine this_op (.indexAddr 25 (.tmp 23) (.tmp 25)) ?_); refine wpList_index_at rfl 25 (.tmp 23) (.tmp 25) rfl _ a _ _ rfl HA.out j rfl hlt 27 Try.underlying25 8 tm_size ?_)
                        | ((with_reducible refine this_op (.load 27 (.tmp 27)) ?_); refine wpList_at rfl 27 (.tmp 27) rfl (a.add (j * 8)) rfl _ _ hrow' Try.underlying27 rfl hsij ?_)
                        | ((with_reducible refine this_op (.store 27 (.tmp 8) (.tmp 28)) ?_); refine wpList_store_row rfl 27 (.tmp 8) (.tmp 28) rfl wr.heap.size _ rfl rfl 27 _ (Blk.new wr _ _) hsij (by rw [hsj.1]; rfl) hsj.2 ?_
                           obtain ⟨W7, hW7⟩ : ∃ W7, (wr.alloc (.cells #[.int .i64 0, .int .i64 0, .string ByteArray.empty, .int .i64 0, .int .i64 0, .slice none 0 0, .slice none 0 0, .slice none 0 0] 27)).setRow wr.heap.size csj = W7 := ⟨_, rfl⟩
                           have hu7 : Upd nob wr W7 := by rw [← hW7]; exact ((Upd.refl nob wr).alloc _).setRow (.inr (Nat.le_refl _)) _
                           have hb7 : Blk W7 wr.heap.size 27 csj := by rw [← hW7]; exact (Blk.new wr _ _).row _
                           rw [hW7]
                           clear hW7
                           have r7 := hb7.rowAt
                           have hb7b := HBC.out.upd hu7 (fun f => f)
                           have c7 : W7.cell? ⟨nb, 0, none⟩ = some (.int .i64 cc) := hb7b.cell 0
                           have HB7 := Lib.hid hb7b
                           clear hb7 hb7b c1)
                        | ((with_reducible refine this_op (.load 27 (.tmp 8)) ?_); go_big_want; refine owp_load_at 27 (.tmp 8) rfl ⟨wr.heap.size, 0, none⟩ rfl _ _ r7 Try.underlying27 rfl hsij ?_))
      refine (HIH.out csj D (d + 1) cc nb W7 (HLJ.out.old (hDr.old hu7) (fun _ h => h)) (hDr.up hu7) hnb HB7.out hcc2 (by omega)).mono ?_
      rintro e w8 ⟨rfl, hb8, hu8⟩
      have hrc := HRC3.out
      have hle := rcnt_le ks[j] (d + 1) cc hcc2
      obtain ⟨⟨Y1, Y2⟩, hY⟩ : ∃ Y, rcnt ks[j] (d + 1) cc = Y := ⟨_, rfl⟩
      rw [hY] at hrc hb8 hle ⊢
      simp only at hrc hb8 hle ⊢
      have hu38 : Upd (fun q => q = nb) w3 w8 := hus.trans ((hu7.mono (fun _ f => f.elim)).trans hu8)
      have HB8 := Lib.hid hb8
      clear hb8 hY HRC3 c7 r7
      cases Y1 with
      | true =>
       rw [if_pos rfl] at hrc
       have HRC4 := Lib.hid hrc
       clear hrc
       go_wp2_with fail
       go_roundg (gk - 1)
       case measure => omega
       case rel => exact ⟨j + 1, Y2, by omega, by go_num, HB8.out, hle, HRC4.out, hu38⟩
      | false =>
       rw [if_neg (by decide)] at hrc
       injection hrc with h1 h2
       subst h1 h2
       go_wp2_with fail
       go_ret
       exact ⟨rfl, HB8.out, hu03.trans hu38⟩
    have t2 : decide ((j : Int) < q) = false := by simp; omega
    have hrc := HRC.out
    have e1 : q - j = 0 := by omega
    rw [e1, rcnts] at hrc
    injection hrc with h1 h2
    subst h1 h2
    clear HRC
    by_cases hle : cc ≤ 20000
    · have t4 : decide ((cc : Int) ≤ 20000) = true := by simp; omega
      go_wp2_with fail
      go_ret
      exact ⟨by simp [hle], HBC.out, hu03.trans hus⟩
    have t4 : decide ((cc : Int) ≤ 20000) = false := by simp; omega
    go_wp2_with fail
    go_ret
    exact ⟨by simp [hle], HBC.out, hu03.trans hus⟩
theorem rgreat_any (t : Tm) (cs : Array Value) (D : Nat → Prop) (w : World) (hD : Within D w) (hl : TmIs D w t cs) :
    Calls Try.prog 15 #[.agg cs] w fun e w' => e = .returned (.bool (rgreat t)) ∧ Below w.heap.size w w' := by
 have hs := hl.oneCell
 have hsi : (Try.prog.info? 27).map (·.size) = some cs.size := by rw [hs.1]; exact tm_size
 obtain ⟨X, hX⟩ : ∃ X, rgreat t = X := ⟨_, rfl⟩
 rw [hX]
 have HX := Lib.hid hX; clear hX
 obtain ⟨W1, hW1⟩ : ∃ W1, (w.alloc (.cells cs 27)).alloc (.cells #[.int .i64 0] 3) = W1 := ⟨_, rfl⟩
 have huW1 : Upd nob w W1 := by rw [← hW1]; exact ((Upd.refl nob w).alloc _).alloc _
 have hsW1 : W1.heap.size = w.heap.size + 2 := by rw [← hW1]; simp
 have bk0 : Blk W1 (w.heap.size) 27 cs := by
  rw [← hW1]
  have h := Blk.new (w) 27 cs
  exact h.alloc _
 have bk1 : Blk W1 (w.heap.size + 1) 3 #[.int .i64 0] := by
  rw [← hW1]
  have h := Blk.new (w.alloc (.cells cs 27)) 3 #[.int .i64 0]
  rw [World.size_alloc] at h
  exact h
 have hl1 := hl.old (hD.old huW1) (fun _ h => h)
 have hD1 := hD.up huW1
 have r0 := bk0.rowAt
 have HB1 := Lib.hid bk1
 have HW1 := Lib.hid hW1
 rw [← hW1] at r0
 have HL1 := Lib.hid hl1
 clear hW1 bk0 bk1 hl hl1
 go_enter Try.func15, Try.ntmps15
 go_wp2_with (first
     | ((with_reducible refine this_op (.load 27 (.tmp 1)) ?_); refine wpList_at rfl 27 (.tmp 1) rfl ⟨w.heap.size, 0, none⟩ rfl _ _ r0 Try.underlying27 rfl hsi ?_))
 rw [HW1.out]
 refine (rcnt_any t cs D 1 0 (w.heap.size + 1) W1 HL1.out hD1 (fun h => by have := hD _ h; omega) HB1.out (by omega) (by omega)).mono ?_
 rintro e w2 ⟨rfl, _, hu2⟩
 have hb : Below w.heap.size w w2 := (huW1.trans' hu2 (fun q hq h => by omega)).below
 obtain ⟨b, hb2⟩ : ∃ b, (rcnt t 1 0).1 = b := ⟨_, rfl⟩
 have e2 : X = !b := by rw [← HX.out, rgreat, hb2]
 rw [hb2]
 subst e2
 clear hb2 r0 HX
 cases b <;> (go_wp2_with fail; go_ret; exact ⟨rfl, hb⟩)
mutual
def rsz : Tm → Nat
 | .mk k _ _ _ _ ks => if rlf k ks.length = true then 1 else 1 + rszs (tar k).toNat ks
def rszs : Nat → List Tm → Nat
 | 0, _ => 0
 | _ + 1, [] => 0
 | i + 1, t :: l => rsz t + rszs i l
end
mutual
theorem rcnt_true : ∀ (t : Tm) (d c : Nat), (rcnt t d c).1 = true → (rcnt t d c).2 = c + rsz t
 | .mk k _ _ _ _ ks, d, c, h => by
  rw [rcnt] at h ⊢
  rw [rsz]
  by_cases h1 : 2000 < d
  · rw [if_pos h1] at h; cases h
  rw [if_neg h1] at h ⊢
  by_cases h2 : rlf k ks.length = true
  · rw [if_pos h2, if_pos h2]
  rw [if_neg h2] at h
  rw [if_neg h2, if_neg h2, rcnts_true _ ks d (c + 1) h]; omega
theorem rcnts_true : ∀ (i : Nat) (l : List Tm) (d c : Nat), (rcnts i l d c).1 = true → (rcnts i l d c).2 = c + rszs i l
 | 0, _, _, c, _ => by rw [rcnts, rszs]; rfl
 | _ + 1, [], _, c, _ => by rw [rcnts, rszs]; rfl
 | i + 1, t :: l, d, c, h => by
  rw [rcnts] at h ⊢
  rw [rszs]
  by_cases h1 : 20000 < c
  · rw [if_pos h1] at h; cases h
  rw [if_neg h1] at h ⊢
  by_cases h2 : (rcnt t (d + 1) c).1 = true
  · rw [if_pos h2] at h ⊢
    rw [rcnts_true i l d _ h, rcnt_true t (d + 1) c h2]; omega
  rw [if_neg h2] at h; cases h
end
theorem rgreat_sz {t : Tm} (h : rgreat t = false) : rsz t ≤ 20001 := by
 have h1 : (rcnt t 1 0).1 = true := by unfold rgreat at h; simpa using h
 have h2 := rcnt_true t 1 0 h1
 have := rcnt_le t 1 0 (by omega)
 omega
end Go.Proofs.Ytiampoebdmflgaa
/- The reference's same, Same. -/
namespace Go.Proofs.Ytiampoebdmflgaa
open Go.RowKit
set_option linter.unusedVariables false
set_option maxRecDepth 100000
set_option maxHeartbeats 4000000
set_option linter.unusedSimpArgs false
def reqs : List Lv → List Lv → Bool
 | [], [] => true
 | a :: l, b :: r => req a b && reqs l r
 | _, _ => false
mutual
def rsame : Tm → Tm → Bool
 | .mk k n nm lv ls ks, b =>
  if k ≠ b.k ∨ (Tm.mk k n nm lv ls ks).rleaf ≠ b.rleaf then false
  else if (Tm.mk k n nm lv ls ks).rleaf = true then true
  else if k = 1 then n == b.n else if k = 2 then req lv b.lv else if k = 7 then (nm.toList == b.nm.toList && reqs ls b.ls)
  else rsames (tar k).toNat ks b.ks
def rsames : Nat → List Tm → List Tm → Bool
 | 0, _, _ => true
 | m + 1, a :: as_, b :: bs => rsame a b && rsames m as_ bs
 | _ + 1, _, _ => true
end
theorem rsame_eq {k n : Int} {nm : ByteArray} {lv : Lv} {ls : List Lv} {ks : List Tm} {b : Tm} (h : k = b.k) (hl : (Tm.mk k n nm lv ls ks).rleaf = b.rleaf) :
    rsame (.mk k n nm lv ls ks) b = if (Tm.mk k n nm lv ls ks).rleaf = true then true
    else if k = 1 then n == b.n else if k = 2 then req lv b.lv else if k = 7 then (nm.toList == b.nm.toList && reqs ls b.ls) else rsames (tar k).toNat ks b.ks := by
 rw [rsame, if_neg (fun hh => hh.elim (fun h1 => h1 h) (fun h1 => h1 hl))]
theorem rsame_eq2 {k n m : Int} {nm nmb : ByteArray} {lv lvb : Lv} {ls lsb : List Lv} {ks ksb : List Tm} (hl : (Tm.mk k n nm lv ls ks).rleaf = (Tm.mk k m nmb lvb lsb ksb).rleaf) :
    rsame (.mk k n nm lv ls ks) (.mk k m nmb lvb lsb ksb) = if (Tm.mk k n nm lv ls ks).rleaf = true then true
    else if k = 1 then n == m else if k = 2 then req lv lvb else if k = 7 then (nm.toList == nmb.toList && reqs ls lsb) else rsames (tar k).toNat ks ksb := rsame_eq rfl hl
end Go.Proofs.Ytiampoebdmflgaa
/- The reference's Same. -/
namespace Go.Proofs.Ytiampoebdmflgaa
open Go.RowKit
set_option linter.unusedVariables false
set_option maxRecDepth 100000
set_option maxHeartbeats 4000000
set_option linter.unusedSimpArgs false
def rSame (a b : Tm) : Bool := !rgreat a && (!rgreat b && rsame a b)
end Go.Proofs.Ytiampoebdmflgaa
/- A row of terms that is filled while others' blocks come and go. -/
namespace Go.Proofs.Ytiampoebdmflgaa
open Go.RowKit
set_option linter.unusedVariables false
set_option linter.unusedSimpArgs false
theorem owp_store_part {P : Program} {o : Oper} {a : Act} {w : World} {Q : Exit → Act → World → Prop} {K : Act → World → Prop} (ty : TypeId) (x y : Operand) (ho : o.op = .store ty x y)
    (g k : Nat) (cells : Array Value) (hx : a.eval x = .pointer (some ⟨g, k, none⟩)) (hy : a.eval y = .agg cells)
    (t : TypeId) (cur new : Array Value) (hg : Blk w g t cur) (hi : (P.info? ty).map (·.size) = some cells.size) (hl : k + cells.size ≤ cur.size)
    (h1 : cells.all (·.oneCell') = true) (hn : new = (cur.toList.take k ++ cells.toList ++ cur.toList.drop (k + cells.size)).toArray)
    (h : K (a.put o.dst undef) (w.setRow g new)) : o.wp P a w K Q := by
 unfold Oper.wp execOp
 simp only [ho, hx, hy, Instr.storeAt, Instr.sureAddr, Sem.run_bind, Sem.run_pure, Result.andThen_ok, run_storeVar_part w g k t ty cur cells new hg hi hl h1 hn]
 exact h
theorem Rows.last {w : World} {base : Nat} {e : TypeId} {n : Nat} {v : Value} {rows : List (Array Value)} {r : Array Value} (h : Rows w base e n v (rows ++ [r])) :
    ∃ g cap cur, v = .slice (some ⟨g, 0, none⟩) (rows.length + 1) cap ∧ Blk w g e cur ∧ base ≤ g ∧ rows.length * n + n ≤ cur.size ∧
     ∀ r' : Array Value, r'.size = n → ∀ w', Blk w' g e (cur.toList.take (rows.length * n) ++ r'.toList ++ cur.toList.drop (rows.length * n + r'.size)).toArray → Rows w' base e n v (rows ++ [r']) := by
 rcases h.own.2 with ⟨_, h0⟩ | ⟨g, cap, cur, hv, hb, hh, h1, h2, h3, h4⟩
 · simp at h0
 have hr := h.sz r (by simp)
 have hrl : r.toList.length = n := by simpa using hr
 have hlen := h.own.1
 have hl1 : (rows ++ [r]).length = rows.length + 1 := by simp
 rw [hl1] at hv h1 h4 hlen
 have hsm : (rows.length + 1) * n = rows.length * n + n := Nat.succ_mul _ _
 have hle : (rows.length + 1) * n ≤ cap * n := Nat.mul_le_mul_right _ h1
 have hc1 : cat (rows ++ [r]) = cat rows ++ r.toList := by rw [cat_app]; simp [cat]
 rw [hc1] at h4 hlen
 have hcr : (cat rows).length = rows.length * n := by
  rw [List.length_append, hrl] at hlen; omega
 have htk : cur.toList.take (rows.length * n) = cat rows := by
  have h5 := congrArg (List.take (rows.length * n)) h4
  rw [List.take_take, Nat.min_eq_left (by omega), ← hcr, List.take_left] at h5
  rw [← hcr]; exact h5
 refine ⟨g, cap, cur, hv, hh, hb, by omega, fun r' hr' w' hb' => ?_⟩
 have hrl' : r'.toList.length = n := by simpa using hr'
 have hl2 : (rows ++ [r']).length = rows.length + 1 := by simp
 have hc2 : cat (rows ++ [r']) = cat rows ++ r'.toList := by rw [cat_app]; simp [cat]
 refine ⟨⟨?_, .inr ⟨g, cap, _, by rw [hl2]; exact hv, hb, hb', by rw [hl2]; exact h1, h2, ?_, ?_⟩⟩, ?_⟩
 · rw [hc2, hl2, List.length_append, hcr, hrl']; omega
 · simp only [List.size_toArray, List.length_append, List.length_take, List.length_drop, Array.length_toList, hr']
   omega
 · rw [hc2, hl2, htk]
   simp only []
   rw [List.take_left' (by rw [List.length_append, hcr, hrl']; omega)]
 intro q hq
 rcases List.mem_append.1 hq with hq | hq
 · exact h.sz q (List.mem_append_left _ hq)
 rw [List.mem_singleton.1 hq]; exact hr'
structure MC (D I : Nat → Prop) (base : Nat) (w : World) (v : Value) (ls : List Tm) : Prop where
 out : ∃ (E : Nat → Prop) (rows : List (Array Value)), (∀ q, E q → D q ∨ (base ≤ q ∧ q < w.heap.size ∧ ¬ I q)) ∧ Rows w base 27 8 v rows ∧ (∀ g, v.ownBlock = some g → ¬ I g ∧ ¬ E g) ∧ RRows tmR E w ls rows
theorem MC.nil_ {D I : Nat → Prop} {base : Nat} {w : World} : MC D I base w (.slice none 0 0) [] := ⟨nob, [], fun _ f => f.elim, Rows.nil_, fun g h => by simp [Value.ownBlock] at h, RRows.nil_⟩
theorem MC.form {D I : Nat → Prop} {base : Nat} {w : World} {v : Value} {ls : List Tm} (h : MC D I base w v ls) : ∃ A c, v = .slice A ls.length c ∧ ls.length ≤ c := by
 obtain ⟨E, rows, h1, h2, h3, h4⟩ := h.out
 obtain ⟨A, c, hv, hc⟩ := h2.form
 exact ⟨A, c, by rw [hv, h4.1], by rw [← h4.1]; exact hc⟩
theorem MC.lt {D I : Nat → Prop} {base : Nat} {w : World} {v : Value} {ls : List Tm} (h : MC D I base w v ls) {g : Nat} (hg : v.ownBlock = some g) : base ≤ g ∧ g < w.heap.size ∧ ¬ I g := by
 obtain ⟨E, rows, h1, h2, h3, h4⟩ := h.out
 exact ⟨(h2.lt hg).1, (h2.lt hg).2, (h3 g hg).1⟩
theorem MC.upd {D I I' S : Nat → Prop} {base : Nat} {w w' : World} {v : Value} {ls : List Tm} (h : MC D I base w v ls) (hu : Upd S w w') (hS : ∀ q, S q → I q ∨ (q < base ∧ ¬ D q)) (hD : ∀ q, D q → q < base ∧ ¬ I q) (hb : base ≤ w.heap.size)
    (hI : ∀ q, I' q → I q ∨ w.heap.size ≤ q) : MC D I' base w' v ls := by
 obtain ⟨E, rows, h1, h2, h3, h4⟩ := h.out
 have hnS : ∀ q, E q → q < w.heap.size ∧ ¬ S q := fun q hq => by
  rcases h1 q hq with hd | ⟨a, b, c⟩
  · have := hD q hd
    exact ⟨by omega, fun h => by rcases hS q h with hi | ⟨_, hi⟩; exact this.2 hi; exact hi hd⟩
  exact ⟨b, fun h => by rcases hS q h with hi | ⟨hi, _⟩; exact c hi; omega⟩
 refine ⟨E, rows, fun q hq => (h1 q hq).imp id fun ⟨a, b, c⟩ => ⟨a, Nat.lt_of_lt_of_le b hu.size, fun hi => by rcases hI q hi with hi | hi; exact c hi; omega⟩, h2.upd hu ?_, ?_, h4.old ?_ (fun _ h => h)⟩
 · intro g hg hs
   rcases hS g hs with hi | ⟨hi, _⟩
   · exact (h3 g hg).1 hi
   have := (h2.lt hg).1; omega
 · intro g hg
   refine ⟨fun hi => ?_, (h3 g hg).2⟩
   rcases hI g hi with hi | hi
   · exact (h3 g hg).1 hi
   have := (h2.lt hg).2; omega
 intro q hq
 exact hu.block q (hnS q hq).1 (hnS q hq).2
theorem MC.tms {D I D' : Nat → Prop} {base : Nat} {w : World} {v : Value} {ls : List Tm} (h : MC D I base w v ls) (hD : ∀ x, D x ∨ (base ≤ x ∧ x < w.heap.size) → D' x) : ∃ A c, v = .slice A ls.length c ∧ ls.length ≤ c ∧ TmsAt D' w ls A 0 := by
 obtain ⟨E, rows, h1, hr, h3, hrr⟩ := h.out
 obtain ⟨A, c, hv, hcp⟩ := hr.form
 refine ⟨A, c, by rw [hv, ← hrr.1], by rw [← hrr.1]; exact hcp, TmsAt.mk fun j l hj => ?_⟩
 have hjl : j < rows.length := by have := (List.getElem?_eq_some_iff.1 hj).1; rw [hrr.1]; exact this
 obtain ⟨g, cap, hv2, hrow⟩ := hr.at_ hjl
 have hA : A = some ⟨g, 0, none⟩ := by rw [hv] at hv2; injection hv2
 have hlt := hr.lt (g := g) (by rw [hv2]; rfl)
 exact ⟨⟨g, 0, none⟩, rows[j], hA, hD _ (.inr hlt), by rw [Nat.zero_add]; exact hrow, tmR.old (Old.refl _ _) (fun k hk => hD k ((h1 k hk).imp id fun h => ⟨h.1, h.2.1⟩)) (hrr.2 j l rows[j] hj (List.getElem?_eq_getElem hjl))⟩
end Go.Proofs.Ytiampoebdmflgaa
