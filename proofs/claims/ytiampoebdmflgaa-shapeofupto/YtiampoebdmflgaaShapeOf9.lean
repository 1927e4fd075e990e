/- Texts put one behind the other: Zctor, Zof, Zshape, Zlight, Zbind, Llaw. -/
import Derived.Test.YtiampoebdmflgaaShapeOf8
import Derived.Test.YtiampoebdmflgaaShapeOf6

/- The reference's ctor. -/
namespace Go.Proofs.Ytiampoebdmflgaa
open Go.RowKit
set_option linter.unusedVariables false
set_option maxRecDepth 100000
set_option maxHeartbeats 4000000
set_option linter.unusedSimpArgs false
def allRS : List Tm → List Tm → Bool
 | a :: l, b :: r => rSame a b && allRS l r
 | _, _ => true
def rctorF (nm : ByteArray) (m p idx : Nat) (F : Int) : Nat → List (Int × Int) → List Tm → CShape × Int
 | _, sl, [] => ((F, sl), 0)
 | i, sl, a :: l =>
  if rment a nm = true then
   (if ((trow a).1.any fun t => rment t nm) = true then ((0, []), 15)
    else if rend nm m p idx (trow a).2 ((p : Int) + i + (trow a).1.length) ≠ 0 then ((0, []), 15)
    else rctorF nm m p idx F (i + 1) (sl ++ [((i : Int), ((trow a).1.length : Int))]) l)
  else rctorF nm m p idx F (i + 1) sl l
/-- assizeref13's ctor. -/
def rctor (nm : ByteArray) (m p idx : Nat) (doms : List Tm) (t : Tm) : CShape × Int :=
 if (trow t).1.length < p then ((0, []), 14)
 else if allRS ((trow t).1.take p) doms = false then ((0, []), 14)
 else if rend nm m p idx (trow t).2 (trow t).1.length = 1 then ((0, []), 14)
 else if rend nm m p idx (trow t).2 (trow t).1.length = 2 then ((0, []), 15)
 else rctorF nm m p idx ((trow t).1.length - p) 0 [] ((trow t).1.drop p)
theorem rowF_rest : ∀ (n : Nat) (t : Tm) (acc : List Tm), (rowF n t acc).2.height ≤ t.height
 | 0, _, _ => Nat.le_refl _
 | n + 1, t, acc => by
  rw [rowF]
  split
  · split
    · rename_i d b r hks
      obtain ⟨k, nn, nm, lv, ls, ks⟩ := t
      simp only [Tm.ks] at hks
      subst hks
      have hb : b.height ≤ Tm.heights (d :: b :: r) := Tm.height_mem (by simp)
      have := rowF_rest n b (acc ++ [d])
      simp only [Tm.height]; omega
    · exact Nat.le_refl _
  · exact Nat.le_refl _
theorem trow_rest (t : Tm) : (trow t).2.height ≤ t.height := rowF_rest t.height t []
set_option maxHeartbeats 8000000 in
theorem rctor_any (dk : Int) (nm : ByteArray) (m p idx : Nat) (a0 a1 a2 a3 a4 a5 a6 a7 b0 b1 b2 b3 b4 b5 b6 b7 : Value) (cts : Value) (doms : List Tm) (Ad : Option Addr) (cd : Nat) (cn : ByteArray) (t : Tm) (c0 c1 c2 c3 c4 c5 c6 c7 : Value) (D : Nat → Prop) (w : World) (hD : Within D w)
    (hl : TmIs D w t #[c0, c1, c2, c3, c4, c5, c6, c7]) (hdm : TmsAt D w doms Ad 0) (hpd : p ≤ doms.length) (hdl : doms.length ≤ 140737488351232)
    (hm : m ≤ 1000) (hnm : nm.size ≤ 140737488351232) (hi : idx ≤ 140737488351232) (hth : t.height * 120 ≤ 140737488351232) :
    Calls Try.prog 40 #[.agg #[.int .i64 dk, .string nm, .int .i64 m, a0, a1, a2, a3, a4, a5, a6, a7, b0, b1, b2, b3, b4, b5, b6, b7, .int .i64 p, cts], .int .i64 idx, .slice Ad doms.length cd, .agg #[.string cn, c0, c1, c2, c3, c4, c5, c6, c7]] w fun e w' =>
     ∃ cs', e = .returned (.tuple #[.agg cs', .int .i64 (rctor nm m p idx doms t).2]) ∧ CsIs (fresh w w') w' (rctor nm m p idx doms t).1 cs' ∧ Below w.heap.size w w' := by
 have hz := tm_zero
 have hz2 := cs_zero
 have HHT : Hid (∀ a, a ∈ (trow t).1 → a.height * 120 ≤ 140737488351232) := Lib.hid (fun a h => by have := trow_mem h; omega)
 have hlen := trow_le t
 have HRS : Hid ((trow t).2.height * 120 ≤ 140737488351232) := Lib.hid (by have := trow_rest t; omega)
 obtain ⟨⟨⟨X1, X2⟩, X3⟩, hX⟩ : ∃ X, rctor nm m p idx doms t = X := ⟨_, rfl⟩
 rw [hX]
 have HX := Lib.hid hX; clear hX
 obtain ⟨dn, hdn⟩ : ∃ n, doms.length = n := ⟨_, rfl⟩
 have HDN := Lib.hid hdn
 rw [hdn] at hpd hdl ⊢
 clear hdn
 obtain ⟨W1, hW1⟩ : ∃ W1, ((w.alloc (.cells #[.int .i64 dk, .string nm, .int .i64 m, a0, a1, a2, a3, a4, a5, a6, a7, b0, b1, b2, b3, b4, b5, b6, b7, .int .i64 p, cts] 30)).alloc (.cells #[.string cn, c0, c1, c2, c3, c4, c5, c6, c7] 46)).alloc (.cells #[.int .i64 0, .slice none 0 0] 50) = W1 := ⟨_, rfl⟩
 have huW1 : Upd nob w W1 := by rw [← hW1]; exact (((Upd.refl nob w).alloc _).alloc _).alloc _
 have hsW1 : W1.heap.size = w.heap.size + 3 := by rw [← hW1]; simp
 have bk0 : Blk W1 (w.heap.size) 30 #[.int .i64 dk, .string nm, .int .i64 m, a0, a1, a2, a3, a4, a5, a6, a7, b0, b1, b2, b3, b4, b5, b6, b7, .int .i64 p, cts] := by
  rw [← hW1]
  have h := Blk.new (w) 30 #[.int .i64 dk, .string nm, .int .i64 m, a0, a1, a2, a3, a4, a5, a6, a7, b0, b1, b2, b3, b4, b5, b6, b7, .int .i64 p, cts]
  exact (h.alloc _).alloc _
 have bk1 : Blk W1 (w.heap.size + 1) 46 #[.string cn, c0, c1, c2, c3, c4, c5, c6, c7] := by
  rw [← hW1]
  have h := Blk.new (w.alloc (.cells #[.int .i64 dk, .string nm, .int .i64 m, a0, a1, a2, a3, a4, a5, a6, a7, b0, b1, b2, b3, b4, b5, b6, b7, .int .i64 p, cts] 30)) 46 #[.string cn, c0, c1, c2, c3, c4, c5, c6, c7]
  rw [World.size_alloc] at h
  exact h.alloc _
 have bk2 : Blk W1 (w.heap.size + 1 + 1) 50 #[.int .i64 0, .slice none 0 0] := by
  rw [← hW1]
  have h := Blk.new ((w.alloc (.cells #[.int .i64 dk, .string nm, .int .i64 m, a0, a1, a2, a3, a4, a5, a6, a7, b0, b1, b2, b3, b4, b5, b6, b7, .int .i64 p, cts] 30)).alloc (.cells #[.string cn, c0, c1, c2, c3, c4, c5, c6, c7] 46)) 50 #[.int .i64 0, .slice none 0 0]
  rw [World.size_alloc, World.size_alloc] at h
  exact h
 have hl1 := hl.old (hD.old huW1) (fun _ h => h)
 have hdm1 := hdm.old (hD.old huW1) (fun _ h => h)
 have hD1 := hD.up huW1
 have rt : rowAt W1 ⟨w.heap.size + 1, 1, none⟩ #[c0, c1, c2, c3, c4, c5, c6, c7] := sub_row (p := ⟨w.heap.size + 1, 0, none⟩) bk1.rowAt 1 _ (fun j v hv => by
  match j, hv with
  | 0, hv | 1, hv | 2, hv | 3, hv | 4, hv | 5, hv | 6, hv | 7, hv => exact hv
  | (j + 8), hv => simp at hv)
 have HB0 := Lib.hid bk0
 have HB2 := Lib.hid bk2
 have HL1 := Lib.hid hl1
 have HDM := Lib.hid hdm1
 have HW1 := Lib.hid hW1
 rw [← hW1] at rt
 clear hl hdm hl1 hdm1 bk0 bk1 bk2 hW1
 go_enter Try.func40, Try.ntmps40
 go_wp2_with (first
       | ((with_reducible refine this_op (.load 27 (.tmp 21)) ?_); refine wpList_at rfl 27 (.tmp 21) rfl ⟨w.heap.size + 1, 1, none⟩ rfl _ _ rt Try.underlying27 rfl tm_size ?_))
 rw [HW1.out]
 clear rt HW1
 refine (rrow_any t _ D W1 hD1 HL1.out (by omega)).mono ?_
 rintro e w2 ⟨cs2, A, c, rfl, hl2, hlc, hat2, hb2⟩
 have hu2 : Upd nob W1 w2 := Upd.of_below hb2
 have hw2s := hu2.size
 have HX2 := HX.out
 unfold rctor at HX2
 obtain ⟨⟨ds, rs⟩, hsp⟩ : ∃ x, trow t = x := ⟨_, rfl⟩
 have HHT2 := HHT.out
 rw [hsp] at HX2 HHT2 hl2 hlc hat2 hlen ⊢
 simp only at HX2 HHT2 hl2 hlc hat2 hlen ⊢
 obtain ⟨n, hn⟩ : ∃ n, ds.length = n := ⟨_, rfl⟩
 rw [hn] at HX2 hlc hlen ⊢
 have HX3 := Lib.hid HX2
 have HHT3 := Lib.hid HHT2
 have HN := Lib.hid hn
 have hs2 := hl2.oneCell
 have hsi2 : (Try.prog.info? 27).map (·.size) = some cs2.size := by rw [hs2.1]; exact tm_size
 have HL2 := Lib.hid hl2
 have HAT2 := Lib.hid hat2
 have hrsh : rs.height * 120 ≤ 140737488351232 := by have := HRS.out; rw [hsp] at this; exact this
 clear hsp HX2 HX HHT HHT2 HL1 hn hl2 hat2
 by_cases hlp : n < p
 · have t1 : decide ((n : Int) < (p : Int)) = true := by simp; omega
   have hx := HX3.out
   rw [if_pos hlp] at hx
   injection hx with hx1 hx3
   injection hx1 with hx1 hx2
   subst hx1 hx2 hx3
   clear HX3
   go_wp2_with (first
           | ((with_reducible refine this_op (.store 27 (.tmp 11) (.tmp 25)) ?_); refine wpList_store_row rfl 27 (.tmp 11) (.tmp 25) rfl w2.heap.size _ rfl rfl 27 _ (Blk.new w2 _ _) hsi2 (by rw [hs2.1]; rfl) hs2.2 ?_
              obtain ⟨W3, hW3⟩ : ∃ W3, (w2.alloc (.cells #[.int .i64 0, .int .i64 0, .string ByteArray.empty, .int .i64 0, .int .i64 0, .slice none 0 0, .slice none 0 0, .slice none 0 0] 27)).setRow w2.heap.size cs2 = W3 := ⟨_, rfl⟩
              have hu3 : Upd nob w2 W3 := by rw [← hW3]; exact ((Upd.refl nob w2).alloc _).setRow (.inr (Nat.le_refl _)) _
              have hb3 : Blk W3 w2.heap.size 27 cs2 := by rw [← hW3]; exact (Blk.new w2 _ _).row _
              rw [hW3]
              clear hW3
              have u0 := HB0.out.upd (hu2.trans hu3) (fun f => f)
              have p19 : W3.cell? ⟨w.heap.size, 19, none⟩ = some (.int .i64 p) := u0.cell 19
              have U0 := Lib.hid u0
              have U1 := Lib.hid (HB2.out.upd (hu2.trans hu3) (fun f => f))
              have HB3 := Lib.hid hb3
              clear hb3 u0)
           | ((with_reducible refine this_op (.store 50 (.tmp 8) (.tmp 31)) ?_); refine wpList_store_row rfl 50 (.tmp 8) (.tmp 31) rfl (w.heap.size + 1 + 1) _ rfl rfl 50 _ U1.out cs_size rfl (by simp [Value.oneCell']) ?_))
   refine bodyPost_ret (results_cell_tmp rfl _ _ (w.heap.size + 1 + 1) 50 #[.int .i64 0, .slice none 0 0] (0, 0) _ (.int .i64 14) rfl rfl (U1.out.row _) Try.underlying50 rfl cs_size) rfl ?_
   exact ⟨_, rfl, ⟨none, 0, rfl, fun j y h => by simp at h⟩, (((huW1.trans hu2).trans hu3).trans' ((Upd.refl (fun q => q = w.heap.size + 1 + 1) _).setRow (.inl rfl) _) (fun q hq h => by omega)).below⟩
 · have t1 : decide ((n : Int) < (p : Int)) = false := by simp; omega
   have hx := HX3.out
   rw [if_neg hlp] at hx
   have HX4 := Lib.hid hx
   clear hx HX3
   have hpc : p ≤ c := by omega
   have hpn : p ≤ n := by omega
   go_wp2_with (first
           | ((with_reducible refine this_op (.store 27 (.tmp 11) (.tmp 25)) ?_); refine wpList_store_row rfl 27 (.tmp 11) (.tmp 25) rfl w2.heap.size _ rfl rfl 27 _ (Blk.new w2 _ _) hsi2 (by rw [hs2.1]; rfl) hs2.2 ?_
              obtain ⟨W3, hW3⟩ : ∃ W3, (w2.alloc (.cells #[.int .i64 0, .int .i64 0, .string ByteArray.empty, .int .i64 0, .int .i64 0, .slice none 0 0, .slice none 0 0, .slice none 0 0] 27)).setRow w2.heap.size cs2 = W3 := ⟨_, rfl⟩
              have hu3 : Upd nob w2 W3 := by rw [← hW3]; exact ((Upd.refl nob w2).alloc _).setRow (.inr (Nat.le_refl _)) _
              have hb3 : Blk W3 w2.heap.size 27 cs2 := by rw [← hW3]; exact (Blk.new w2 _ _).row _
              rw [hW3]
              clear hW3
              have u0 := HB0.out.upd (hu2.trans hu3) (fun f => f)
              have p19 : W3.cell? ⟨w.heap.size, 19, none⟩ = some (.int .i64 p) := u0.cell 19
              have U0 := Lib.hid u0
              have U1 := Lib.hid (HB2.out.upd (hu2.trans hu3) (fun f => f))
              have HB3 := Lib.hid hb3
              clear hb3 u0))
   have hD2 : Within (grow D W1 w2) w2 := fun q hq => hq.elim (fun h => hD1.up hu2 q h) (fun h => h.2)
   have hl3 := HL2.out.old (hD2.old hu3) (fun _ h => h)
   have hat3 := HAT2.out.old (hD2.old hu3) (fun _ h => h)
   have hdm3 := HDM.out.old (D' := grow D W1 w2) (hD1.old (hu2.trans hu3)) (fun _ h => .inl h)
   have hD3 := hD2.up hu3
   have hu03 : Upd nob w W3 := (huW1.trans hu2).trans hu3
   have HL3 := Lib.hid hl3
   have HAT3 := Lib.hid hat3
   have HDM3 := Lib.hid hdm3
   have hw33 := hu3.size
   clear hl3 hat3 hdm3 HL2 HAT2 HDM
   generalize grow D W1 w2 = D2 at *
   obtain ⟨V, hV⟩ : ∃ V, allRS (ds.take p) doms = V := ⟨_, rfl⟩
   have hx := HX4.out
   rw [hV] at hx
   have HX5 := Lib.hid hx
   have HV := Lib.hid hV
   clear hx hV HX4 t1
   go_loopg [34] p (fun k v wr => ∃ j : Nat, j + k = p ∧ v = .int .i64 j ∧ allRS ((ds.take p).drop j) (doms.drop j) = V ∧ Upd nob W3 wr)
   case atStart => exact ⟨0, by omega, rfl, by rw [List.drop_zero, List.drop_zero]; exact HV.out, Upd.refl _ _⟩
   case round =>
    clear p19
    obtain ⟨j, hj, rfl, hvd, hu⟩ := hrel
    have HVD := Lib.hid hvd; clear hvd
    have hD5 := hD3.up hu
    have hus := hu.size
    by_cases hlt : j < p
    · have t2 : decide ((j : Int) < p) = true := by simp [hlt]
      have hjn : j < ds.length := by rw [HN.out]; omega
      have hjf : j < doms.length := by rw [HDN.out]; omega
      have hln : j < n := by omega
      have hlf : j < dn := by omega
      obtain ⟨a, csj, hA, hab, hrow, hlj⟩ := HAT3.out.at_ (List.getElem?_eq_getElem hjn)
      rw [Nat.zero_add] at hrow
      obtain ⟨b, csb, hB, hbb, hrowb, hlb⟩ := HDM3.out.at_ (List.getElem?_eq_getElem hjf)
      rw [Nat.zero_add] at hrowb
      have hdr : (ds.take p).drop j = ds[j] :: (ds.take p).drop (j + 1) := by
       rw [List.drop_eq_getElem_cons (by rw [List.length_take]; omega), List.getElem_take]
      have hdr2 : doms.drop j = doms[j] :: doms.drop (j + 1) := List.drop_eq_getElem_cons hjf
      have hvd := HVD.out
      rw [hdr, hdr2, allRS] at hvd
      have HVD2 := Lib.hid hvd
      have hrow' := hrow.old (hD3.old hu) (by rw [Addr_add_block]; exact hab)
      have hlj' := hlj.old (hD3.old hu) (fun _ h => h)
      have hrowb' := hrowb.old (hD3.old hu) (by rw [Addr_add_block]; exact hbb)
      have hlb' := hlb.old (hD3.old hu) (fun _ h => h)
      have hsij : (Try.prog.info? 27).map (·.size) = some csj.size := by rw [hlj.oneCell.1]; exact tm_size
      have hsib : (Try.prog.info? 27).map (·.size) = some csb.size := by rw [hlb.oneCell.1]; exact tm_size
      have HA := Lib.hid hA
      have HB := Lib.hid hB
      have HLJ := Lib.hid hlj'
      have HLB := Lib.hid hlb'
      have hbl := hD5 _ hab
      have hbl2 := hD5 _ hbb
      clear hA hB hvd hdr hdr2 HVD hrow hrowb hlj hlj' hlb hlb'
      go_wp2_with fail
      refine wp_region_P (by kernel_rfl) ?_
      refine wpAny_of_held (S := fun X : World => ∀ p : Addr, p.block < wr.heap.size → X.cell? p = wr.cell? p) _ _ _ _ ?_
      have hS : ∀ p : Addr, p.block < wr.heap.size → wr.drew.cell? p = wr.cell? p := fun _ _ => rfl
      refine wpAnyH_take (i := 0) (v := ?_) rfl (by kernel_rfl) (by kernel_rfl) (by kernel_rfl) (fun _ _ _ h => h) (Or.inl ⟨by rfl, ?_⟩) hS ?_
      rotate_left
      · intro wx hx
        clear hx
        go_simp
        with_reducible rfl
      try simp only [tl]
      refine wpAnyH_take (i := 1) (v := ?_) rfl (by kernel_rfl) (by kernel_rfl) (by kernel_rfl) (fun _ _ _ h => h) (Or.inl ⟨by rfl, ?_⟩) hS ?_
      rotate_left
      · intro wx hx
        clear hx
        go_simp
        with_reducible rfl
      try simp only [tl]
      refine wpAnyH_take (i := 2) (v := (.pointer (some (Addr.add a (j * 8))))) rfl (by kernel_rfl) (by kernel_rfl) (by kernel_rfl) (fun _ _ _ h => h) (Or.inl ⟨by rfl, ?_⟩) hS ?_
      · intro wx hx
        exact run_index_at 25 (.tmp 37) (.tmp 38) rfl _ a _ _ rfl HA.out j rfl hln 27 Try.underlying25 8 tm_size
      try simp only [tl]
      refine wpAnyH_take (i := 3) (v := (.agg csj)) rfl (by kernel_rfl) (by kernel_rfl) (by kernel_rfl) (fun _ _ _ h => h) (Or.inl ⟨by rfl, ?_⟩) hS ?_
      · intro wx hx
        exact run_load_at 27 (.tmp 39) rfl (Addr.add a (j * 8)) rfl csj _ (row_on hrow' (by rw [Addr_add_block]; exact hbl) hx) Try.underlying27 rfl hsij
      try simp only [tl]
      refine wpAnyH_take (i := 4) (v := ?_) rfl (by kernel_rfl) (by kernel_rfl) (by kernel_rfl) (fun _ _ _ h => h) (Or.inl ⟨by rfl, ?_⟩) hS ?_
      rotate_left
      · intro wx hx
        clear hx
        go_simp
        with_reducible rfl
      try simp only [tl]
      refine wpAnyH_take (i := 5) (v := ?_) rfl (by kernel_rfl) (by kernel_rfl) (by kernel_rfl) (fun _ _ _ h => h) (Or.inl ⟨by rfl, ?_⟩) hS ?_
      rotate_left
      · intro wx hx
        clear hx
        go_simp
        with_reducible rfl
      try simp only [tl]
      refine wpAnyH_take (i := 6) (v := (.pointer (some (Addr.add b (j * 8))))) rfl (by kernel_rfl) (by kernel_rfl) (by kernel_rfl) (fun _ _ _ h => h) (Or.inl ⟨by rfl, ?_⟩) hS ?_
      · intro wx hx
        exact run_index_at 25 (.tmp 41) (.tmp 42) rfl _ b _ _ rfl HB.out j rfl hlf 27 Try.underlying25 8 tm_size
      try simp only [tl]
      refine wpAnyH_take (i := 7) (v := (.agg csb)) rfl (by kernel_rfl) (by kernel_rfl) (by kernel_rfl) (fun _ _ _ h => h) (Or.inl ⟨by rfl, ?_⟩) hS ?_
      · intro wx hx
        exact run_load_at 27 (.tmp 43) rfl (Addr.add b (j * 8)) rfl csb _ (row_on hrowb' (by rw [Addr_add_block]; exact hbl2) hx) Try.underlying27 rfl hsib
      try simp only [tl]
      refine wpAnyH_alone (i := 8) (by kernel_rfl) rfl (by rfl) fun K hK => ?_
      go_simp
      refine (rSame_any ds[j] doms[j] csj csb D2 wr.drew hD5.drew HLJ.out.drew HLB.out.drew).mono ?_
      rintro e w7 ⟨rfl, hb7⟩
      have hu7 : Upd nob wr w7 := ((Upd.refl nob wr).drew).trans (Upd.of_below hb7)
      refine hK _ _ (cells_of_upd hu7) ?_
      clear hK K
      try simp only [tl]
      have hS : ∀ p : Addr, p.block < wr.heap.size → w7.cell? p = wr.cell? p := cells_of_upd hu7
      refine wpAnyH_take (i := 9) (v := ?_) rfl (by kernel_rfl) (by kernel_rfl) (by kernel_rfl) (fun _ _ _ h => h) (Or.inl ⟨by rfl, ?_⟩) hS ?_
      rotate_left
      · intro wx hx
        clear hx
        go_simp
        with_reducible rfl
      try simp only [tl]
      refine wpAnyH_done (by kernel_rfl) ?_ _
      refine NoPanic.normal ?_
      have hu37 : Upd nob W3 w7 := hu.trans hu7
      cases hq : rSame ds[j] doms[j] with
      | true =>
       have hvd := HVD2.out
       rw [hq, Bool.true_and] at hvd
       have HVD3 := Lib.hid hvd
       clear hvd HVD2 hq
       go_wp2_with fail
       go_roundg (gk - 1)
       case measure => omega
       case rel => exact ⟨j + 1, by omega, by go_num, HVD3.out, hu37⟩
      | false =>
       have hvd := HVD2.out
       rw [hq, Bool.false_and] at hvd
       have hx := HX5.out
       rw [← hvd, if_pos rfl] at hx
       injection hx with hx1 hx3
       injection hx1 with hx1 hx2
       subst hx1 hx2 hx3
       have E1 := Lib.hid (U1.out.upd hu37 (fun f => f))
       clear HX5 HVD2 hvd hq HV
       go_wp2_with (first
                     | ((with_reducible refine this_op (.store 50 (.tmp 8) (.tmp 47)) ?_); refine wpList_store_row rfl 50 (.tmp 8) (.tmp 47) rfl (w.heap.size + 1 + 1) _ rfl rfl 50 _ E1.out cs_size rfl (by simp [Value.oneCell']) ?_))
       refine bodyPost_ret (results_cell_tmp rfl _ _ (w.heap.size + 1 + 1) 50 #[.int .i64 0, .slice none 0 0] (0, 0) _ (.int .i64 14) rfl rfl (E1.out.row _) Try.underlying50 rfl cs_size) rfl ?_
       exact ⟨_, rfl, ⟨none, 0, rfl, fun j y h => by simp at h⟩, ((hu03.trans hu37).trans' ((Upd.refl (fun q => q = w.heap.size + 1 + 1) _).setRow (.inl rfl) _) (fun q hq h => by omega)).below⟩
    · have t2 : decide ((j : Int) < p) = false := by simp; omega
      have hjp : p = j := by omega
      subst hjp
      have hvd := HVD.out
      have h0 : (ds.take p).drop p = [] := List.drop_eq_nil_of_le (by rw [List.length_take]; omega)
      rw [h0] at hvd
      clear h0
      simp only [allRS] at hvd
      have hx := HX5.out
      rw [← hvd, if_neg (by decide)] at hx
      have HX6 := Lib.hid hx
      clear hx hvd HX5 HVD HV
      have hu0r := hu03.trans hu
      have hl5 := HL3.out.old (hD3.old hu) (fun _ h => h)
      have r11 := (HB3.out.upd hu (fun f => f)).rowAt
      have d0 := U0.out.upd hu (fun f => f)
      have rd := d0.rowAt
      have D0 := Lib.hid d0
      have HL5 := Lib.hid hl5
      clear hl5 d0
      go_wp2_with (first
                  | ((with_reducible refine this_op (.load 30 (.tmp 4)) ?_); refine wpList_at rfl 30 (.tmp 4) rfl ⟨w.heap.size, 0, none⟩ rfl _ _ rd Try.underlying30 rfl dc_size ?_)
                  | ((with_reducible refine this_op (.load 27 (.tmp 11)) ?_); refine wpList_at rfl 27 (.tmp 11) rfl ⟨w2.heap.size, 0, none⟩ rfl _ _ r11 Try.underlying27 rfl hsi2 ?_))
      refine (rend_any dk nm m p idx a0 a1 a2 a3 a4 a5 a6 a7 b0 b1 b2 b3 b4 b5 b6 b7 cts rs cs2 (n : Int) D2 wr hD5 HL5.out hm hnm (by omega) hi (by omega) (by omega) hrsh).mono ?_
      rintro e w6 ⟨rfl, hb6⟩
      have hu6 : Upd nob wr w6 := Upd.of_below hb6
      have hw6s := hu6.size
      have hx := HX6.out
      obtain ⟨E, hE⟩ : ∃ x, rend nm m p idx rs (n : Int) = x := ⟨_, rfl⟩
      rw [hE] at hx ⊢
      have hu06 := hu0r.trans hu6
      have E1b := Lib.hid (U1.out.upd (hu.trans hu6) (fun f => f))
      have d06 := D0.out.upd hu6 (fun f => f)
      have p19 : w6.cell? ⟨w.heap.size, 19, none⟩ = some (.int .i64 p) := d06.cell 19
      have D06 := Lib.hid d06
      clear r11 rd hE HX6 d06
      by_cases hE1 : E = 1
      · subst hE1
        rw [if_pos rfl] at hx
        injection hx with hx1 hx3
        injection hx1 with hx1 hx2
        subst hx1 hx2 hx3
        go_wp2_with (first
                      | ((with_reducible refine this_op (.store 50 (.tmp 8) (.tmp 57)) ?_); refine wpList_store_row rfl 50 (.tmp 8) (.tmp 57) rfl (w.heap.size + 1 + 1) _ rfl rfl 50 _ E1b.out cs_size rfl (by simp [Value.oneCell']) ?_))
        refine bodyPost_ret (results_cell_tmp rfl _ _ (w.heap.size + 1 + 1) 50 #[.int .i64 0, .slice none 0 0] (0, 0) _ (.int .i64 14) rfl rfl (E1b.out.row _) Try.underlying50 rfl cs_size) rfl ?_
        exact ⟨_, rfl, ⟨none, 0, rfl, fun j y h => by simp at h⟩, ((hu06).trans' ((Upd.refl (fun q => q = w.heap.size + 1 + 1) _).setRow (.inl rfl) _) (fun q hq h => by omega)).below⟩
      · rw [if_neg hE1] at hx
        have te1 : (E == 1) = false := by simpa using hE1
        by_cases hE2 : E = 2
        · subst hE2
          rw [if_pos rfl] at hx
          injection hx with hx1 hx3
          injection hx1 with hx1 hx2
          subst hx1 hx2 hx3
          go_wp2_with (first
                          | ((with_reducible refine this_op (.store 50 (.tmp 8) (.tmp 60)) ?_); refine wpList_store_row rfl 50 (.tmp 8) (.tmp 60) rfl (w.heap.size + 1 + 1) _ rfl rfl 50 _ E1b.out cs_size rfl (by simp [Value.oneCell']) ?_))
          refine bodyPost_ret (results_cell_tmp rfl _ _ (w.heap.size + 1 + 1) 50 #[.int .i64 0, .slice none 0 0] (0, 0) _ (.int .i64 15) rfl rfl (E1b.out.row _) Try.underlying50 rfl cs_size) rfl ?_
          exact ⟨_, rfl, ⟨none, 0, rfl, fun j y h => by simp at h⟩, ((hu06).trans' ((Upd.refl (fun q => q = w.heap.size + 1 + 1) _).setRow (.inl rfl) _) (fun q hq h => by omega)).below⟩
        · rw [if_neg hE2] at hx
          have te2 : (E == 2) = false := by simpa using hE2
          have HX7 := Lib.hid hx
          clear hx hE1 hE2
          have hD7 := hD5.up hu6
          have hat6 := HAT3.out.old (hD3.old (hu.trans hu6)) (fun _ h => h)
          obtain ⟨A9, hA9⟩ : ∃ x, (if c = p then A else A.map (·.add (p * 8))) = x := ⟨_, rfl⟩
          obtain ⟨q, hq⟩ : ∃ q, n - p = q := ⟨_, rfl⟩
          obtain ⟨c9, hc9⟩ : ∃ m, c - p = m := ⟨_, rfl⟩
          obtain ⟨dp, hdp⟩ : ∃ l, ds.drop p = l := ⟨_, rfl⟩
          have hatd := hat6.drop p c (by rw [HN.out]; exact hlc)
          rw [hA9, hdp] at hatd
          have hx := HX7.out
          rw [hdp] at hx
          have hml : dp.length = q := by rw [← hdp, List.length_drop, HN.out]; exact hq
          have HML := Lib.hid hml
          have HHD : Hid (∀ a, a ∈ dp → a.height * 120 ≤ 140737488351232) := Lib.hid fun a h => HHT3.out a (List.mem_of_mem_drop (by rw [hdp]; exact h))
          have HA9 := Lib.hid hA9
          have HM := Lib.hid hq
          have HC9 := Lib.hid hc9
          have hqn : q ≤ n := by omega
          have HX8 := Lib.hid hx
          have HATD := Lib.hid hatd
          have hwr : IntKind.i64.wrap ((n : Int) - (p : Int)) = (n : Int) - (p : Int) := IntWalk.i64_in _ (by omega)
          obtain ⟨W9, hW9⟩ : ∃ W9, w6.alloc (.cells #[.int .i64 ((n : Int) - (p : Int)), .slice none 0 0] 50) = W9 := ⟨_, rfl⟩
          have hu9 : Upd nob w6 W9 := by rw [← hW9]; exact (Upd.refl nob w6).alloc _
          have hs9 : W9.heap.size = w6.heap.size + 1 := by rw [← hW9]; simp
          have hb9 : Blk W9 w6.heap.size 50 #[.int .i64 ((n : Int) - (p : Int)), .slice none 0 0] := by rw [← hW9]; exact Blk.new _ _ _
          have p19b : W9.cell? ⟨w.heap.size, 19, none⟩ = some (.int .i64 p) := (D06.out.upd hu9 (fun f => f)).cell 19
          rw [← hW9] at p19b
          have hD9 := hD7.up hu9
          have HB9 := Lib.hid hb9
          have HW9 := Lib.hid hW9
          have E19 := Lib.hid (E1b.out.upd hu9 (fun f => f))
          have D09 := Lib.hid (D06.out.upd hu9 (fun f => f))
          have hatd9 := HATD.out.old (hD7.old hu9) (fun _ h => h)
          have HATD9 := Lib.hid hatd9
          have hu09 := hu06.trans hu9
          have hwz9 : w.heap.size + 3 ≤ w6.heap.size := by have := hu03.size; omega
          have hD26 : ∀ q, D2 q → q < w6.heap.size := fun q h => hD7 q h
          clear hx hatd hat6 hdp hq hc9 hA9 hml HHT3 HAT3 HDM3 HL5 HL3 HX7 HATD hW9 hb9 hatd9 E1b D06 D0 U0 U1 HB3 HB0 HB2
          go_wp2_with (first
                          | ((with_reducible refine this_op (.slice 25 (.tmp 67) (some (.tmp 69)) none none) ?_); refine wpList_run rfl (.slice A9 q c9) _ (by rw [← HA9.out, ← HM.out, ← HC9.out]; exact run_slice_l8 25 _ _ rfl A n c rfl p rfl hpn und_tms 8 sz_tms) ?_))
          rw [HW9.out]
          clear HW9 p19b p19
          go_loopg [72] q (fun r v wr => ∃ (j : Nat) (sl : List (Int × Int)) (sv : Value), j + r = q ∧ v = .int .i64 j ∧ Blk wr w6.heap.size 50 #[.int .i64 ((n : Int) - (p : Int)), sv] ∧ Coll fdR nob (w6.heap.size + 1) 52 wr sv sl ∧ sl.length ≤ j ∧
           rctorF nm m p idx ((n : Int) - (p : Int)) j sl (dp.drop j) = ((X1, X2), X3) ∧ Upd (fun z => z = w6.heap.size) W9 wr)
          case atStart => exact ⟨0, [], .slice none 0 0, by omega, rfl, HB9.out, Coll.nil_, Nat.le_refl _, by rw [List.drop_zero]; exact HX8.out, Upd.refl _ _⟩
          case round =>
           clear HX8 HB9
           obtain ⟨j, sl, sv, hj, rfl, hc2, hco, hsl, hcf, hus⟩ := hrel
           have hD8 : Within D2 wr := hD9.up hus
           have hws := hus.size
           have hDo : Old D2 W9 wr := Old.of_upd hus fun q hq => ⟨fun h => by have : q = w6.heap.size := h; have := hD26 q hq; omega, hD9 q hq⟩
           obtain ⟨sA, sc, hsv, hscp⟩ := hco.form
           subst hsv
           have d0r := D09.out.upd hus (fun h => by have : w.heap.size = w6.heap.size := h; omega)
           have HC2 := Lib.hid hc2
           have HCO := Lib.hid hco
           have HCF := Lib.hid hcf
           have D0R := Lib.hid d0r
           clear hc2 hco hcf d0r
           by_cases hlt : j < q
           · have t2 : decide ((j : Int) < q) = true := by simp [hlt]
             have hjn : j < dp.length := by rw [HML.out]; exact hlt
             obtain ⟨a, csj, hA, hab, hrow, hlj⟩ := HATD9.out.at_ (List.getElem?_eq_getElem hjn)
             rw [Nat.zero_add] at hrow
             have hrow' := hrow.old hDo (by rw [Addr_add_block]; exact hab)
             have hlj' := hlj.old hDo (fun _ h => h)
             have hsj := hlj.oneCell
             have hsij : (Try.prog.info? 27).map (·.size) = some csj.size := by rw [hsj.1]; exact tm_size
             have hhj := HHD.out dp[j] (List.getElem_mem hjn)
             have hdr : dp.drop j = dp[j] :: dp.drop (j + 1) := List.drop_eq_getElem_cons hjn
             have hcf := HCF.out
             rw [hdr, rctorF] at hcf
             obtain ⟨x, hx⟩ : ∃ x, dp[j] = x := ⟨_, rfl⟩
             rw [hx] at hcf hlj' hhj
             have HCF2 := Lib.hid hcf
             have HA := Lib.hid hA
             have HLJ := Lib.hid hlj'
             clear hA hcf hdr HCF hrow hlj hlj' hx
             go_wp2_with (first
                                 | ((with_reducible refine this_op (.indexAddr 25 (.tmp 70) (.tmp 72)) ?_); refine wpList_index_at rfl 25 (.tmp 70) (.tmp 72) rfl _ a _ _ rfl HA.out j rfl hlt 27 Try.underlying25 8 tm_size ?_)
                                 | ((with_reducible refine this_op (.load 27 (.tmp 75)) ?_); refine wpList_at rfl 27 (.tmp 75) rfl (a.add (j * 8)) rfl _ _ hrow' Try.underlying27 rfl hsij ?_)
                                 | ((with_reducible refine this_op (.store 27 (.tmp 15) (.tmp 76)) ?_); refine wpList_store_row rfl 27 (.tmp 15) (.tmp 76) rfl wr.heap.size _ rfl rfl 27 _ (Blk.new wr _ _) hsij (by rw [hsj.1]; rfl) hsj.2 ?_
                                    obtain ⟨W7, hW7⟩ : ∃ W7, (wr.alloc (.cells #[.int .i64 0, .int .i64 0, .string ByteArray.empty, .int .i64 0, .int .i64 0, .slice none 0 0, .slice none 0 0, .slice none 0 0] 27)).setRow wr.heap.size csj = W7 := ⟨_, rfl⟩
                                    have hu7 : Upd nob wr W7 := by rw [← hW7]; exact ((Upd.refl nob wr).alloc _).setRow (.inr (Nat.le_refl _)) _
                                    have hbb9 : Blk W7 wr.heap.size 27 csj := by rw [← hW7]; exact (Blk.new wr _ _).row _
                                    rw [hW7]
                                    clear hW7
                                    have r7 := hbb9.rowAt
                                    have k17 : W7.cell? ⟨w.heap.size, 1, none⟩ = some (.string nm) := (hu7.cell (by show w.heap.size < _; omega) (fun f => f)).trans (D0R.out.cell 1)
                                    have HB7 := Lib.hid hbb9
                                    clear hbb9)
                                 | ((with_reducible refine this_op (.load 27 (.tmp 15)) ?_); refine wpList_at rfl 27 (.tmp 15) rfl ⟨wr.heap.size, 0, none⟩ rfl _ _ r7 Try.underlying27 rfl hsij ?_))
             have hw7s := hu7.size
             have hD17 := hD8.up hu7
             refine (rment_any x nm csj D2 W7 hD17 (HLJ.out.old (hD8.old hu7) (fun _ h => h)) (by omega)).mono ?_
             rintro e w10 ⟨rfl, hb10⟩
             have hu10 : Upd nob W7 w10 := Upd.of_below hb10
             have hu710 := hu7.trans hu10
             have hus10 : Upd (fun z => z = w6.heap.size) W9 w10 := hus.trans (hu710.mono (fun _ f => f.elim))
             have hw10s := hu10.size
             have HC10 := Lib.hid (HC2.out.upd hu710 (fun f => f))
             have HCO10 := Lib.hid (HCO.out.upd hu710 (fun _ f => f.elim) (fun q f => f.elim))
             have r7b := (HB7.out.upd hu10 (fun f => f)).rowAt
             have D010 := Lib.hid (D0R.out.upd hu710 (fun f => f))
             have hD10 := hD17.up hu10
             have hlx10 := (HLJ.out.old (hD8.old hu7) (fun _ h => h)).old (hD17.old hu10) (fun _ h => h)
             have HLX := Lib.hid hlx10
             clear r7 k17 HC2 HCO HLJ hlx10 D0R HB7 hrow'
             cases hq9 : rment x nm with
             | false =>
              have hcf := HCF2.out
              rw [hq9, if_neg (by decide)] at hcf
              have HCF3 := Lib.hid hcf
              clear hcf HCF2 hq9
              go_wp2_with fail
              go_roundg (gk - 1)
              case measure => omega
              case rel => exact ⟨j + 1, sl, .slice sA sl.length sc, by omega, by go_num, HC10.out, HCO10.out, by omega, HCF3.out, hus10⟩
             | true =>
              have hcf := HCF2.out
              rw [hq9, if_pos rfl] at hcf
              have HCF3 := Lib.hid hcf
              have hlx := trow_le x
              have HHO : Hid (∀ a, a ∈ (trow x).1 → a.height ≤ 4000000000000) := Lib.hid fun a h => by have := trow_mem h; omega
              have HRX : Hid ((trow x).2.height * 120 ≤ 140737488351232) := Lib.hid (by have := trow_rest x; omega)
              clear hcf HCF2 hq9
              go_wp2_with (first
                                    | ((with_reducible refine this_op (.load 27 (.tmp 15)) ?_); refine wpList_at rfl 27 (.tmp 15) rfl ⟨wr.heap.size, 0, none⟩ rfl _ _ r7b Try.underlying27 rfl hsij ?_))
              refine (rrow_any x csj D2 w10 hD10 HLX.out (by omega)).mono ?_
              rintro e w11 ⟨cs3, A3, c3, rfl, hl3, hlc3, hat3, hb11⟩
              have hu11 : Upd nob w10 w11 := Upd.of_below hb11
              have hw11s := hu11.size
              have hcf := HCF3.out
              have hho := HHO.out
              have hrx := HRX.out
              obtain ⟨⟨os, rs3⟩, hsp⟩ : ∃ y, trow x = y := ⟨_, rfl⟩
              rw [hsp] at hcf hl3 hlc3 hat3 hlx hho hrx ⊢
              simp only at hcf hl3 hlc3 hat3 hlx hho hrx ⊢
              obtain ⟨no, hno⟩ : ∃ y, os.length = y := ⟨_, rfl⟩
              rw [hno] at hcf hlc3 hlx ⊢
              have HNO := Lib.hid hno
              have hs3 := hl3.oneCell
              have hsi3 : (Try.prog.info? 27).map (·.size) = some cs3.size := by rw [hs3.1]; exact tm_size
              have HL3b := Lib.hid hl3
              have HAT3b := Lib.hid hat3
              have HHO2 := Lib.hid hho
              have D011 := D010.out.upd hu11 (fun f => f)
              have DD11 := Lib.hid D011
              have hD11 : Within (grow D2 w10 w11) w11 := fun q hq => hq.elim (fun h => hD10.up hu11 q h) (fun h => h.2)
              generalize grow D2 w10 w11 = D3 at *
              obtain ⟨M, hM⟩ : ∃ y, (os.any fun t => rment t nm) = y := ⟨_, rfl⟩
              rw [hM] at hcf
              have HCF4 := Lib.hid hcf
              have HMO := Lib.hid hM
              clear hcf hsp hno hl3 hat3 HCF3 HHO HRX hho r7b hM D011 D010 HLX
              have hwa : IntKind.i64.wrap ((p : Int) + (j : Int)) = (p : Int) + (j : Int) := IntWalk.i64_in _ (by omega)
              have hwb : IntKind.i64.wrap ((p : Int) + (j : Int) + (no : Int)) = (p : Int) + (j : Int) + (no : Int) := IntWalk.i64_in _ (by omega)
              go_wp2_with (first
                                    | ((with_reducible refine this_op (.store 27 (.tmp 17) (.tmp 86)) ?_); refine wpList_store_row rfl 27 (.tmp 17) (.tmp 86) rfl w11.heap.size _ rfl rfl 27 _ (Blk.new w11 _ _) hsi3 (by rw [hs3.1]; rfl) hs3.2 ?_))
              obtain ⟨W12, hW12⟩ : ∃ W12, (w11.alloc (.cells #[.int .i64 0, .int .i64 0, .string ByteArray.empty, .int .i64 0, .int .i64 0, .slice none 0 0, .slice none 0 0, .slice none 0 0] 27)).setRow w11.heap.size cs3 = W12 := ⟨_, rfl⟩
              have hu12 : Upd nob w11 W12 := by rw [← hW12]; exact ((Upd.refl nob w11).alloc _).setRow (.inr (Nat.le_refl _)) _
              have hb12 : Blk W12 w11.heap.size 27 cs3 := by rw [← hW12]; exact (Blk.new w11 _ _).row _
              rw [hW12]
              clear hW12
              have hw12s := hu12.size
              have hD12 := hD11.up hu12
              have HL12 := Lib.hid (HL3b.out.old (hD11.old hu12) (fun _ h => h))
              have HAT12 := Lib.hid (HAT3b.out.old (hD11.old hu12) (fun _ h => h))
              have D012 := Lib.hid (DD11.out.upd hu12 (fun f => f))
              have HB12 := Lib.hid hb12
              have hu1012 := hu11.trans hu12
              have hj0 : q - (j + 1) < gk := by omega
              clear HL3b HAT3b DD11 hb12
              go_loopg [89] no (fun r v w13 => ∃ i : Nat, i + r = no ∧ v = .int .i64 i ∧ ((os.drop i).any fun t => rment t nm) = M ∧ Upd nob W12 w13)
              case atStart => exact ⟨0, by omega, rfl, by rw [List.drop_zero]; exact HMO.out, Upd.refl _ _⟩
              case round =>
               obtain ⟨i, hi9, rfl, hmi, hu13⟩ := hrel
               have hw13s := hu13.size
               have HMI := Lib.hid hmi
               have hD13 := hD12.up hu13
               have d013 := D012.out.upd hu13 (fun f => f)
               have k1 : wr.cell? ⟨w.heap.size, 1, none⟩ = some (.string nm) := d013.cell 1
               have hltd := d013.lt
               have D013 := Lib.hid d013
               have hus13 : Upd (fun z => z = w6.heap.size) W9 wr := hus10.trans ((hu1012.trans hu13).mono (fun _ f => f.elim))
               clear hmi d013
               by_cases hlo : i < no
               · have t8 : decide ((i : Int) < no) = true := by simp [hlo]
                 have hio : i < os.length := by rw [HNO.out]; exact hlo
                 obtain ⟨b, cso, hB, hbb, hrow2, hlo2⟩ := HAT12.out.at_ (List.getElem?_eq_getElem hio)
                 rw [Nat.zero_add] at hrow2
                 have hdr : os.drop i = os[i] :: os.drop (i + 1) := List.drop_eq_getElem_cons hio
                 have hho3 := HHO2.out os[i] (List.getElem_mem hio)
                 have hmi := HMI.out
                 rw [hdr, List.any_cons] at hmi
                 obtain ⟨o, ho⟩ : ∃ x, os[i] = x := ⟨_, rfl⟩
                 rw [ho] at hmi hlo2 hho3
                 have hrow2' := hrow2.old (hD12.old hu13) (by rw [Addr_add_block]; exact hbb)
                 have hlo2' := hlo2.old (hD12.old hu13) (fun _ h => h)
                 have hso := hlo2.oneCell
                 have hsio : (Try.prog.info? 27).map (·.size) = some cso.size := by rw [hso.1]; exact tm_size
                 have HB := Lib.hid hB
                 have HMI2 := Lib.hid hmi
                 have HLO := Lib.hid hlo2'
                 clear hB hrow2 hmi hdr ho hlo2 hlo2' HMI
                 go_wp2_with (first
                                           | ((with_reducible refine this_op (.indexAddr 25 (.tmp 87) (.tmp 89)) ?_); refine wpList_index_at rfl 25 (.tmp 87) (.tmp 89) rfl _ b _ _ rfl HB.out i rfl hlo 27 Try.underlying25 8 tm_size ?_)
                                           | ((with_reducible refine this_op (.load 27 (.tmp 91)) ?_); refine wpList_at rfl 27 (.tmp 91) rfl (b.add (i * 8)) rfl _ _ hrow2' Try.underlying27 rfl hsio ?_)
                                           | ((with_reducible refine this_op (.store 27 (.tmp 19) (.tmp 92)) ?_); refine wpList_store_row rfl 27 (.tmp 19) (.tmp 92) rfl wr.heap.size _ rfl rfl 27 _ (Blk.new wr _ _) hsio (by rw [hso.1]; rfl) hso.2 ?_
                                              obtain ⟨W14, hW14⟩ : ∃ W14, (wr.alloc (.cells #[.int .i64 0, .int .i64 0, .string ByteArray.empty, .int .i64 0, .int .i64 0, .slice none 0 0, .slice none 0 0, .slice none 0 0] 27)).setRow wr.heap.size cso = W14 := ⟨_, rfl⟩
                                              have hu14 : Upd nob wr W14 := by rw [← hW14]; exact ((Upd.refl nob wr).alloc _).setRow (.inr (Nat.le_refl _)) _
                                              have hbb9 : Blk W14 wr.heap.size 27 cso := by rw [← hW14]; exact (Blk.new wr _ _).row _
                                              rw [hW14]
                                              clear hW14
                                              have r14 := hbb9.rowAt
                                              have k14 : W14.cell? ⟨w.heap.size, 1, none⟩ = some (.string nm) := (hu14.cell (by show w.heap.size < _; omega) (fun f => f)).trans k1
                                              have HB14 := Lib.hid hbb9
                                              clear hbb9)
                                           | ((with_reducible refine this_op (.load 27 (.tmp 19)) ?_); refine wpList_at rfl 27 (.tmp 19) rfl ⟨wr.heap.size, 0, none⟩ rfl _ _ r14 Try.underlying27 rfl hsio ?_))
                 refine (rment_any o nm cso D3 W14 (hD13.up hu14) (HLO.out.old (hD13.old hu14) (fun _ h => h)) hho3).mono ?_
                 rintro e w15 ⟨rfl, hb15⟩
                 have hu15 : Upd nob W14 w15 := Upd.of_below hb15
                 clear r14 k14
                 cases hq9 : rment o nm with
                 | true =>
                  have hmi := HMI2.out
                  rw [hq9, Bool.true_or] at hmi
                  have hcf := HCF4.out
                  rw [← hmi, if_pos rfl] at hcf
                  injection hcf with hx1 hx3
                  injection hx1 with hx1 hx2
                  subst hx1 hx2 hx3
                  have hus15 : Upd (fun z => z = w6.heap.size) W9 w15 := hus13.trans ((hu14.trans hu15).mono (fun _ f => f.elim))
                  have E115 := Lib.hid (E19.out.upd hus15 (fun h => by have : w.heap.size + 1 + 1 = w6.heap.size := h; omega))
                  have hu015 := hu09.trans' hus15 (fun q hq h => by have : q = w6.heap.size := h; omega)
                  clear HMI2 hmi hq9 HCF4 HMO
                  go_wp2_with (first
                                              | ((with_reducible refine this_op (.store 50 (.tmp 8) (.tmp 97)) ?_); refine wpList_store_row rfl 50 (.tmp 8) (.tmp 97) rfl (w.heap.size + 1 + 1) _ rfl rfl 50 _ E115.out cs_size rfl (by simp [Value.oneCell']) ?_))
                  refine bodyPost_ret (results_cell_tmp rfl _ _ (w.heap.size + 1 + 1) 50 #[.int .i64 0, .slice none 0 0] (0, 0) _ (.int .i64 15) rfl rfl (E115.out.row _) Try.underlying50 rfl cs_size) rfl ?_
                  exact ⟨_, rfl, ⟨none, 0, rfl, fun j y h => by simp at h⟩, ((hu015).trans' ((Upd.refl (fun q => q = w.heap.size + 1 + 1) _).setRow (.inl rfl) _) (fun q hq h => by omega)).below⟩
                 | false =>
                  have hmi := HMI2.out
                  rw [hq9, Bool.false_or] at hmi
                  have HMI3 := Lib.hid hmi
                  clear HMI2 hmi hq9
                  go_wp2_with fail
                  go_roundg (gk - 1)
                  case measure => omega
                  case rel => exact ⟨i + 1, by omega, by go_num, HMI3.out, (hu13.trans hu14).trans hu15⟩
               · have t8 : decide ((i : Int) < no) = false := by simp; omega
                 have hmi := HMI.out
                 rw [List.drop_eq_nil_of_le (by rw [HNO.out]; omega)] at hmi
                 have hcf := HCF4.out
                 rw [← hmi, if_neg (by simp)] at hcf
                 have HCF5 := Lib.hid hcf
                 have r17 := (HB12.out.upd hu13 (fun f => f)).rowAt
                 have rd := D013.out.rowAt
                 have p19 : wr.cell? ⟨w.heap.size, 19, none⟩ = some (.int .i64 p) := D013.out.cell 19
                 have HL13 := Lib.hid (HL12.out.old (hD12.old hu13) (fun _ h => h))
                 clear hcf hmi HMI HCF4 HMO k1
                 go_wp2_with (first
                                           | ((with_reducible refine this_op (.load 30 (.tmp 4)) ?_); refine wpList_at rfl 30 (.tmp 4) rfl ⟨w.heap.size, 0, none⟩ rfl _ _ rd Try.underlying30 rfl dc_size ?_)
                                           | ((with_reducible refine this_op (.load 27 (.tmp 17)) ?_); refine wpList_at rfl 27 (.tmp 17) rfl ⟨w11.heap.size, 0, none⟩ rfl _ _ r17 Try.underlying27 rfl hsi3 ?_))
                 refine (rend_any dk nm m p idx a0 a1 a2 a3 a4 a5 a6 a7 b0 b1 b2 b3 b4 b5 b6 b7 cts rs3 cs3 ((p : Int) + (j : Int) + (no : Int)) D3 wr hD13 HL13.out hm hnm (by omega) hi (by omega) (by omega) hrx).mono ?_
                 rintro e w16 ⟨rfl, hb16⟩
                 have hu16 : Upd nob wr w16 := Upd.of_below hb16
                 have hw16s := hu16.size
                 have hcf := HCF5.out
                 obtain ⟨E2, hE2⟩ : ∃ x, rend nm m p idx rs3 ((p : Int) + (j : Int) + (no : Int)) = x := ⟨_, rfl⟩
                 rw [hE2] at hcf ⊢
                 have HCF6 := Lib.hid hcf
                 have hus16 : Upd (fun z => z = w6.heap.size) W9 w16 := hus13.trans (hu16.mono (fun _ f => f.elim))
                 clear hcf HCF5 hE2 r17 rd p19
                 by_cases hE0 : E2 = 0
                 · subst hE0
                   have hcf := HCF6.out
                   rw [if_neg (by simp)] at hcf
                   have HCF7 := Lib.hid hcf
                   have hu1016 := (hu1012.trans hu13).trans hu16
                   have hc15 := HC10.out.upd hu1016 (fun f => f)
                   have k1b : w16.cell? ⟨w6.heap.size, 1, none⟩ = some (.slice sA sl.length sc) := hc15.cell 1
                   obtain ⟨W17, hW17⟩ : ∃ W17, w16.alloc (.cells #[.int .i64 j, .int .i64 no] 52) = W17 := ⟨_, rfl⟩
                   have hu17 : Upd nob w16 W17 := by rw [← hW17]; exact (Upd.refl nob w16).alloc _
                   have hb17 : Blk W17 w16.heap.size 52 #[.int .i64 j, .int .i64 no] := by rw [← hW17]; exact Blk.new _ _ _
                   have hw17s := hu17.size
                   have hco17 := HCO10.out.upd (hu1016.trans hu17) (fun _ f => f.elim) (fun q f => f.elim)
                   have hnO : ∀ q, (Value.slice sA sl.length sc).ownBlock = some q → w6.heap.size + 1 ≤ q := fun q h => (hco17.lt h).1
                   have HW17 := Lib.hid hW17
                   have HCO17 := Lib.hid hco17
                   have HC15 := Lib.hid hc15
                   clear hcf HCF6 hW17 hco17 hc15 HC10 HCO10
                   go_wp2_with (first
                                               | ((with_reducible refine this_op (.buildSlice 48 1 #[(0, .tmp 117)]) ?_); refine wpList_build1 rfl 48 52 (.tmp 117) rfl _ 2 16 Try.underlying48 fd_info (by decide) (by decide) #[.int .i64 j, .int .i64 no] rfl rfl ?_
                                                  rw [HW17.out])
                                               | (at_builtin; refine wpList_collect rfl (.tmp 113) (.tmp 118) 48 rfl _ 16 Try.underlying48 fd_info (by kernel_rfl) (by decide) rfl HCO17.out (fun x h => h.elim) w16.heap.size #[.int .i64 j, .int .i64 no] rfl hb17 ((j : Int), (no : Int)) nob rfl (fun x h => h.elim) sl.length rfl (by omega) (by omega) (by omega) ?_
                                                  intro sA6 sc6 w18 hc18 hu18 hat18
                                                  have hx18 := HC15.out.upd ((hu17.mono (fun _ f => f.elim)).trans hu18) (fun h => by have := hnO _ h; omega)
                                                  have k2 : w18.cell? ⟨w6.heap.size, 1, none⟩ = some (.slice sA sl.length sc) := hx18.cell 1
                                                  have fz1 := hx18.frozen 1
                                                  have HX18 := Lib.hid hx18
                                                  have HU18 := Lib.hid hu18
                                                  have HCO18 := Lib.hid hc18
                                                  clear hx18 hu18 hc18))
                   go_roundg (q - (j + 1))
                   case measure => exact hj0
                   case rel =>
                    have hfin : Upd (fun z => z = w6.heap.size) w18 (w18.setCell ⟨w6.heap.size, 1, none⟩ (.slice sA6 (sl.length + 1) sc6)) := (Upd.refl (fun z => z = w6.heap.size) w18).setCell (p := ⟨w6.heap.size, 1, none⟩) (.inl rfl) _
                    refine ⟨j + 1, sl ++ [((j : Int), (no : Int))], .slice sA6 (sl.length + 1) sc6, by omega, by go_num, HX18.out.set 1 _, HCO18.out.upd hfin (fun z hz => ⟨by have : z = w6.heap.size := hz; omega, fun f => f⟩) (fun q f => f.elim), by simp; omega, HCF7.out, ?_⟩
                    exact (hus16.trans' ((hu17.mono (fun _ f => f.elim)).trans HU18.out) (fun z hz h => by have := hnO z h; omega)).trans hfin
                 · have t9 : (E2 != 0) = true := by simpa using hE0
                   have hcf := HCF6.out
                   rw [if_pos hE0] at hcf
                   injection hcf with hx1 hx3
                   injection hx1 with hx1 hx2
                   subst hx1 hx2 hx3
                   have E116 := Lib.hid (E19.out.upd hus16 (fun h => by have : w.heap.size + 1 + 1 = w6.heap.size := h; omega))
                   have hu016 := hu09.trans' hus16 (fun q hq h => by have : q = w6.heap.size := h; omega)
                   clear HCF6 hE0
                   go_wp2_with (first
                                               | ((with_reducible refine this_op (.store 50 (.tmp 8) (.tmp 111)) ?_); refine wpList_store_row rfl 50 (.tmp 8) (.tmp 111) rfl (w.heap.size + 1 + 1) _ rfl rfl 50 _ E116.out cs_size rfl (by simp [Value.oneCell']) ?_))
                   refine bodyPost_ret (results_cell_tmp rfl _ _ (w.heap.size + 1 + 1) 50 #[.int .i64 0, .slice none 0 0] (0, 0) _ (.int .i64 15) rfl rfl (E116.out.row _) Try.underlying50 rfl cs_size) rfl ?_
                   exact ⟨_, rfl, ⟨none, 0, rfl, fun j y h => by simp at h⟩, ((hu016).trans' ((Upd.refl (fun q => q = w.heap.size + 1 + 1) _).setRow (.inl rfl) _) (fun q hq h => by omega)).below⟩
           · have t2 : decide ((j : Int) < q) = false := by simp; omega
             have hcf := HCF.out
             rw [List.drop_eq_nil_of_le (by rw [HML.out]; omega), rctorF] at hcf
             injection hcf with hx1 hx3
             injection hx1 with hx1 hx2
             subst hx1 hx2 hx3
             have r13 := HC2.out.rowAt
             have E1r := Lib.hid (E19.out.upd hus (fun h => by have : w.heap.size + 1 + 1 = w6.heap.size := h; omega))
             obtain ⟨sA9, sc9, hv9, _, hrows⟩ := HCO.out.row_at
             have HROWS := Lib.hid hrows
             injection hv9 with z1 z2 z3
             subst z1 z3
             clear HCF hrows
             go_wp2_with (first
                                 | ((with_reducible refine this_op (.load 50 (.tmp 13)) ?_); refine wpList_at rfl 50 (.tmp 13) rfl ⟨w6.heap.size, 0, none⟩ rfl _ _ r13 Try.underlying50 rfl cs_size ?_)
                                 | ((with_reducible refine this_op (.store 50 (.tmp 8) (.tmp 122)) ?_); refine wpList_store_row rfl 50 (.tmp 8) (.tmp 122) rfl (w.heap.size + 1 + 1) _ rfl rfl 50 _ E1r.out cs_size rfl (by simp [Value.oneCell']) ?_))
             refine bodyPost_ret (results_cell_tmp rfl _ _ (w.heap.size + 1 + 1) 50 #[.int .i64 ((n : Int) - (p : Int)), .slice sA sl.length sc] (0, 0) _ (.int .i64 0) rfl rfl (E1r.out.row _) Try.underlying50 rfl cs_size) rfl ?_
             have hfin : Upd (fun q => q = w.heap.size + 1 + 1) wr (wr.setRow (w.heap.size + 1 + 1) #[.int .i64 ((n : Int) - (p : Int)), .slice sA sl.length sc]) := (Upd.refl (fun q => q = w.heap.size + 1 + 1) wr).setRow (.inl rfl) _
             refine ⟨_, rfl, ⟨sA, sc, rfl, fun i y hy => ?_⟩, ((hu09.trans' hus (fun q hq h => by have : q = w6.heap.size := h; omega)).trans' hfin (fun q hq h => by omega)).below⟩
             obtain ⟨a, csy, g1, g2, g3, g4⟩ := HROWS.out i y hy
             have g5 : csy = #[.int .i64 y.1, .int .i64 y.2] := g4
             subst g5
             refine ⟨a, g1, ⟨by omega, by simp; omega⟩, fun q v hv => (hfin.cell (by rw [Addr_add_block, Addr_add_block]; exact g2.2) (by rw [Addr_add_block, Addr_add_block]; show a.block ≠ _; omega)).trans (g3 q v hv)⟩
end Go.Proofs.Ytiampoebdmflgaa

/- The reference's Of. -/
namespace Go.Proofs.Ytiampoebdmflgaa
open Go.RowKit
set_option linter.unusedVariables false
set_option maxRecDepth 100000
set_option maxHeartbeats 4000000
set_option linter.unusedSimpArgs false
/-- assizeref13's Of. -/
def rof (dk : Int) (nm : ByteArray) (vs pa : Int) (ty : Tm) (cts : List (ByteArray × Tm)) : TShape × Int :=
 if dk ≠ 3 ∨ pa < 0 ∨ vs < 0 ∨ 6 < vs then (zshape, 1)
 else if (trow ty).2.k ≠ 2 ∨ (((trow ty).1.length : Nat) : Int) < pa then (zshape, 14)
 else if (ofF (rctor nm vs.toNat pa.toNat ((trow ty).1.length - pa.toNat) (trow ty).1) cts []).2 = 0 then
  ((((trow ty).1.length : Int) - pa, (trow ty).2.lv, (ofF (rctor nm vs.toNat pa.toNat ((trow ty).1.length - pa.toNat) (trow ty).1) cts []).1), 0)
 else (zshape, (ofF (rctor nm vs.toNat pa.toNat ((trow ty).1.length - pa.toNat) (trow ty).1) cts []).2)
theorem rof_main {nm : ByteArray} {ty rs : Tm} {cts : List (ByteArray × Tm)} {ds : List Tm} {n p m idx : Nat} (h : trow ty = (ds, rs)) (hn : ds.length = n) (hk : rs.k = 2) (hm : m ≤ 6) (hi : n = p + idx) :
    rof 3 nm (m : Int) (p : Int) ty cts = (if (ofF (rctor nm m p idx ds) cts []).2 = 0 then (((n : Int) - p, rs.lv, (ofF (rctor nm m p idx ds) cts []).1), 0) else (zshape, (ofF (rctor nm m p idx ds) cts []).2)) := by
 have e1 : n - (p : Int).toNat = idx := by omega
 have e2 : (p : Int).toNat = p := by omega
 have e3 : (m : Int).toNat = m := by omega
 unfold rof
 rw [h, if_neg (by omega)]
 simp only
 rw [if_neg (by rw [hn]; omega), hn, e1, e2, e3]
theorem rof_14 {nm : ByteArray} {ty rs : Tm} {cts : List (ByteArray × Tm)} {ds : List Tm} {n p m : Nat} (h : trow ty = (ds, rs)) (hn : ds.length = n) (hm : m ≤ 6) (hr : ¬ (rs.k = 2 ∧ p ≤ n)) : rof 3 nm (m : Int) (p : Int) ty cts = (zshape, 14) := by
 unfold rof
 rw [h, if_neg (by omega)]
 simp only
 rw [if_pos (by rw [hn]; omega)]
set_option maxHeartbeats 8000000 in
theorem rof_any (dk : Int) (nm : ByteArray) (vs pa : Int) (ty : Tm) (cts : List (ByteArray × Tm)) (a0 a1 a2 a3 a4 a5 a6 a7 b0 b1 b2 b3 b4 b5 b6 b7 : Value) (cA : Option Addr) (cc : Nat) (D : Nat → Prop) (w : World)
    (hD : Within D w) (ht : TmIs D w ty #[a0, a1, a2, a3, a4, a5, a6, a7]) (hnm : nm.size ≤ 140737488351232) (hcs : CtorsAt D w cts cA) (hcl : cts.length * 120 ≤ 140737488351232)
    (hh : ty.height * 120 ≤ 140737488351232) (hhc : ∀ x, x ∈ cts → x.2.height * 120 ≤ 140737488351232) :
    Calls Try.prog 11 #[.agg #[.int .i64 dk, .string nm, .int .i64 vs, a0, a1, a2, a3, a4, a5, a6, a7, b0, b1, b2, b3, b4, b5, b6, b7, .int .i64 pa, .slice cA cts.length cc]] w fun e w' => ∃ cs', e = .returned (.tuple #[.agg cs', .int .i64 (rof dk nm vs pa ty cts).2]) ∧ ShIs (grow D w w') w' (rof dk nm vs pa ty cts).1 cs' ∧ Below w.heap.size w w' := by
 have hz := tm_zero
 have hz2 := sh_zero
 have hz4 := cs_zero
 obtain ⟨⟨⟨X1, X2, X3⟩, X4⟩, hX⟩ : ∃ X, rof dk nm vs pa ty cts = X := ⟨_, rfl⟩
 rw [hX]
 have HX := Lib.hid hX; clear hX
 obtain ⟨W1, hW1⟩ : ∃ W1, (w.alloc (.cells #[.int .i64 dk, .string nm, .int .i64 vs, a0, a1, a2, a3, a4, a5, a6, a7, b0, b1, b2, b3, b4, b5, b6, b7, .int .i64 pa, .slice cA cts.length cc] 30)).alloc (.cells #[.int .i64 0, .int .i64 0, .int .i64 0, .slice none 0 0, .slice none 0 0] 35) = W1 := ⟨_, rfl⟩
 have huW1 : Upd nob w W1 := by rw [← hW1]; exact ((Upd.refl nob w).alloc _).alloc _
 have hsW1 : W1.heap.size = w.heap.size + 2 := by rw [← hW1]; simp
 have bk0 : Blk W1 (w.heap.size) 30 #[.int .i64 dk, .string nm, .int .i64 vs, a0, a1, a2, a3, a4, a5, a6, a7, b0, b1, b2, b3, b4, b5, b6, b7, .int .i64 pa, .slice cA cts.length cc] := by
  rw [← hW1]
  have h := Blk.new (w) 30 #[.int .i64 dk, .string nm, .int .i64 vs, a0, a1, a2, a3, a4, a5, a6, a7, b0, b1, b2, b3, b4, b5, b6, b7, .int .i64 pa, .slice cA cts.length cc]
  exact h.alloc _
 have bk1 : Blk W1 (w.heap.size + 1) 35 #[.int .i64 0, .int .i64 0, .int .i64 0, .slice none 0 0, .slice none 0 0] := by
  rw [← hW1]
  have h := Blk.new (w.alloc (.cells #[.int .i64 dk, .string nm, .int .i64 vs, a0, a1, a2, a3, a4, a5, a6, a7, b0, b1, b2, b3, b4, b5, b6, b7, .int .i64 pa, .slice cA cts.length cc] 30)) 35 #[.int .i64 0, .int .i64 0, .int .i64 0, .slice none 0 0, .slice none 0 0]
  rw [World.size_alloc] at h
  exact h
 have hlt := ht
 have ht1 := ht.old (hD.old huW1) (fun _ h => h)
 have hcs1 := hcs.old (hD.old huW1) (fun _ h => h)
 have hD1 := hD.up huW1
 have rm : rowAt W1 ⟨w.heap.size, 3, none⟩ #[a0, a1, a2, a3, a4, a5, a6, a7] := sub_row (p := ⟨w.heap.size, 0, none⟩) bk0.rowAt 3 _ (fun j v hv => by
  match j, hv with
  | 0, hv | 1, hv | 2, hv | 3, hv | 4, hv | 5, hv | 6, hv | 7, hv => exact hv
  | (j + 8), hv => simp at hv)
 have HK0 := Lib.hid bk0
 have HK1 := Lib.hid bk1
 have HT1 := Lib.hid ht1
 have HC1 := Lib.hid hcs1
 clear ht1 hcs1 hcs ht bk0 bk1 hlt
 have HW1 := Lib.hid hW1; clear hW1
 rw [← HW1.out] at rm
 have bad : dk ≠ 3 ∨ pa < 0 ∨ vs < 0 ∨ 6 < vs → X1 = 0 ∧ X2 = .mk 0 0 [] ∧ X3 = [] ∧ X4 = 1 := fun h => by
  have hx := HX.out
  rw [rof, if_pos h, zshape] at hx
  injection hx with h1 h2
  injection h1 with h1 h3
  injection h3 with h3 h4
  exact ⟨h1.symm, h3.symm, h4.symm, h2.symm⟩
 have BAD := Lib.hid bad
 clear bad
 by_cases c1 : dk = 3
 · subst c1
   by_cases c2 : pa < 0
   · have t2 : decide (pa < 0) = true := by simp [c2]
     obtain ⟨rfl, rfl, rfl, rfl⟩ := BAD.out (.inr (.inl c2))
     clear BAD HX c2
     go_enter Try.func11, Try.ntmps11
     go_wp2_with (first
         | ((with_reducible refine this_op (.store 35 (.tmp 2) (.tmp 29)) ?_); refine wpList_store_row rfl 35 (.tmp 2) (.tmp 29) rfl (w.heap.size + 1) _ rfl rfl 35 _ (by rw [HW1.out]; exact HK1.out) sh_size rfl (by simp [Value.oneCell']) ?_))
     refine bodyPost_ret (results_cell_tmp rfl _ _ (w.heap.size + 1) 35 #[.int .i64 0, .int .i64 0, .int .i64 0, .slice none 0 0, .slice none 0 0] (0, 0) _ (.int .i64 1) rfl rfl ((show Blk _ (w.heap.size + 1) 35 _ from by rw [HW1.out]; exact HK1.out).row _) Try.underlying35 rfl sh_size) rfl ?_
     exact ⟨_, rfl, zshape_is _ _, ((((Upd.refl nob w).alloc _).alloc _).trans' ((Upd.refl (fun q => q = w.heap.size + 1) _).setRow (.inl rfl) _) (fun q hq h => by omega)).below⟩
   · by_cases c3 : vs < 0
     · have t2 : decide (pa < 0) = false := by simp; omega
       have t3 : decide (vs < 0) = true := by simp [c3]
       obtain ⟨rfl, rfl, rfl, rfl⟩ := BAD.out (.inr (.inr (.inl c3)))
       clear BAD HX c2 c3
       go_enter Try.func11, Try.ntmps11
       go_wp2_with (first
           | ((with_reducible refine this_op (.store 35 (.tmp 2) (.tmp 29)) ?_); refine wpList_store_row rfl 35 (.tmp 2) (.tmp 29) rfl (w.heap.size + 1) _ rfl rfl 35 _ (by rw [HW1.out]; exact HK1.out) sh_size rfl (by simp [Value.oneCell']) ?_))
       refine bodyPost_ret (results_cell_tmp rfl _ _ (w.heap.size + 1) 35 #[.int .i64 0, .int .i64 0, .int .i64 0, .slice none 0 0, .slice none 0 0] (0, 0) _ (.int .i64 1) rfl rfl ((show Blk _ (w.heap.size + 1) 35 _ from by rw [HW1.out]; exact HK1.out).row _) Try.underlying35 rfl sh_size) rfl ?_
       exact ⟨_, rfl, zshape_is _ _, ((((Upd.refl nob w).alloc _).alloc _).trans' ((Upd.refl (fun q => q = w.heap.size + 1) _).setRow (.inl rfl) _) (fun q hq h => by omega)).below⟩
     · by_cases c4 : 6 < vs
       · have t2 : decide (pa < 0) = false := by simp; omega
         have t3 : decide (vs < 0) = false := by simp; omega
         have t4 : decide (6 < vs) = true := by simp [c4]
         obtain ⟨rfl, rfl, rfl, rfl⟩ := BAD.out (.inr (.inr (.inr c4)))
         clear BAD HX c2 c3 c4
         go_enter Try.func11, Try.ntmps11
         go_wp2_with (first
             | ((with_reducible refine this_op (.store 35 (.tmp 2) (.tmp 29)) ?_); refine wpList_store_row rfl 35 (.tmp 2) (.tmp 29) rfl (w.heap.size + 1) _ rfl rfl 35 _ (by rw [HW1.out]; exact HK1.out) sh_size rfl (by simp [Value.oneCell']) ?_))
         refine bodyPost_ret (results_cell_tmp rfl _ _ (w.heap.size + 1) 35 #[.int .i64 0, .int .i64 0, .int .i64 0, .slice none 0 0, .slice none 0 0] (0, 0) _ (.int .i64 1) rfl rfl ((show Blk _ (w.heap.size + 1) 35 _ from by rw [HW1.out]; exact HK1.out).row _) Try.underlying35 rfl sh_size) rfl ?_
         exact ⟨_, rfl, zshape_is _ _, ((((Upd.refl nob w).alloc _).alloc _).trans' ((Upd.refl (fun q => q = w.heap.size + 1) _).setRow (.inl rfl) _) (fun q hq h => by omega)).below⟩
       · have t2 : decide (pa < 0) = false := by simp; omega
         have t3 : decide (vs < 0) = false := by simp; omega
         have t4 : decide (6 < vs) = false := by simp; omega
         have hx := HX.out
         obtain ⟨p, hp⟩ : ∃ p : Nat, pa = p := ⟨pa.toNat, by omega⟩
         obtain ⟨m, hm⟩ : ∃ m : Nat, vs = m := ⟨vs.toNat, by omega⟩
         have hm6 : m ≤ 6 := by omega
         subst hp hm
         have HX2 := Lib.hid hx
         clear BAD HX c2 c3 c4 hx
         go_enter Try.func11, Try.ntmps11
         go_wp2_with (first
             | ((with_reducible refine this_op (.load 27 (.tmp 31)) ?_); refine wpList_at rfl 27 (.tmp 31) rfl ⟨w.heap.size, 3, none⟩ rfl _ _ rm Try.underlying27 rfl tm_size ?_))
         rw [HW1.out]
         clear rm HW1
         refine (rrow_any ty _ D W1 hD1 HT1.out (by have := trow_le ty; omega)).mono ?_
         rintro e w2 ⟨cs2, A, c, rfl, hl2, hlc, hat2, hb2⟩
         have hu2 : Upd nob W1 w2 := Upd.of_below hb2
         have hle := trow_le ty
         obtain ⟨⟨ds, rs⟩, hsp⟩ : ∃ x, trow ty = x := ⟨_, rfl⟩
         rw [hsp] at hl2 hlc hat2 hle ⊢
         simp only at hl2 hlc hat2 hle ⊢
         obtain ⟨n, hn⟩ : ∃ n, ds.length = n := ⟨_, rfl⟩
         rw [hn] at hlc hle ⊢
         have HN := Lib.hid hn
         have HL2 := Lib.hid hl2
         have hs2 := hl2.oneCell
         obtain ⟨rk, rn, rnm, rlv, rls, rks⟩ := rs
         obtain ⟨lx, ly, lz, LA, Lc, KA, Kc, rfl, hrk, _, _, hlv, _, _, _, _⟩ := hl2.lit
         simp only [Tm.k, Tm.n, Tm.nm, Tm.lv, Tm.ls, Tm.ks] at hlv hs2 hrk ⊢
         have HSP := Lib.hid hsp
         have HLV := Lib.hid hlv
         have HAT2 := Lib.hid hat2
         have hw2s := hu2.size
         clear hsp hn hl2 hat2 hlv HT1
         by_cases hr : rk = 2 ∧ p ≤ n
         · obtain ⟨rfl, hpn⟩ := hr
           have t5 : decide ((n : Int) < (p : Int)) = false := by simp; omega
           obtain ⟨idx, hidx⟩ : ∃ idx, n = p + idx := ⟨n - p, by omega⟩
           have hwr : IntKind.i64.wrap ((n : Int) - (p : Int)) = (idx : Int) := (IntWalk.i64_in _ (by omega)).trans (by omega)
           have hx := HX2.out
           rw [rof_main (idx := idx) HSP.out HN.out rfl hm6 hidx] at hx
           simp only [Tm.lv] at hx
           obtain ⟨CT, hCT⟩ : ∃ f, rctor nm m p idx ds = f := ⟨_, rfl⟩
           rw [hCT] at hx
           obtain ⟨⟨R1, R2⟩, hR⟩ : ∃ x, ofF CT cts [] = x := ⟨_, rfl⟩
           rw [hR] at hx
           simp only at hx
           have HX4 := Lib.hid hx
           have HCT := Lib.hid hCT
           have HR := Lib.hid hR
           have HIDX := Lib.hid hidx
           clear hx hCT hR HX2 HSP hidx
           go_wp2_with (first
                           | ((with_reducible refine this_op (.store 27 (.tmp 5) (.tmp 35)) ?_); refine wpList_store_row rfl 27 (.tmp 5) (.tmp 35) rfl w2.heap.size _ rfl rfl 27 _ (Blk.new w2 _ _) tm_size rfl hs2.2 ?_
                              obtain ⟨W3, hW3⟩ : ∃ W3, (w2.alloc (.cells #[.int .i64 0, .int .i64 0, .string ByteArray.empty, .int .i64 0, .int .i64 0, .slice none 0 0, .slice none 0 0, .slice none 0 0] 27)).setRow w2.heap.size #[.int .i64 2, .int .i64 rn, .string rnm, lx, ly, lz, .slice LA rls.length Lc, .slice KA rks.length Kc] = W3 := ⟨_, rfl⟩
                              have hu3 : Upd nob w2 W3 := by rw [← hW3]; exact ((Upd.refl nob w2).alloc _).setRow (.inr (Nat.le_refl _)) _
                              have hb3 : Blk W3 w2.heap.size 27 #[.int .i64 2, .int .i64 rn, .string rnm, lx, ly, lz, .slice LA rls.length Lc, .slice KA rks.length Kc] := by rw [← hW3]; exact (Blk.new w2 _ _).row _
                              rw [hW3]
                              clear hW3
                              have hu13 := hu2.trans hu3
                              have u0 := HK0.out.upd hu13 (fun f => f)
                              have u1 := HK1.out.upd hu13 (fun f => f)
                              have q5 : W3.cell? ⟨w.heap.size, 19, none⟩ = some (.int .i64 p) := u0.cell 19
                              have q0 : W3.cell? ⟨w2.heap.size, 0, none⟩ = some (.int .i64 2) := hb3.cell 0
                              have rlv : rowAt W3 ⟨w2.heap.size, 3, none⟩ #[lx, ly, lz] := sub_row (p := ⟨w2.heap.size, 0, none⟩) hb3.rowAt 3 _ (fun j v hv => by
                               match j, hv with
                               | 0, hv | 1, hv | 2, hv => exact hv
                               | (j + 3), hv => simp at hv)
                              have hone0 : (#[Value.int .i64 idx, lx, ly, lz, .slice none 0 0]).all (·.oneCell') = true := by
                               have := HLV.out.oneCell.2
                               simp [Value.oneCell'] at this ⊢
                               exact this
                              have c20a : ((W3.alloc (.cells #[.int .i64 0, .int .i64 0, .int .i64 0, .slice none 0 0, .slice none 0 0] 35)).setRow W3.heap.size #[.int .i64 idx, lx, ly, lz, .slice none 0 0]).cell? ⟨w.heap.size, 20, none⟩ = some (.slice cA cts.length cc) := (u0.upd (((Upd.refl nob W3).alloc _).setRow (.inr (Nat.le_refl _)) _) (fun f => f)).cell 20
                              have U0 := Lib.hid u0
                              have U1 := Lib.hid u1
                              have HB3 := Lib.hid hb3
                              clear u0 u1 hb3)
                           | ((with_reducible refine this_op (.load 24 (.tmp 52)) ?_); refine wpList_at rfl 24 (.tmp 52) rfl ⟨w2.heap.size, 3, none⟩ rfl _ _ rlv Try.underlying24 rfl lv_size ?_)
                           | ((with_reducible refine this_op (.store 35 (.tmp 6) (.tmp 54)) ?_); refine wpList_store_row rfl 35 (.tmp 6) (.tmp 54) rfl W3.heap.size _ rfl rfl 35 _ (Blk.new W3 _ _) sh_size rfl hone0 ?_))
           have hu03 : Upd nob w W3 := (huW1.trans hu2).trans hu3
           have hD2 : Within (grow D W1 w2) w2 := fun q hq => hq.elim (fun h => hD1.up hu2 q h) (fun h => h.2)
           have hw3s := hu3.size
           have hlt3 := HB3.out.lt
           obtain ⟨M, hM⟩ : ∃ M, cts.length = M := ⟨_, rfl⟩
           have HM := Lib.hid hM
           have u09 := U0.out
           have rl : rowAt W3 ⟨w2.heap.size, 3, none⟩ #[lx, ly, lz] := sub_row (p := ⟨w2.heap.size, 0, none⟩) HB3.out.rowAt 3 _ (fun j v hv => by
            match j, hv with
            | 0, hv | 1, hv | 2, hv => exact hv
            | (j + 3), hv => simp at hv)
           obtain ⟨W8, hW8⟩ : ∃ W8, (W3.alloc (.cells #[.int .i64 0, .int .i64 0, .int .i64 0, .slice none 0 0, .slice none 0 0] 35)).setRow W3.heap.size #[.int .i64 idx, lx, ly, lz, .slice none 0 0] = W8 := ⟨_, rfl⟩
           have hu38 : Upd nob W3 W8 := by rw [← hW8]; exact ((Upd.refl nob W3).alloc _).setRow (.inr (Nat.le_refl _)) _
           have hb8 : Blk W8 W3.heap.size 35 #[.int .i64 idx, lx, ly, lz, .slice none 0 0] := by rw [← hW8]; exact (Blk.new W3 _ _).row _
           have hs8 : W8.heap.size = W3.heap.size + 1 := by rw [← hW8]; simp
           have HB8 := Lib.hid hb8
           have HW8 := Lib.hid hW8
           have U08 := Lib.hid (u09.upd hu38 (fun f => f))
           have U18 := Lib.hid (U1.out.upd hu38 (fun f => f))
           have ho28 : Old (grow D W1 w2) w2 W8 := hD2.old (hu3.trans hu38)
           have HAT8 := Lib.hid (HAT2.out.old ho28 (fun _ h => h))
           have HLV8 := Lib.hid (HLV.out.old ho28 (fun _ h => h))
           have HCT8 := Lib.hid (HC1.out.old (D' := grow D W1 w2) (hD1.old ((hu2.trans hu3).trans hu38)) (fun _ h => .inl h))
           have hD8 : Within (grow D W1 w2) W8 := hD2.up (hu3.trans hu38)
           have hu08 := hu03.trans hu38
           have hDl : ∀ q, grow D W1 w2 q → q ≠ W3.heap.size ∧ q ≠ w.heap.size + 1 ∧ q < W3.heap.size ∧ (D q ∨ w.heap.size ≤ q) := fun q hq => by
            have h9 := hu2.size
            rcases hq with hq | hq
            · have := hD q hq; exact ⟨by omega, by omega, by omega, .inl hq⟩
            · have := hq.1; have := hq.2; exact ⟨by omega, by omega, by omega, .inr (by omega)⟩
           have hone5 : ∀ (A : Option Addr) (k c : Nat), (#[Value.int .i64 idx, lx, ly, lz, .slice A k c]).all (·.oneCell') = true := fun A k c => by
            have := HLV.out.oneCell.2
            simp [Value.oneCell'] at this ⊢
            exact this
           have HHC := Lib.hid hhc
           have hlw1 := huW1.size
           clear hhc HAT2 HC1 HB3 U0 U1 hb8 hW8 u09 q5 q0 t5 hM
           rw [HW8.out]
           rw [HM.out] at hcl U08 ⊢
           clear rl c20a rlv HW8
           have hcM : 20 * 0 = 0 := rfl
           go_loopg [58] M (fun k v wr => ∃ (j : Nat) (acc : List CShape) (sv : Value), j + k = M ∧ v = .int .i64 j ∧ Blk wr W3.heap.size 35 #[.int .i64 idx, lx, ly, lz, sv] ∧ Coll csR nob W8.heap.size 50 wr sv acc ∧ acc.length ≤ j ∧ ofF CT (cts.drop j) acc = (R1, R2) ∧ Upd (fun q => q = W3.heap.size) W8 wr)
           case atStart => exact ⟨0, [], .slice none 0 0, by omega, rfl, HB8.out, Coll.nil_, Nat.le_refl _, by rw [List.drop_zero]; exact HR.out, Upd.refl _ _⟩
           case round =>
            clear HB8 hcM
            obtain ⟨j, acc, sv, hj, rfl, hbr, hco, hal, hof, hus⟩ := hrel
            have hws := hus.size
            obtain ⟨sA, sc, hsv, hscp⟩ := hco.form
            subst hsv
            have ho8 : Old (grow D W1 w2) W8 wr := Old.of_upd hus fun q hq => ⟨fun h => (hDl q hq).1 h, hD8 q hq⟩
            have HBR := Lib.hid hbr
            have HCO := Lib.hid hco
            have HOF := Lib.hid hof
            have hltb := hbr.lt
            have hDr : Within (grow D W1 w2) wr := hD8.up hus
            have u0r := U08.out.upd hus (fun h => by have : w.heap.size = W3.heap.size := h; omega)
            have U0R := Lib.hid u0r
            clear hbr hco hof u0r
            by_cases hlt : j < M
            · have t2 : decide ((j : Int) < M) = true := by simp [hlt]
              have hjn : j < cts.length := by rw [HM.out]; exact hlt
              obtain ⟨a, csx, hA, hab, hrow, hlx⟩ := HCT8.out j _ (List.getElem?_eq_getElem hjn)
              have hmem : cts[j] ∈ cts := List.getElem_mem hjn
              have hhx := HHC.out _ hmem
              have hdr : cts.drop j = cts[j] :: cts.drop (j + 1) := List.drop_eq_getElem_cons hjn
              have hof := HOF.out
              rw [hdr, ofF] at hof
              obtain ⟨⟨xn, x⟩, hx⟩ : ∃ x, cts[j] = x := ⟨_, rfl⟩
              rw [hx] at hof hlx hrow hhx
              simp only at hof hlx hrow hhx
              obtain ⟨c0, c1, c2, c3, c4, c5, c6, c7, rfl⟩ : ∃ s0 s1 s2 s3 s4 s5 s6 s7, csx = #[s0, s1, s2, s3, s4, s5, s6, s7] := by
               obtain ⟨_, _, _, _, _, _, _, h9, _⟩ := hlx.lit
               exact ⟨_, _, _, _, _, _, _, _, h9⟩
              have hrow' : rowAt wr (a.add (j * 9)) #[.string xn, c0, c1, c2, c3, c4, c5, c6, c7] := hrow.old ho8 (by rw [Addr_add_block]; exact hab)
              have hlx' := hlx.old ho8 (fun _ h => h)
              have hsx := hlx.oneCell.2
              have ho9 : (#[Value.string xn, c0, c1, c2, c3, c4, c5, c6, c7]).all (·.oneCell') = true := by
               simp [Value.oneCell'] at hsx ⊢
               exact hsx
              have HOF2 := Lib.hid hof
              have HA := Lib.hid hA
              have HLX := Lib.hid hlx'
              have HAR := Lib.hid (HAT8.out.old ho8 (fun _ h => h))
              have k0 : wr.cell? ⟨W3.heap.size, 0, none⟩ = some (.int .i64 idx) := HBR.out.cell 0
              have hz3 := ct_zero
              simp only [List.append_toArray, List.cons_append, List.nil_append] at hz3
              clear hA hof hdr HOF hrow hlx hlx' hx hmem hsx
              go_wp2_with (first
                                  | ((with_reducible refine this_op (.indexAddr 28 (.tmp 56) (.tmp 58)) ?_); refine wpList_index_at rfl 28 (.tmp 56) (.tmp 58) rfl _ a _ _ rfl HA.out j rfl hlt 46 Try.underlying28 9 ct_size ?_)
                                  | ((with_reducible refine this_op (.load 46 (.tmp 60)) ?_); refine wpList_at rfl 46 (.tmp 60) rfl (a.add (j * 9)) rfl _ _ hrow' Try.underlying46 rfl ct_size ?_)
                                  | ((with_reducible refine this_op (.store 46 (.tmp 8) (.tmp 61)) ?_); refine wpList_store_row rfl 46 (.tmp 8) (.tmp 61) rfl wr.heap.size _ rfl rfl 46 _ (Blk.new wr _ _) ct_size rfl ho9 ?_
                                     obtain ⟨W9, hW9⟩ : ∃ W9, (wr.alloc (.cells #[.string ByteArray.empty, .int .i64 0, .int .i64 0, .string ByteArray.empty, .int .i64 0, .int .i64 0, .slice none 0 0, .slice none 0 0, .slice none 0 0] 46)).setRow wr.heap.size #[.string xn, c0, c1, c2, c3, c4, c5, c6, c7] = W9 := ⟨_, rfl⟩
                                     have hu9 : Upd nob wr W9 := by rw [← hW9]; exact ((Upd.refl nob wr).alloc _).setRow (.inr (Nat.le_refl _)) _
                                     have hb9 : Blk W9 wr.heap.size 46 #[.string xn, c0, c1, c2, c3, c4, c5, c6, c7] := by rw [← hW9]; exact (Blk.new wr _ _).row _
                                     rw [hW9]
                                     clear hW9
                                     have r9 := hb9.rowAt
                                     have rd9 := (U0R.out.upd hu9 (fun f => f)).rowAt
                                     have k09 : W9.cell? ⟨W3.heap.size, 0, none⟩ = some (.int .i64 idx) := (hu9.cell hltb (fun f => f)).trans k0
                                     clear hb9)
                                  | ((with_reducible refine this_op (.load 30 (.tmp 1)) ?_); refine wpList_at rfl 30 (.tmp 1) rfl ⟨w.heap.size, 0, none⟩ rfl _ _ rd9 Try.underlying30 rfl dc_size ?_)
                                  | ((with_reducible refine this_op (.load 46 (.tmp 8)) ?_); refine wpList_at rfl 46 (.tmp 8) rfl ⟨wr.heap.size, 0, none⟩ rfl _ _ r9 Try.underlying46 rfl ct_size ?_))
              have hcall := rctor_any 3 nm m p idx a0 a1 a2 a3 a4 a5 a6 a7 b0 b1 b2 b3 b4 b5 b6 b7 (.slice cA M cc) ds A c xn x c0 c1 c2 c3 c4 c5 c6 c7 (grow D W1 w2) W9 (hDr.up hu9) (HLX.out.old (hDr.old hu9) (fun _ h => h)) (HAR.out.old (hDr.old hu9) (fun _ h => h)) (by rw [HN.out]; exact hpn) (by rw [HN.out]; omega) (by omega) hnm (by have := HIDX.out; omega) hhx
              rw [HN.out] at hcall
              refine hcall.mono ?_
              clear hcall
              rintro e w10 ⟨cs10, rfl, hl10, hb10⟩
              rw [HCT.out] at hl10 ⊢
              have hu10 : Upd nob W9 w10 := Upd.of_below hb10
              have hw9s := hu9.size
              have hw10s := hu10.size
              have hof := HOF2.out
              obtain ⟨⟨y, re⟩, hy⟩ : ∃ y, CT x = y := ⟨_, rfl⟩
              rw [hy] at hl10 hof ⊢
              simp only at hl10 hof ⊢
              have hs10 := hl10.cells2
              have hsi10 : (Try.prog.info? 50).map (·.size) = some cs10.size := by rw [hs10.1]; exact cs_size
              have HL10 := Lib.hid hl10
              have HOF3 := Lib.hid hof
              clear hl10 hof HOF2 hy HLX HAR rd9 r9 k09
              have hu810 : Upd (fun q => q = W3.heap.size) W8 w10 := hus.trans ((hu9.trans hu10).mono (fun _ f => f.elim))
              by_cases hre : re = 0
              · subst hre
                have hof := HOF3.out
                rw [if_pos rfl] at hof
                have HOF4 := Lib.hid hof
                clear hof HOF3
                have hnO : ∀ q, (Value.slice sA acc.length sc).ownBlock = some q → W8.heap.size ≤ q ∧ q < wr.heap.size := fun q h => HCO.out.lt h
                go_wp2_with (first
                                      | ((with_reducible refine this_op (.store 50 (.tmp 9) (.tmp 69)) ?_); refine wpList_store_row rfl 50 (.tmp 9) (.tmp 69) rfl w10.heap.size _ rfl rfl 50 _ (Blk.new w10 _ _) hsi10 (by rw [hs10.1]; rfl) hs10.2 ?_
                                         obtain ⟨W11, hW11⟩ : ∃ W11, (w10.alloc (.cells #[.int .i64 0, .slice none 0 0] 50)).setRow w10.heap.size cs10 = W11 := ⟨_, rfl⟩
                                         have hu11 : Upd nob w10 W11 := by rw [← hW11]; exact ((Upd.refl nob w10).alloc _).setRow (.inr (Nat.le_refl _)) _
                                         have hb11 : Blk W11 w10.heap.size 50 cs10 := by rw [← hW11]; exact (Blk.new w10 _ _).row _
                                         rw [hW11]
                                         clear hW11
                                         have HB11 := Lib.hid hb11
                                         clear hb11
                                         have r11 := HB11.out.rowAt
                                         have hw11s := hu11.size
                                         have hur11 : Upd nob wr W11 := (hu9.trans hu10).trans hu11
                                         have hbr11 := HBR.out.upd hur11 (fun f => f)
                                         have c4 : W11.cell? ⟨W3.heap.size, 4, none⟩ = some (.slice sA acc.length sc) := hbr11.cell 4
                                         have hu12 : Upd nob W11 (W11.alloc (.cells cs10 50)) := (Upd.refl nob W11).alloc _
                                         have HCO12 := Lib.hid (HCO.out.upd (hur11.trans hu12) (fun _ f => f.elim) (fun q f => f.elim))
                                         have HL12 := Lib.hid (HL10.out.old (D' := grow nob W9 w10) (Old.of_upd (hu11.trans hu12) fun q hq => ⟨fun f => f, hq.2⟩) (fun q hq => .inr hq))
                                         have HDL12 : Hid (∀ q, grow nob W9 w10 q → cd nob W8.heap.size (W11.alloc (.cells cs10 50)) (.slice sA acc.length sc) q) := Lib.hid fun q hq => by
                                          have hq2 : W9.heap.size ≤ q ∧ q < w10.heap.size := hq.elim (fun f => f.elim) id
                                          exact ⟨.inr ⟨by omega, by simp; omega⟩, fun h => by have := hnO _ h; omega⟩
                                         have HBR11 := Lib.hid hbr11
                                         clear hbr11)
                                      | ((with_reducible refine this_op (.load 50 (.tmp 9)) ?_); refine wpList_at rfl 50 (.tmp 9) rfl ⟨w10.heap.size, 0, none⟩ rfl _ _ r11 Try.underlying50 rfl hsi10 ?_)
                                      | ((with_reducible refine this_op (.buildSlice 33 1 #[(0, .tmp 77)]) ?_); refine wpList_build1 rfl 33 50 (.tmp 77) rfl _ 2 32 Try.underlying33 cs_info (by decide) (by decide) cs10 rfl hs10.1 ?_)
                                      | (at_builtin; refine wpList_collect rfl (.tmp 76) (.tmp 78) 33 rfl _ 32 Try.underlying33 cs_info (by kernel_rfl) (by decide) rfl HCO12.out (fun x h => h.elim) W11.heap.size cs10 rfl (Blk.new W11 _ _) y _ HL12.out HDL12.out acc.length rfl (by omega) (by omega) (by simp; omega) ?_
                                         intro sA6 sc6 w13 hc13 hu13 hat13
                                         have hu1113 : Upd (fun q => (Value.slice sA acc.length sc).ownBlock = some q) W11 w13 := (hu12.mono (fun _ f => f.elim)).trans hu13
                                         have hbr13 := HBR11.out.upd hu1113 (fun h => by have : W8.heap.size ≤ W3.heap.size := (hnO _ h).1; omega)
                                         have c4b : w13.cell? ⟨W3.heap.size, 4, none⟩ = some (.slice sA acc.length sc) := hbr13.cell 4
                                         have z4 := hbr13.frozen 4
                                         have HBR13 := Lib.hid hbr13
                                         have HCO13 := Lib.hid hc13
                                         have HU1113 := Lib.hid hu1113
                                         clear hc13 hbr13 hu13 hu1113))
                go_roundg (gk - 1)
                case measure => omega
                case rel =>
                 have hfin : Upd (fun q => q = W3.heap.size) w13 (w13.setCell ⟨W3.heap.size, 4, none⟩ (.slice sA6 (acc.length + 1) sc6)) := (Upd.refl (fun q => q = W3.heap.size) w13).setCell (p := ⟨W3.heap.size, 4, none⟩) (.inl rfl) _
                 refine ⟨j + 1, acc ++ [y], .slice sA6 (acc.length + 1) sc6, by omega, by go_num, HBR13.out.set 4 _, HCO13.out.upd hfin (fun q hq => ⟨by have : q = W3.heap.size := hq; omega, fun f => f⟩) (fun q f => f.elim), by simp; omega, HOF4.out, ?_⟩
                 exact ((hus.trans (hur11.mono (fun _ f => f.elim))).trans' HU1113.out (fun q hq h => by have := hnO q h; omega)).trans hfin
              · have t3 : (re != 0) = true := by simpa using hre
                have hof := HOF3.out
                rw [if_neg hre] at hof
                injection hof with h1 h2
                subst h1 h2
                have hx := HX4.out
                rw [if_neg hre, zshape] at hx
                injection hx with h1 h2
                injection h1 with h1 h3
                injection h3 with h3 h4
                subst h1 h2 h3 h4
                have U110 := Lib.hid (U18.out.upd hu810 (fun h => by have : w.heap.size + 1 = W3.heap.size := h; omega))
                clear HOF3 HX4 hre
                go_wp2_with (first
                                      | ((with_reducible refine this_op (.store 50 (.tmp 9) (.tmp 69)) ?_); refine wpList_store_row rfl 50 (.tmp 9) (.tmp 69) rfl w10.heap.size _ rfl rfl 50 _ (Blk.new w10 _ _) hsi10 (by rw [hs10.1]; rfl) hs10.2 ?_
                                         obtain ⟨W11, hW11⟩ : ∃ W11, (w10.alloc (.cells #[.int .i64 0, .slice none 0 0] 50)).setRow w10.heap.size cs10 = W11 := ⟨_, rfl⟩
                                         have hu11 : Upd nob w10 W11 := by rw [← hW11]; exact ((Upd.refl nob w10).alloc _).setRow (.inr (Nat.le_refl _)) _
                                         have hb11 : Blk W11 w10.heap.size 50 cs10 := by rw [← hW11]; exact (Blk.new w10 _ _).row _
                                         rw [hW11]
                                         clear hW11
                                         have HB11 := Lib.hid hb11
                                         clear hb11)
                                      | ((with_reducible refine this_op (.store 35 (.tmp 2) (.tmp 73)) ?_); refine wpList_store_row rfl 35 (.tmp 2) (.tmp 73) rfl (w.heap.size + 1) _ rfl rfl 35 _ (U110.out.upd hu11 (fun f => f)) sh_size rfl (by simp [Value.oneCell']) ?_))
                refine bodyPost_ret (results_cell_tmp rfl _ _ (w.heap.size + 1) 35 #[.int .i64 0, .int .i64 0, .int .i64 0, .slice none 0 0, .slice none 0 0] (0, 0) _ (.int .i64 re) rfl rfl ((U110.out.upd hu11 (fun f => f)).row _) Try.underlying35 rfl sh_size) rfl ?_
                exact ⟨_, rfl, zshape_is _ _, (((hu08.trans' hu810 (fun q hq h => by have : q = W3.heap.size := h; omega)).trans hu11).trans' ((Upd.refl (fun q => q = w.heap.size + 1) _).setRow (.inl rfl) _) (fun q hq h => by omega)).below⟩
            · have t2 : decide ((j : Int) < M) = false := by simp; omega
              have hof := HOF.out
              rw [List.drop_eq_nil_of_le (by rw [HM.out]; omega), ofF] at hof
              injection hof with h1 h2
              subst h1 h2
              have hx := HX4.out
              rw [if_pos rfl] at hx
              injection hx with h1 h2
              injection h1 with h1 h3
              injection h3 with h3 h4
              subst h1 h2 h3 h4
              have r6 := HBR.out.rowAt
              have U1R := Lib.hid (U18.out.upd hus (fun h => by have : w.heap.size + 1 = W3.heap.size := h; omega))
              clear HX4 HOF
              go_wp2_with (first
                                  | ((with_reducible refine this_op (.load 35 (.tmp 6)) ?_); refine wpList_at rfl 35 (.tmp 6) rfl ⟨W3.heap.size, 0, none⟩ rfl _ _ r6 Try.underlying35 rfl sh_size ?_)
                                  | ((with_reducible refine this_op (.store 35 (.tmp 2) (.tmp 82)) ?_); refine wpList_store_row rfl 35 (.tmp 2) (.tmp 82) rfl (w.heap.size + 1) _ rfl rfl 35 _ U1R.out sh_size rfl (hone5 _ _ _) ?_))
              refine bodyPost_ret (results_cell_tmp rfl _ _ (w.heap.size + 1) 35 #[.int .i64 idx, lx, ly, lz, .slice sA acc.length sc] (0, 0) _ (.int .i64 0) rfl rfl (U1R.out.row _) Try.underlying35 rfl sh_size) rfl ?_
              have hfin : Upd (fun q => q = w.heap.size + 1) wr (wr.setRow (w.heap.size + 1) #[.int .i64 idx, lx, ly, lz, .slice sA acc.length sc]) := (Upd.refl (fun q => q = w.heap.size + 1) wr).setRow (.inl rfl) _
              have hsf : (wr.setRow (w.heap.size + 1) #[.int .i64 idx, lx, ly, lz, .slice sA acc.length sc]).heap.size = wr.heap.size := by simp
              have e9 : (n : Int) - (p : Int) = (idx : Int) := by have := HIDX.out; omega
              have hwW8 := hu08.size
              refine ⟨_, rfl, ⟨lx, ly, lz, sA, sc, by rw [e9], ?_, fun i y hy => ?_⟩, ((hu08.trans' hus (fun q hq h => by have : q = W3.heap.size := h; omega)).trans' hfin (fun q hq h => by omega)).below⟩
              · refine HLV8.out.old (ho8.trans (Old.of_upd hfin fun q hq => ⟨fun h => (hDl q hq).2.1 h, hDr q hq⟩)) (fun q hq => ?_)
                have h9 := hDl q hq
                exact h9.2.2.2.elim .inl fun h => .inr ⟨h, by have := h9.2.2.1; omega⟩
              · obtain ⟨A9, c9, hv9, _, hrows⟩ := HCO.out.row_at
                injection hv9 with z1 z2 z3
                subst z1 z3
                obtain ⟨a, csy, g1, g2, g3, g4⟩ := hrows i y hy
                have ho : Old (fun q => nob q ∨ (W8.heap.size ≤ q ∧ q < wr.heap.size)) wr (wr.setRow (w.heap.size + 1) #[.int .i64 idx, lx, ly, lz, .slice sA acc.length sc]) := Old.of_upd hfin fun q hq => hq.elim (fun f => f.elim) fun h => ⟨by omega, h.2⟩
                refine ⟨a, csy, g1, .inr ⟨by omega, by omega⟩, g3.old ho (by rw [Addr_add_block]; exact .inr g2), CsIs.old (D := fun x => nob x ∨ (W8.heap.size ≤ x ∧ x < wr.heap.size)) (w := wr) g4 ho fun q hq => hq.elim (fun f => f.elim) fun h => .inr ⟨by omega, by omega⟩⟩
         · have hx := HX2.out
           rw [rof_14 HSP.out HN.out hm6 hr, zshape] at hx
           injection hx with h1 h2
           injection h1 with h1 h3
           injection h3 with h3 h4
           subst h1 h2 h3 h4
           clear HX2 HSP
           by_cases hr2 : rk = 2
           · subst hr2
             have hnp : n < p := by omega
             clear hr
             go_wp2_with (first
                               | ((with_reducible refine this_op (.store 27 (.tmp 5) (.tmp 35)) ?_); refine wpList_store_row rfl 27 (.tmp 5) (.tmp 35) rfl w2.heap.size _ rfl rfl 27 _ (Blk.new w2 _ _) tm_size rfl hs2.2 ?_
                                  obtain ⟨W3, hW3⟩ : ∃ W3, (w2.alloc (.cells #[.int .i64 0, .int .i64 0, .string ByteArray.empty, .int .i64 0, .int .i64 0, .slice none 0 0, .slice none 0 0, .slice none 0 0] 27)).setRow w2.heap.size #[.int .i64 2, .int .i64 rn, .string rnm, lx, ly, lz, .slice LA rls.length Lc, .slice KA rks.length Kc] = W3 := ⟨_, rfl⟩
                                  have hu3 : Upd nob w2 W3 := by rw [← hW3]; exact ((Upd.refl nob w2).alloc _).setRow (.inr (Nat.le_refl _)) _
                                  have hb3 : Blk W3 w2.heap.size 27 #[.int .i64 2, .int .i64 rn, .string rnm, lx, ly, lz, .slice LA rls.length Lc, .slice KA rks.length Kc] := by rw [← hW3]; exact (Blk.new w2 _ _).row _
                                  rw [hW3]
                                  clear hW3
                                  have hu13 := hu2.trans hu3
                                  have u0 := HK0.out.upd hu13 (fun f => f)
                                  have u1 := HK1.out.upd hu13 (fun f => f)
                                  have q5 : W3.cell? ⟨w.heap.size, 19, none⟩ = some (.int .i64 p) := u0.cell 19
                                  have q0 : W3.cell? ⟨w2.heap.size, 0, none⟩ = some (.int .i64 2) := hb3.cell 0
                                  have rlv : rowAt W3 ⟨w2.heap.size, 3, none⟩ #[lx, ly, lz] := sub_row (p := ⟨w2.heap.size, 0, none⟩) hb3.rowAt 3 _ (fun j v hv => by
                                   match j, hv with
                                   | 0, hv | 1, hv | 2, hv => exact hv
                                   | (j + 3), hv => simp at hv)
                                  have U0 := Lib.hid u0
                                  have U1 := Lib.hid u1
                                  have HB3 := Lib.hid hb3
                                  clear u0 u1 hb3)
                               | ((with_reducible refine this_op (.store 35 (.tmp 2) (.tmp 46)) ?_); refine wpList_store_row rfl 35 (.tmp 2) (.tmp 46) rfl (w.heap.size + 1) _ rfl rfl 35 _ U1.out sh_size rfl (by simp [Value.oneCell']) ?_))
             refine bodyPost_ret (results_cell_tmp rfl _ _ (w.heap.size + 1) 35 #[.int .i64 0, .int .i64 0, .int .i64 0, .slice none 0 0, .slice none 0 0] (0, 0) _ (.int .i64 14) rfl rfl (U1.out.row _) Try.underlying35 rfl sh_size) rfl ?_
             exact ⟨_, rfl, zshape_is _ _, (((huW1.trans hu2).trans hu3).trans' ((Upd.refl (fun q => q = w.heap.size + 1) _).setRow (.inl rfl) _) (fun q hq h => by omega)).below⟩
           · have t5 : (rk != 2) = true := by simpa using hr2
             clear hr hr2
             go_wp2_with (first
                               | ((with_reducible refine this_op (.store 27 (.tmp 5) (.tmp 35)) ?_); refine wpList_store_row rfl 27 (.tmp 5) (.tmp 35) rfl w2.heap.size _ rfl rfl 27 _ (Blk.new w2 _ _) tm_size rfl hs2.2 ?_
                                  obtain ⟨W3, hW3⟩ : ∃ W3, (w2.alloc (.cells #[.int .i64 0, .int .i64 0, .string ByteArray.empty, .int .i64 0, .int .i64 0, .slice none 0 0, .slice none 0 0, .slice none 0 0] 27)).setRow w2.heap.size #[.int .i64 rk, .int .i64 rn, .string rnm, lx, ly, lz, .slice LA rls.length Lc, .slice KA rks.length Kc] = W3 := ⟨_, rfl⟩
                                  have hu3 : Upd nob w2 W3 := by rw [← hW3]; exact ((Upd.refl nob w2).alloc _).setRow (.inr (Nat.le_refl _)) _
                                  have hb3 : Blk W3 w2.heap.size 27 #[.int .i64 rk, .int .i64 rn, .string rnm, lx, ly, lz, .slice LA rls.length Lc, .slice KA rks.length Kc] := by rw [← hW3]; exact (Blk.new w2 _ _).row _
                                  rw [hW3]
                                  clear hW3
                                  have hu13 := hu2.trans hu3
                                  have u0 := HK0.out.upd hu13 (fun f => f)
                                  have u1 := HK1.out.upd hu13 (fun f => f)
                                  have q5 : W3.cell? ⟨w.heap.size, 19, none⟩ = some (.int .i64 p) := u0.cell 19
                                  have q0 : W3.cell? ⟨w2.heap.size, 0, none⟩ = some (.int .i64 rk) := hb3.cell 0
                                  have rlv : rowAt W3 ⟨w2.heap.size, 3, none⟩ #[lx, ly, lz] := sub_row (p := ⟨w2.heap.size, 0, none⟩) hb3.rowAt 3 _ (fun j v hv => by
                                   match j, hv with
                                   | 0, hv | 1, hv | 2, hv => exact hv
                                   | (j + 3), hv => simp at hv)
                                  have U0 := Lib.hid u0
                                  have U1 := Lib.hid u1
                                  have HB3 := Lib.hid hb3
                                  clear u0 u1 hb3)
                               | ((with_reducible refine this_op (.store 35 (.tmp 2) (.tmp 46)) ?_); refine wpList_store_row rfl 35 (.tmp 2) (.tmp 46) rfl (w.heap.size + 1) _ rfl rfl 35 _ U1.out sh_size rfl (by simp [Value.oneCell']) ?_))
             refine bodyPost_ret (results_cell_tmp rfl _ _ (w.heap.size + 1) 35 #[.int .i64 0, .int .i64 0, .int .i64 0, .slice none 0 0, .slice none 0 0] (0, 0) _ (.int .i64 14) rfl rfl (U1.out.row _) Try.underlying35 rfl sh_size) rfl ?_
             exact ⟨_, rfl, zshape_is _ _, (((huW1.trans hu2).trans hu3).trans' ((Upd.refl (fun q => q = w.heap.size + 1) _).setRow (.inl rfl) _) (fun q hq h => by omega)).below⟩
 · have t1 : (dk != 3) = true := by simpa using c1
   obtain ⟨rfl, rfl, rfl, rfl⟩ := BAD.out (.inl c1)
   clear BAD HX c1
   go_enter Try.func11, Try.ntmps11
   go_wp2_with (first
       | ((with_reducible refine this_op (.store 35 (.tmp 2) (.tmp 29)) ?_); refine wpList_store_row rfl 35 (.tmp 2) (.tmp 29) rfl (w.heap.size + 1) _ rfl rfl 35 _ (by rw [HW1.out]; exact HK1.out) sh_size rfl (by simp [Value.oneCell']) ?_))
   refine bodyPost_ret (results_cell_tmp rfl _ _ (w.heap.size + 1) 35 #[.int .i64 0, .int .i64 0, .int .i64 0, .slice none 0 0, .slice none 0 0] (0, 0) _ (.int .i64 1) rfl rfl ((show Blk _ (w.heap.size + 1) 35 _ from by rw [HW1.out]; exact HK1.out).row _) Try.underlying35 rfl sh_size) rfl ?_
   exact ⟨_, rfl, zshape_is _ _, ((((Upd.refl nob w).alloc _).alloc _).trans' ((Upd.refl (fun q => q = w.heap.size + 1) _).setRow (.inl rfl) _) (fun q hq h => by omega)).below⟩
end Go.Proofs.Ytiampoebdmflgaa

/- The reference's SameShape. -/
namespace Go.Proofs.Ytiampoebdmflgaa
open Go.RowKit
set_option linter.unusedVariables false
set_option maxRecDepth 100000
set_option maxHeartbeats 4000000
set_option linter.unusedSimpArgs false
/-- assizeref13.SameShape. -/
def sameSh (a b : TShape) : Bool := decide (a.1 = b.1) && (req a.2.1 b.2.1 && decide (a.2.2 = b.2.2))
theorem fd_size : (Try.prog.info? 52).map (·.size) = some 2 := by kernel_rfl
theorem sameSh_any (s1 s2 : TShape) (ca cb : Array Value) (D : Nat → Prop) (w : World) (hD : Within D w) (ha : ShIs D w s1 ca) (hb : ShIs D w s2 cb) (hla : s1.2.2.length ≤ 1000000000) (hlb : s2.2.2.length ≤ 1000000000) (hsl : ∀ y, y ∈ s1.2.2 → y.2.length ≤ 1000000000000) :
    Calls Try.prog 12 #[.agg ca, .agg cb] w fun e w' => e = .returned (.bool (sameSh s1 s2)) ∧ Below w.heap.size w w' := by
 obtain ⟨i1, v1, as_⟩ := s1
 obtain ⟨i2, v2, bs⟩ := s2
 obtain ⟨xa, ya, za, A, c, rfl, hva, hca⟩ := ha
 obtain ⟨xb, yb, zb, B, c2, rfl, hvb, hcb⟩ := hb
 simp only at hla hlb hva hca hvb hcb hsl ⊢
 have HSL := Lib.hid hsl
 clear hsl
 have hz := cs_zero
 obtain ⟨X, hX⟩ : ∃ X, sameSh (i1, v1, as_) (i2, v2, bs) = X := ⟨_, rfl⟩
 rw [hX]
 unfold sameSh at hX
 simp only at hX
 obtain ⟨n, hn⟩ : ∃ n, as_.length = n := ⟨_, rfl⟩
 obtain ⟨m, hm⟩ : ∃ n, bs.length = n := ⟨_, rfl⟩
 rw [hn] at hla ⊢
 rw [hm] at hlb ⊢
 have HN := Lib.hid hn
 have HM := Lib.hid hm
 have HX := Lib.hid hX
 clear hn hm hX
 obtain ⟨W1, hW1⟩ : ∃ W1, (w.alloc (.cells #[.int .i64 i1, xa, ya, za, .slice A n c] 35)).alloc (.cells #[.int .i64 i2, xb, yb, zb, .slice B m c2] 35) = W1 := ⟨_, rfl⟩
 have huW1 : Upd nob w W1 := by rw [← hW1]; exact ((Upd.refl nob w).alloc _).alloc _
 have hsW1 : W1.heap.size = w.heap.size + 2 := by rw [← hW1]; simp
 have bk0 : Blk W1 (w.heap.size) 35 #[.int .i64 i1, xa, ya, za, .slice A n c] := by
  rw [← hW1]
  have h := Blk.new (w) 35 #[.int .i64 i1, xa, ya, za, .slice A n c]
  exact h.alloc _
 have bk1 : Blk W1 (w.heap.size + 1) 35 #[.int .i64 i2, xb, yb, zb, .slice B m c2] := by
  rw [← hW1]
  have h := Blk.new (w.alloc (.cells #[.int .i64 i1, xa, ya, za, .slice A n c] 35)) 35 #[.int .i64 i2, xb, yb, zb, .slice B m c2]
  rw [World.size_alloc] at h
  exact h
 have hD1 := hD.up huW1
 have u0 := sub_row (p := ⟨w.heap.size, 0, none⟩) bk0.rowAt 1 #[xa, ya, za] (fun j v hv => by rcases j with _ | _ | _ | j <;> simp at hv ⊢ <;> exact hv)
 have u1 := sub_row (p := ⟨w.heap.size + 1, 0, none⟩) bk1.rowAt 1 #[xb, yb, zb] (fun j v hv => by rcases j with _ | _ | _ | j <;> simp at hv ⊢ <;> exact hv)
 have HVA := Lib.hid (hva.old (hD.old huW1) (fun _ h => h))
 have HVB := Lib.hid (hvb.old (hD.old huW1) (fun _ h => h))
 have B0 := Lib.hid bk0
 have B1 := Lib.hid bk1
 have HW1 := Lib.hid hW1
 rw [← hW1] at u0 u1
 clear hva hvb bk0 bk1 hW1
 by_cases hi : i1 = i2
 · have t1 : (i1 != i2) = false := by simpa using hi
   have hx : (req v1 v2 && decide (as_ = bs)) = X := by rw [← HX.out]; simp [hi]
   have HX2 := Lib.hid hx
   clear HX hx hi
   go_enter Try.func12, Try.ntmps12
   go_wp2_with (first
           | (go_big_want; first | (refine owp_load_at 24 (.tmp 15) rfl ⟨w.heap.size, 1, none⟩ rfl _ _ u0 Try.underlying24 rfl lv_size ?_) | (refine owp_load_at 24 (.tmp 17) rfl ⟨w.heap.size + 1, 1, none⟩ rfl _ _ u1 Try.underlying24 rfl lv_size ?_)))
   rw [HW1.out]
   clear HW1 u0 u1
   refine (req_any v1 v2 _ _ D W1 hD1 HVA.out HVB.out).mono ?_
   rintro e w3 ⟨rfl, hb3⟩
   have hu3 : Upd nob W1 w3 := Upd.of_below hb3
   have hw3s := hu3.size
   have hu03 := huW1.trans hu3
   have hD3 := hD1.up hu3
   have C0 := B0.out.upd hu3 (fun f => f)
   have C1 := B1.out.upd hu3 (fun f => f)
   have p4 : w3.cell? ⟨w.heap.size, 4, none⟩ = some (.slice A n c) := C0.cell 4
   have p14 : w3.cell? ⟨w.heap.size + 1, 4, none⟩ = some (.slice B m c2) := C1.cell 4
   have hlt1 := C1.lt
   clear C0 C1
   cases hr : req v1 v2 with
   | false =>
    have e : X = false := by rw [← HX2.out, hr]; rfl
    subst e
    clear HX2 hr
    go_wp2_with fail
    go_ret
    exact ⟨rfl, hu03.below⟩
   | true =>
    have hx : decide (as_ = bs) = X := by rw [← HX2.out, hr]; simp
    have HX3 := Lib.hid hx
    clear HX2 hr hx
    by_cases hnm : n = m
    · subst hnm
      go_wp2_with fail
      go_loopg [34] n (fun r v wr => ∃ j : Nat, j + r = n ∧ v = .int .i64 j ∧ decide (as_.drop j = bs.drop j) = X ∧ Upd nob w3 wr)
      case atStart => exact ⟨0, by omega, rfl, by rw [List.drop_zero, List.drop_zero]; exact HX3.out, Upd.refl _ _⟩
      case round =>
       clear HX3
       obtain ⟨j, hj, rfl, hdx, hus⟩ := hrel
       have hws := hus.size
       have hu0r := hu03.trans hus
       have q14 : wr.cell? ⟨w.heap.size + 1, 4, none⟩ = some (.slice B n c2) := (hus.cell hlt1 (fun f => f)).trans p14
       have HDX := Lib.hid hdx
       clear hdx
       by_cases hlt : j < n
       · have t2 : decide ((j : Int) < n) = true := by simp [hlt]
         have hj1 : j < as_.length := by rw [HN.out]; exact hlt
         have hj2 : j < bs.length := by rw [HM.out]; exact hlt
         obtain ⟨a, csa, hA, hab, hrowa, A2, k2, hcsa, hfa⟩ := hca j _ (List.getElem?_eq_getElem hj1)
         obtain ⟨b, csb, hB, hbb, hrowb, B2, k3, hcsb, hfb⟩ := hcb j _ (List.getElem?_eq_getElem hj2)
         have hd1 : as_.drop j = as_[j] :: as_.drop (j + 1) := List.drop_eq_getElem_cons hj1
         have hd2 : bs.drop j = bs[j] :: bs.drop (j + 1) := List.drop_eq_getElem_cons hj2
         have hdx := HDX.out
         rw [hd1, hd2] at hdx
         obtain ⟨⟨f1, l1⟩, hx⟩ : ∃ x, as_[j] = x := ⟨_, rfl⟩
         obtain ⟨⟨f2, l2⟩, hy⟩ : ∃ x, bs[j] = x := ⟨_, rfl⟩
         rw [hx] at hdx hcsa hfa
         rw [hy] at hdx hcsb hfb
         simp only at hcsa hfa hcsb hfb
         obtain ⟨g1, hg1⟩ : ∃ g, l1.length = g := ⟨_, rfl⟩
         obtain ⟨g2, hg2⟩ : ∃ g, l2.length = g := ⟨_, rfl⟩
         rw [hg1] at hcsa
         rw [hg2] at hcsb
         subst hcsa hcsb
         have hra := hrowa.old (hD.old hu0r) (by rw [Addr_add_block]; exact hab)
         have hrb := hrowb.old (hD.old hu0r) (by rw [Addr_add_block]; exact hbb)
         have hg1b : g1 ≤ 1000000000000 := by
          have h9 := HSL.out as_[j] (List.getElem_mem hj1)
          rw [hx] at h9
          rw [← hg1]; exact h9
         have HG1 := Lib.hid hg1
         have HG2 := Lib.hid hg2
         have HA := Lib.hid hA
         have HB := Lib.hid hB
         have HDX2 := Lib.hid hdx
         have oa : (#[Value.int .i64 f1, .slice A2 g1 k2]).all (·.oneCell') = true := by simp [Value.oneCell']
         have ob : (#[Value.int .i64 f2, .slice B2 g2 k3]).all (·.oneCell') = true := by simp [Value.oneCell']
         clear hA hB hrowa hrowb hd1 hd2 hdx hx hy HDX hg1 hg2
         by_cases hf : f1 = f2
         · have t3 : (f1 != f2) = false := by simpa using hf
           by_cases hg : g1 = g2
           · subst hf hg
             go_wp2_with (first
                                 | ((with_reducible refine this_op (.indexAddr 33 (.tmp 32) (.tmp 34)) ?_); refine wpList_index_at rfl 33 (.tmp 32) (.tmp 34) rfl _ a _ _ rfl HA.out j rfl hlt 50 Try.underlying33 2 cs_size ?_)
                                 | ((with_reducible refine this_op (.load 50 (.tmp 37)) ?_); refine wpList_at rfl 50 (.tmp 37) rfl (a.add (j * 2)) rfl _ _ hra Try.underlying50 rfl cs_size ?_)
                                 | ((with_reducible refine this_op (.store 50 (.tmp 6) (.tmp 38)) ?_); refine wpList_store_row rfl 50 (.tmp 6) (.tmp 38) rfl wr.heap.size _ rfl rfl 50 _ (Blk.new wr _ _) cs_size rfl oa ?_
                                    obtain ⟨W7, hW7⟩ : ∃ W7, (wr.alloc (.cells #[.int .i64 0, .slice none 0 0] 50)).setRow wr.heap.size #[.int .i64 f1, .slice A2 g1 k2] = W7 := ⟨_, rfl⟩
                                    have hu7 : Upd nob wr W7 := by rw [← hW7]; exact ((Upd.refl nob wr).alloc _).setRow (.inr (Nat.le_refl _)) _
                                    have hb7 : Blk W7 wr.heap.size 50 #[.int .i64 f1, .slice A2 g1 k2] := by rw [← hW7]; exact (Blk.new wr _ _).row _
                                    rw [hW7]
                                    clear hW7
                                    have q147 : W7.cell? ⟨w.heap.size + 1, 4, none⟩ = some (.slice B n c2) := (hu7.cell (by show w.heap.size + 1 < _; omega) (fun f => f)).trans q14
                                    have hrb7 := hrb.old ((hD.up hu0r).old hu7) (by rw [Addr_add_block]; exact hbb)
                                    have HB7 := Lib.hid hb7
                                    clear hb7)
                                 | ((with_reducible refine this_op (.indexAddr 33 (.tmp 40) (.tmp 41)) ?_); refine wpList_index_at rfl 33 (.tmp 40) (.tmp 41) rfl _ b _ _ rfl HB.out j rfl hlt 50 Try.underlying33 2 cs_size ?_)
                                 | ((with_reducible refine this_op (.load 50 (.tmp 42)) ?_); refine wpList_at rfl 50 (.tmp 42) rfl (b.add (j * 2)) rfl _ _ hrb7 Try.underlying50 rfl cs_size ?_)
                                 | ((with_reducible refine this_op (.store 50 (.tmp 7) (.tmp 43)) ?_); refine wpList_store_row rfl 50 (.tmp 7) (.tmp 43) rfl W7.heap.size _ rfl rfl 50 _ (Blk.new W7 _ _) cs_size rfl ob ?_
                                    obtain ⟨W8, hW8⟩ : ∃ W8, (W7.alloc (.cells #[.int .i64 0, .slice none 0 0] 50)).setRow W7.heap.size #[.int .i64 f1, .slice B2 g1 k3] = W8 := ⟨_, rfl⟩
                                    have hu8 : Upd nob W7 W8 := by rw [← hW8]; exact ((Upd.refl nob W7).alloc _).setRow (.inr (Nat.le_refl _)) _
                                    have hb8 : Blk W8 W7.heap.size 50 #[.int .i64 f1, .slice B2 g1 k3] := by rw [← hW8]; exact (Blk.new W7 _ _).row _
                                    rw [hW8]
                                    clear hW8
                                    have hb78 := HB7.out.upd hu8 (fun f => f)
                                    have s0 : W8.cell? ⟨wr.heap.size, 0, none⟩ = some (.int .i64 f1) := hb78.cell 0
                                    have s1 : W8.cell? ⟨wr.heap.size, 1, none⟩ = some (.slice A2 g1 k2) := hb78.cell 1
                                    have s2 : W8.cell? ⟨W7.heap.size, 0, none⟩ = some (.int .i64 f1) := hb8.cell 0
                                    have s3 : W8.cell? ⟨W7.heap.size, 1, none⟩ = some (.slice B2 g1 k3) := hb8.cell 1
                                    have hlt7 := hb78.lt
                                    have hlt8 := hb8.lt
                                    clear hb78 hb8))
             have hdx := HDX2.out
             have hdx3 : decide (l1.drop 0 = l2.drop 0 ∧ as_.drop (j + 1) = bs.drop (j + 1)) = X := by
              rw [← hdx, List.drop_zero, List.drop_zero]
              simp only [List.cons.injEq, Prod.mk.injEq, true_and]
             have HI := Lib.hid hdx3
             have hw7s := hu7.size
             have hw8s := hu8.size
             have hu0r8 := (hu0r.trans hu7).trans hu8
             have hus8 := (hus.trans hu7).trans hu8
             have hj0 : n - (j + 1) < gk := by omega
             have HFA := Lib.hid hfa
             have HFB := Lib.hid hfb
             clear hdx hdx3 HDX2 s0 s2 hra hrb hrb7 q147 HB7 hfa hfb
             obtain ⟨wo, hwo⟩ : ∃ x : World, x = wr := ⟨_, rfl⟩
             subst hwo
             go_loopg [61] g1 (fun r v w9 => ∃ k : Nat, k + r = g1 ∧ v = .int .i64 k ∧ decide (l1.drop k = l2.drop k ∧ as_.drop (j + 1) = bs.drop (j + 1)) = X ∧ Upd nob W8 w9)
             case atStart => exact ⟨0, by omega, rfl, HI.out, Upd.refl _ _⟩
             case round =>
              clear HI
              obtain ⟨k, hk, rfl, hdx, hu9⟩ := hrel
              have hw9s := hu9.size
              have hu09 := hu0r8.trans hu9
              have z1 : wr.cell? ⟨wo.heap.size, 1, none⟩ = some (.slice A2 g1 k2) := (hu9.cell hlt7 (fun f => f)).trans s1
              have z3 : wr.cell? ⟨W7.heap.size, 1, none⟩ = some (.slice B2 g1 k3) := (hu9.cell hlt8 (fun f => f)).trans s3
              have HI := Lib.hid hdx
              clear hdx
              by_cases hkl : k < g1
              · have t8 : decide ((k : Int) < g1) = true := by simp [hkl]
                have hk1 : k < l1.length := by rw [HG1.out]; exact hkl
                have hk2 : k < l2.length := by rw [HG2.out]; exact hkl
                obtain ⟨a5, hA5, hab5, hr5⟩ := HFA.out k _ (List.getElem?_eq_getElem hk1)
                obtain ⟨b5, hB5, hbb5, hr6⟩ := HFB.out k _ (List.getElem?_eq_getElem hk2)
                have hd1 : l1.drop k = l1[k] :: l1.drop (k + 1) := List.drop_eq_getElem_cons hk1
                have hd2 : l2.drop k = l2[k] :: l2.drop (k + 1) := List.drop_eq_getElem_cons hk2
                have hdx := HI.out
                rw [hd1, hd2] at hdx
                obtain ⟨⟨x1, x2⟩, hx⟩ : ∃ x, l1[k] = x := ⟨_, rfl⟩
                obtain ⟨⟨y1, y2⟩, hy⟩ : ∃ x, l2[k] = x := ⟨_, rfl⟩
                rw [hx] at hdx hr5
                rw [hy] at hdx hr6
                simp only at hr5 hr6
                have hr5' := hr5.old (hD.old hu09) (by rw [Addr_add_block]; exact hab5)
                have hr6' := hr6.old (hD.old hu09) (by rw [Addr_add_block]; exact hbb5)
                have hbl5 := hD.up hu09 _ hab5
                have hbl6 := hD.up hu09 _ hbb5
                have HA5 := Lib.hid hA5
                have HB5 := Lib.hid hB5
                have HI2 := Lib.hid hdx
                clear hA5 hB5 hr5 hr6 hd1 hd2 hdx hx hy HI
                go_wp2_with fail
                refine wp_region_P (by kernel_rfl) ?_
                refine wpAny_of_held (S := fun X : World => ∀ p : Addr, p.block < wr.heap.size → X.cell? p = wr.cell? p) _ _ _ _ ?_
                have hS : ∀ p : Addr, p.block < wr.heap.size → wr.drew.cell? p = wr.cell? p := fun _ _ => rfl
                refine wpAnyH_take (i := 0) (v := ?_) rfl (by kernel_rfl) (by kernel_rfl) (by kernel_rfl) (fun _ _ _ h => h) (Or.inl ⟨by rfl, ?_⟩) hS ?_
                rotate_left
                · intro wx hx
                  clear hx
                  go_simp
                  with_reducible rfl
                try simp only [tl]
                refine wpAnyH_take (i := 1) (v := ?_) rfl (by kernel_rfl) (by kernel_rfl) (by kernel_rfl) (fun _ _ _ h => h) (Or.inl ⟨by rfl, ?_⟩) hS ?_
                rotate_left
                · intro wx hx
                  have q0 := (hx ⟨wo.heap.size, 1, none⟩ (by show wo.heap.size < _; omega)).trans z1
                  clear hx
                  go_simp
                  with_reducible rfl
                try simp only [tl]
                refine wpAnyH_take (i := 2) (v := ?_) rfl (by kernel_rfl) (by kernel_rfl) (by kernel_rfl) (fun _ _ _ h => h) (Or.inl ⟨by rfl, ?_⟩) hS ?_
                rotate_left
                · intro wx hx
                  clear hx
                  go_simp
                  with_reducible rfl
                try simp only [tl]
                refine wpAnyH_take (i := 3) (v := (.pointer (some (Addr.add a5 (k * 2))))) rfl (by kernel_rfl) (by kernel_rfl) (by kernel_rfl) (fun _ _ _ h => h) (Or.inl ⟨by rfl, ?_⟩) hS ?_
                · intro wx hx
                  exact run_index_at 48 (.tmp 65) (.tmp 66) rfl _ a5 _ _ rfl HA5.out k rfl hkl 52 Try.underlying48 2 fd_size
                try simp only [tl]
                refine wpAnyH_take (i := 4) (v := (.agg #[.int .i64 x1, .int .i64 x2])) rfl (by kernel_rfl) (by kernel_rfl) (by kernel_rfl) (fun _ _ _ h => h) (Or.inl ⟨by rfl, ?_⟩) hS ?_
                · intro wx hx
                  exact run_load_at 52 (.tmp 67) rfl (Addr.add a5 (k * 2)) rfl #[.int .i64 x1, .int .i64 x2] _ (row_on hr5' (by rw [Addr_add_block]; exact hbl5) hx) Try.underlying52 rfl fd_size
                try simp only [tl]
                refine wpAnyH_take (i := 5) (v := ?_) rfl (by kernel_rfl) (by kernel_rfl) (by kernel_rfl) (fun _ _ _ h => h) (Or.inl ⟨by rfl, ?_⟩) hS ?_
                rotate_left
                · intro wx hx
                  clear hx
                  go_simp
                  with_reducible rfl
                try simp only [tl]
                refine wpAnyH_take (i := 6) (v := ?_) rfl (by kernel_rfl) (by kernel_rfl) (by kernel_rfl) (fun _ _ _ h => h) (Or.inl ⟨by rfl, ?_⟩) hS ?_
                rotate_left
                · intro wx hx
                  have q0 := (hx ⟨W7.heap.size, 1, none⟩ (by show W7.heap.size < _; omega)).trans z3
                  clear hx
                  go_simp
                  with_reducible rfl
                try simp only [tl]
                refine wpAnyH_take (i := 7) (v := ?_) rfl (by kernel_rfl) (by kernel_rfl) (by kernel_rfl) (fun _ _ _ h => h) (Or.inl ⟨by rfl, ?_⟩) hS ?_
                rotate_left
                · intro wx hx
                  clear hx
                  go_simp
                  with_reducible rfl
                try simp only [tl]
                refine wpAnyH_take (i := 8) (v := (.pointer (some (Addr.add b5 (k * 2))))) rfl (by kernel_rfl) (by kernel_rfl) (by kernel_rfl) (fun _ _ _ h => h) (Or.inl ⟨by rfl, ?_⟩) hS ?_
                · intro wx hx
                  exact run_index_at 48 (.tmp 70) (.tmp 71) rfl _ b5 _ _ rfl HB5.out k rfl hkl 52 Try.underlying48 2 fd_size
                try simp only [tl]
                refine wpAnyH_take (i := 9) (v := (.agg #[.int .i64 y1, .int .i64 y2])) rfl (by kernel_rfl) (by kernel_rfl) (by kernel_rfl) (fun _ _ _ h => h) (Or.inl ⟨by rfl, ?_⟩) hS ?_
                · intro wx hx
                  exact run_load_at 52 (.tmp 72) rfl (Addr.add b5 (k * 2)) rfl #[.int .i64 y1, .int .i64 y2] _ (row_on hr6' (by rw [Addr_add_block]; exact hbl6) hx) Try.underlying52 rfl fd_size
                try simp only [tl]
                refine wpAnyH_take (i := 10) (v := (.bool (!(decide (x1 = y1) && decide (x2 = y2))))) rfl (by kernel_rfl) (by kernel_rfl) (by kernel_rfl) (fun _ _ _ h => h) (Or.inl ⟨by rfl, ?_⟩) hS ?_
                · intro wx hx
                  clear hx
                  go_simp
                  by_cases e1 : x1 = y1 <;> by_cases e2 : x2 = y2 <;> simp [e1, e2]
                try simp only [tl]
                refine wpAnyH_done (by kernel_rfl) ?_ _
                refine NoPanic.normal ?_
                by_cases hxy : x1 = y1 ∧ x2 = y2
                · obtain ⟨rfl, rfl⟩ := hxy
                  have hdx := HI2.out
                  have hd3 : decide (l1.drop (k + 1) = l2.drop (k + 1) ∧ as_.drop (j + 1) = bs.drop (j + 1)) = X := by rw [← hdx]; simp
                  have HD3 := Lib.hid hd3
                  have ev : (!(decide (x1 = x1) && decide (x2 = x2))) = false := by simp
                  rw [ev]
                  clear hdx HI2 hd3 ev
                  go_wp2_with fail
                  go_roundg (gk - 1)
                  case measure => omega
                  case rel => exact ⟨k + 1, by omega, by go_num, HD3.out, hu9.trans ((Upd.refl nob wr).drew)⟩
                · have hdx := HI2.out
                  have ev : (!(decide (x1 = y1) && decide (x2 = y2))) = true := by
                   by_cases e1 : x1 = y1
                   · have e2 : ¬ x2 = y2 := fun h => hxy ⟨e1, h⟩
                     simp [e2]
                   · simp [e1]
                  have e : X = false := by
                   rw [← hdx]
                   have : ((x1, x2) :: l1.drop (k + 1) : List (Int × Int)) ≠ (y1, y2) :: l2.drop (k + 1) := fun h => by
                    injection h with h1 h2
                    injection h1 with h3 h4
                    exact hxy ⟨h3, h4⟩
                   simp only [this, false_and, decide_false]
                  rw [ev]
                  subst e
                  clear hdx HI2 hxy ev
                  go_wp2_with fail
                  go_ret
                  exact ⟨rfl, (hu09.trans ((Upd.refl nob wr).drew)).below⟩
              · have t8 : decide ((k : Int) < g1) = false := by simp; omega
                have hdx := HI.out
                rw [List.drop_eq_nil_of_le (by rw [HG1.out]; omega), List.drop_eq_nil_of_le (by rw [HG2.out]; omega)] at hdx
                have hd3 : decide (as_.drop (j + 1) = bs.drop (j + 1)) = X := by rw [← hdx]; simp
                have HD3 := Lib.hid hd3
                clear hdx HI hd3
                go_wp2_with fail
                go_roundg (n - (j + 1))
                case measure => exact hj0
                case rel => exact ⟨j + 1, by omega, by go_num, HD3.out, hus8.trans hu9⟩
           · have t4 : ((g1 : Int) != g2) = true := by simp; omega
             have hdx := HDX2.out
             have e : X = false := by
              rw [← hdx]
              have : l1 ≠ l2 := fun h => hg (by rw [← HG1.out, ← HG2.out, h])
              simp [this]
             subst e
             clear hdx HDX2 hg hf
             go_wp2_with (first
                                 | ((with_reducible refine this_op (.indexAddr 33 (.tmp 32) (.tmp 34)) ?_); refine wpList_index_at rfl 33 (.tmp 32) (.tmp 34) rfl _ a _ _ rfl HA.out j rfl hlt 50 Try.underlying33 2 cs_size ?_)
                                 | ((with_reducible refine this_op (.load 50 (.tmp 37)) ?_); refine wpList_at rfl 50 (.tmp 37) rfl (a.add (j * 2)) rfl _ _ hra Try.underlying50 rfl cs_size ?_)
                                 | ((with_reducible refine this_op (.store 50 (.tmp 6) (.tmp 38)) ?_); refine wpList_store_row rfl 50 (.tmp 6) (.tmp 38) rfl wr.heap.size _ rfl rfl 50 _ (Blk.new wr _ _) cs_size rfl oa ?_
                                    obtain ⟨W7, hW7⟩ : ∃ W7, (wr.alloc (.cells #[.int .i64 0, .slice none 0 0] 50)).setRow wr.heap.size #[.int .i64 f1, .slice A2 g1 k2] = W7 := ⟨_, rfl⟩
                                    have hu7 : Upd nob wr W7 := by rw [← hW7]; exact ((Upd.refl nob wr).alloc _).setRow (.inr (Nat.le_refl _)) _
                                    have hb7 : Blk W7 wr.heap.size 50 #[.int .i64 f1, .slice A2 g1 k2] := by rw [← hW7]; exact (Blk.new wr _ _).row _
                                    rw [hW7]
                                    clear hW7
                                    have q147 : W7.cell? ⟨w.heap.size + 1, 4, none⟩ = some (.slice B n c2) := (hu7.cell (by show w.heap.size + 1 < _; omega) (fun f => f)).trans q14
                                    have hrb7 := hrb.old ((hD.up hu0r).old hu7) (by rw [Addr_add_block]; exact hbb)
                                    have HB7 := Lib.hid hb7
                                    clear hb7)
                                 | ((with_reducible refine this_op (.indexAddr 33 (.tmp 40) (.tmp 41)) ?_); refine wpList_index_at rfl 33 (.tmp 40) (.tmp 41) rfl _ b _ _ rfl HB.out j rfl hlt 50 Try.underlying33 2 cs_size ?_)
                                 | ((with_reducible refine this_op (.load 50 (.tmp 42)) ?_); refine wpList_at rfl 50 (.tmp 42) rfl (b.add (j * 2)) rfl _ _ hrb7 Try.underlying50 rfl cs_size ?_)
                                 | ((with_reducible refine this_op (.store 50 (.tmp 7) (.tmp 43)) ?_); refine wpList_store_row rfl 50 (.tmp 7) (.tmp 43) rfl W7.heap.size _ rfl rfl 50 _ (Blk.new W7 _ _) cs_size rfl ob ?_
                                    obtain ⟨W8, hW8⟩ : ∃ W8, (W7.alloc (.cells #[.int .i64 0, .slice none 0 0] 50)).setRow W7.heap.size #[.int .i64 f2, .slice B2 g2 k3] = W8 := ⟨_, rfl⟩
                                    have hu8 : Upd nob W7 W8 := by rw [← hW8]; exact ((Upd.refl nob W7).alloc _).setRow (.inr (Nat.le_refl _)) _
                                    have hb8 : Blk W8 W7.heap.size 50 #[.int .i64 f2, .slice B2 g2 k3] := by rw [← hW8]; exact (Blk.new W7 _ _).row _
                                    rw [hW8]
                                    clear hW8
                                    have hb78 := HB7.out.upd hu8 (fun f => f)
                                    have s0 : W8.cell? ⟨wr.heap.size, 0, none⟩ = some (.int .i64 f1) := hb78.cell 0
                                    have s1 : W8.cell? ⟨wr.heap.size, 1, none⟩ = some (.slice A2 g1 k2) := hb78.cell 1
                                    have s2 : W8.cell? ⟨W7.heap.size, 0, none⟩ = some (.int .i64 f2) := hb8.cell 0
                                    have s3 : W8.cell? ⟨W7.heap.size, 1, none⟩ = some (.slice B2 g2 k3) := hb8.cell 1
                                    have hlt7 := hb78.lt
                                    have hlt8 := hb8.lt
                                    clear hb78 hb8))
             go_ret
             exact ⟨rfl, ((hu0r.trans hu7).trans hu8).below⟩
         · have t3 : (f1 != f2) = true := by simpa using hf
           have hdx := HDX2.out
           have e : X = false := by rw [← hdx]; simp [hf]
           subst e
           clear hdx HDX2 hf
           go_wp2_with (first
                             | ((with_reducible refine this_op (.indexAddr 33 (.tmp 32) (.tmp 34)) ?_); refine wpList_index_at rfl 33 (.tmp 32) (.tmp 34) rfl _ a _ _ rfl HA.out j rfl hlt 50 Try.underlying33 2 cs_size ?_)
                             | ((with_reducible refine this_op (.load 50 (.tmp 37)) ?_); refine wpList_at rfl 50 (.tmp 37) rfl (a.add (j * 2)) rfl _ _ hra Try.underlying50 rfl cs_size ?_)
                             | ((with_reducible refine this_op (.store 50 (.tmp 6) (.tmp 38)) ?_); refine wpList_store_row rfl 50 (.tmp 6) (.tmp 38) rfl wr.heap.size _ rfl rfl 50 _ (Blk.new wr _ _) cs_size rfl oa ?_
                                obtain ⟨W7, hW7⟩ : ∃ W7, (wr.alloc (.cells #[.int .i64 0, .slice none 0 0] 50)).setRow wr.heap.size #[.int .i64 f1, .slice A2 g1 k2] = W7 := ⟨_, rfl⟩
                                have hu7 : Upd nob wr W7 := by rw [← hW7]; exact ((Upd.refl nob wr).alloc _).setRow (.inr (Nat.le_refl _)) _
                                have hb7 : Blk W7 wr.heap.size 50 #[.int .i64 f1, .slice A2 g1 k2] := by rw [← hW7]; exact (Blk.new wr _ _).row _
                                rw [hW7]
                                clear hW7
                                have q147 : W7.cell? ⟨w.heap.size + 1, 4, none⟩ = some (.slice B n c2) := (hu7.cell (by show w.heap.size + 1 < _; omega) (fun f => f)).trans q14
                                have hrb7 := hrb.old ((hD.up hu0r).old hu7) (by rw [Addr_add_block]; exact hbb)
                                have HB7 := Lib.hid hb7
                                clear hb7)
                             | ((with_reducible refine this_op (.indexAddr 33 (.tmp 40) (.tmp 41)) ?_); refine wpList_index_at rfl 33 (.tmp 40) (.tmp 41) rfl _ b _ _ rfl HB.out j rfl hlt 50 Try.underlying33 2 cs_size ?_)
                             | ((with_reducible refine this_op (.load 50 (.tmp 42)) ?_); refine wpList_at rfl 50 (.tmp 42) rfl (b.add (j * 2)) rfl _ _ hrb7 Try.underlying50 rfl cs_size ?_)
                             | ((with_reducible refine this_op (.store 50 (.tmp 7) (.tmp 43)) ?_); refine wpList_store_row rfl 50 (.tmp 7) (.tmp 43) rfl W7.heap.size _ rfl rfl 50 _ (Blk.new W7 _ _) cs_size rfl ob ?_
                                obtain ⟨W8, hW8⟩ : ∃ W8, (W7.alloc (.cells #[.int .i64 0, .slice none 0 0] 50)).setRow W7.heap.size #[.int .i64 f2, .slice B2 g2 k3] = W8 := ⟨_, rfl⟩
                                have hu8 : Upd nob W7 W8 := by rw [← hW8]; exact ((Upd.refl nob W7).alloc _).setRow (.inr (Nat.le_refl _)) _
                                have hb8 : Blk W8 W7.heap.size 50 #[.int .i64 f2, .slice B2 g2 k3] := by rw [← hW8]; exact (Blk.new W7 _ _).row _
                                rw [hW8]
                                clear hW8
                                have hb78 := HB7.out.upd hu8 (fun f => f)
                                have s0 : W8.cell? ⟨wr.heap.size, 0, none⟩ = some (.int .i64 f1) := hb78.cell 0
                                have s1 : W8.cell? ⟨wr.heap.size, 1, none⟩ = some (.slice A2 g1 k2) := hb78.cell 1
                                have s2 : W8.cell? ⟨W7.heap.size, 0, none⟩ = some (.int .i64 f2) := hb8.cell 0
                                have s3 : W8.cell? ⟨W7.heap.size, 1, none⟩ = some (.slice B2 g2 k3) := hb8.cell 1
                                have hlt7 := hb78.lt
                                have hlt8 := hb8.lt
                                clear hb78 hb8))
           go_ret
           exact ⟨rfl, ((hu0r.trans hu7).trans hu8).below⟩
       · have t2 : decide ((j : Int) < n) = false := by simp; omega
         have hdx := HDX.out
         rw [List.drop_eq_nil_of_le (by rw [HN.out]; omega), List.drop_eq_nil_of_le (by rw [HM.out]; omega)] at hdx
         have e : X = true := by rw [← hdx]; simp
         subst e
         clear hdx HDX
         go_wp2_with fail
         go_ret
         exact ⟨rfl, hu0r.below⟩
    · have t2 : ((n : Int) != m) = true := by simp; omega
      have e : X = false := by
       rw [← HX3.out]
       have : as_ ≠ bs := fun h => hnm (by rw [← HN.out, ← HM.out, h])
       simp [this]
      subst e
      clear HX3 hnm
      go_wp2_with fail
      go_ret
      exact ⟨rfl, hu03.below⟩
 · have t1 : (i1 != i2) = true := by simpa using hi
   have e : X = false := by rw [← HX.out]; simp [hi]
   subst e
   clear HX hi
   go_enter Try.func12, Try.ntmps12
   go_wp2_with fail
   go_ret
   rw [HW1.out]
   exact ⟨rfl, huW1.below⟩
end Go.Proofs.Ytiampoebdmflgaa

/- The law's light; the reference's Sort, Bind. -/
namespace Go.Proofs.Ytiampoebdmflgaa
open Go.RowKit
set_option linter.unusedVariables false
set_option maxRecDepth 100000
set_option maxHeartbeats 4000000
set_option linter.unusedSimpArgs false
theorem light_any (dk : Int) (nm : ByteArray) (vs pa : Int) (a0 a1 a2 a3 a4 a5 a6 a7 b0 b1 b2 b3 b4 b5 b6 b7 : Value) (cA : Option Addr) (M cc : Nat) (w : World) :
    Calls Try.prog 8 #[.slice none 0 0, .agg #[.int .i64 dk, .string nm, .int .i64 vs, a0, a1, a2, a3, a4, a5, a6, a7, b0, b1, b2, b3, b4, b5, b6, b7, .int .i64 pa, .slice cA M cc]] w fun e w' => e = .returned (.bool (decide ((M : Int) ≤ 20))) ∧ Below w.heap.size w w' := by
 by_cases hM : M ≤ 20
 · have t1 : decide ((M : Int) ≤ 20) = true := by simp; omega
   rw [t1]
   go_enter Try.func8, Try.ntmps8
   go_wp2_with fail
   refine wp_loop_once ?_
   go_wp2_with fail
   go_ret
   exact ⟨rfl, ((Upd.refl nob w).alloc _).below⟩
 · have t1 : decide ((M : Int) ≤ 20) = false := by simp; omega
   rw [t1]
   go_enter Try.func8, Try.ntmps8
   go_wp2_with fail
   refine wp_loop_once ?_
   go_wp2_with fail
   go_ret
   exact ⟨rfl, ((Upd.refl nob w).alloc _).below⟩
theorem rsort_any (k n : Int) (A : Option Addr) (q c : Nat) (w : World) :
    Calls Try.prog 20 #[.agg #[.int .i64 k, .int .i64 n, .slice A q c]] w fun e w' => e = .returned (.agg #[.int .i64 2, .int .i64 0, .string ByteArray.empty, .int .i64 k, .int .i64 n, .slice A q c, .slice none 0 0, .slice none 0 0]) ∧ Below w.heap.size w w' := by
 have hz := tm_zero
 go_enter Try.func20, Try.ntmps20
 go_wp2
 have hb := Blk.new (w.alloc (.cells #[.int .i64 k, .int .i64 n, .slice A q c] 24)) 27 #[.int .i64 2, .int .i64 0, .string ByteArray.empty, .int .i64 k, .int .i64 n, .slice A q c, .slice none 0 0, .slice none 0 0]
 rw [World.size_alloc] at hb
 refine bodyPost_ret (results_cell_row rfl _ _ (w.heap.size + 1) 27 #[.int .i64 2, .int .i64 0, .string ByteArray.empty, .int .i64 k, .int .i64 n, .slice A q c, .slice none 0 0, .slice none 0 0] (0, 0) _ rfl hb Try.underlying27 rfl tm_size) rfl ?_
 exact ⟨rfl, (((Upd.refl nob w).alloc _).alloc _).below⟩
end Go.Proofs.Ytiampoebdmflgaa

/- The reference's Bind. -/
namespace Go.Proofs.Ytiampoebdmflgaa
open Go.RowKit
set_option linter.unusedVariables false
set_option maxRecDepth 100000
set_option maxHeartbeats 4000000
set_option linter.unusedSimpArgs false
/-- Two rows one behind the other. -/
theorem two_rows (c1 c2 : Array Value) (w : World) (g : Nat) (t : TypeId) (h : Blk w g t (c1 ++ c2)) (h1 : c1.size = 8) : rowAt w ((⟨g, 0, none⟩ : Addr).add (0 * 8)) c1 ∧ rowAt w ((⟨g, 0, none⟩ : Addr).add (1 * 8)) c2 := by
 refine ⟨sub_row h.rowAt _ _ fun j v hv => ?_, sub_row h.rowAt _ _ fun j v hv => ?_⟩
 · have hj : j < c1.size := (Array.getElem?_eq_some_iff.1 hv).1
   rw [Nat.zero_mul, Nat.zero_add, Array.getElem?_append_left hj]; exact hv
 · rw [Array.getElem?_append_right (by omega), h1, Nat.one_mul, Nat.add_sub_cancel_left]; exact hv
theorem rbind_any (k : Int) (hk : InI k) (x y : Tm) (ca cb : Array Value) (D : Nat → Prop) (w : World) (hD : Within D w) (ha : TmIs D w x ca) (hb : TmIs D w y cb) :
    Calls Try.prog 18 #[.int .i64 k, .agg ca, .agg cb] w fun e w' => ∃ cs', e = .returned (.agg cs') ∧ TmIs (grow D w w') w' (.mk k 0 ByteArray.empty lzero' [] [x, y]) cs' ∧ Below w.heap.size w w' := by
 have hz := tm_zero
 have HA := Lib.hid ha
 have HB := Lib.hid hb
 obtain ⟨x1, y1, z1, A1, c1, A2, c2, hca, _, _, _, _, _, _, _, _⟩ := ha.lit
 obtain ⟨x2, y2, z2, B1, d1, B2, d2, hcb, _, _, _, _, _, _, _, _⟩ := hb.lit
 clear ha hb
 subst hca; subst hcb
 have hb1 := Blk.new (w.alloc (.cells #[.int .i64 x.k, .int .i64 x.n, .string x.nm, x1, y1, z1, .slice A1 x.ls.length c1, .slice A2 x.ks.length c2] 27) |>.alloc (.cells #[.int .i64 y.k, .int .i64 y.n, .string y.nm, x2, y2, z2, .slice B1 y.ls.length d1, .slice B2 y.ks.length d2] 27))
  27 #[.int .i64 k, .int .i64 0, .string ByteArray.empty, .int .i64 0, .int .i64 0, .slice none 0 0, .slice none 0 0, .slice (some ⟨w.heap.size + 1 + 1 + 1, 0, none⟩) 2 2]
 have hb2 := hb1.alloc (.cells #[.int .i64 x.k, .int .i64 x.n, .string x.nm, x1, y1, z1, .slice A1 x.ls.length c1, .slice A2 x.ks.length c2, .int .i64 y.k, .int .i64 y.n, .string y.nm, x2, y2, z2, .slice B1 y.ls.length d1, .slice B2 y.ks.length d2] 27)
 have hb3 := Blk.new (((w.alloc (.cells #[.int .i64 x.k, .int .i64 x.n, .string x.nm, x1, y1, z1, .slice A1 x.ls.length c1, .slice A2 x.ks.length c2] 27)).alloc (.cells #[.int .i64 y.k, .int .i64 y.n, .string y.nm, x2, y2, z2, .slice B1 y.ls.length d1, .slice B2 y.ks.length d2] 27)).alloc
  (.cells #[.int .i64 k, .int .i64 0, .string ByteArray.empty, .int .i64 0, .int .i64 0, .slice none 0 0, .slice none 0 0, .slice (some ⟨w.heap.size + 1 + 1 + 1, 0, none⟩) 2 2] 27)) 27
  (#[.int .i64 x.k, .int .i64 x.n, .string x.nm, x1, y1, z1, .slice A1 x.ls.length c1, .slice A2 x.ks.length c2] ++ #[.int .i64 y.k, .int .i64 y.n, .string y.nm, x2, y2, z2, .slice B1 y.ls.length d1, .slice B2 y.ks.length d2])
 simp only [World.size_alloc] at hb1 hb2 hb3
 obtain ⟨r1, r2⟩ := two_rows _ _ _ _ _ hb3 rfl
 have HR1 := Lib.hid r1
 have HR2 := Lib.hid r2
 have HB2 := Lib.hid hb2
 clear hb1 hb2 hb3 r1 r2
 go_enter Try.func18, Try.ntmps18
 go_wp2_with fail
 have hu : Upd nob w ((((w.alloc (.cells #[.int .i64 x.k, .int .i64 x.n, .string x.nm, x1, y1, z1, .slice A1 x.ls.length c1, .slice A2 x.ks.length c2] 27)).alloc (.cells #[.int .i64 y.k, .int .i64 y.n, .string y.nm, x2, y2, z2, .slice B1 y.ls.length d1, .slice B2 y.ks.length d2] 27)).alloc
  (.cells #[.int .i64 k, .int .i64 0, .string ByteArray.empty, .int .i64 0, .int .i64 0, .slice none 0 0, .slice none 0 0, .slice (some ⟨w.heap.size + 1 + 1 + 1, 0, none⟩) 2 2] 27)).alloc
  (.cells #[.int .i64 x.k, .int .i64 x.n, .string x.nm, x1, y1, z1, .slice A1 x.ls.length c1, .slice A2 x.ks.length c2, .int .i64 y.k, .int .i64 y.n, .string y.nm, x2, y2, z2, .slice B1 y.ls.length d1, .slice B2 y.ks.length d2] 27)) :=
  ((((Upd.refl nob w).alloc _).alloc _).alloc _).alloc _
 refine bodyPost_ret (results_cell_row rfl _ _ (w.heap.size + 1 + 1) 27 _ (0, 0) _ rfl HB2.out Try.underlying27 rfl tm_size) rfl ?_
 have hg : grow D w ((((w.alloc (.cells #[.int .i64 x.k, .int .i64 x.n, .string x.nm, x1, y1, z1, .slice A1 x.ls.length c1, .slice A2 x.ks.length c2] 27)).alloc (.cells #[.int .i64 y.k, .int .i64 y.n, .string y.nm, x2, y2, z2, .slice B1 y.ls.length d1, .slice B2 y.ks.length d2] 27)).alloc
  (.cells #[.int .i64 k, .int .i64 0, .string ByteArray.empty, .int .i64 0, .int .i64 0, .slice none 0 0, .slice none 0 0, .slice (some ⟨w.heap.size + 1 + 1 + 1, 0, none⟩) 2 2] 27)).alloc
  (.cells #[.int .i64 x.k, .int .i64 x.n, .string x.nm, x1, y1, z1, .slice A1 x.ls.length c1, .slice A2 x.ks.length c2, .int .i64 y.k, .int .i64 y.n, .string y.nm, x2, y2, z2, .slice B1 y.ls.length d1, .slice B2 y.ks.length d2] 27)) (w.heap.size + 1 + 1 + 1) :=
  .inr ⟨by omega, by simp only [World.size_alloc]; omega⟩
 refine ⟨_, rfl, ?_, hu.below⟩
 simp only [TmIs]
 refine ⟨_, _, _, none, 0, some ⟨w.heap.size + 1 + 1 + 1, 0, none⟩, 2, rfl, hk, by unfold InI; omega, by simp, lzero_is _ _, ⟨by simp, Nat.zero_le _⟩, by simp only [LvsAt], ⟨by simp, by simp⟩, ?_⟩
 simp only [TmsAt]
 exact ⟨⟨_, _, rfl, hg, HR1.out, HA.out.old (hD.old hu) (fun _ h => .inl h)⟩, ⟨_, _, rfl, hg, HR2.out, HB.out.old (hD.old hu) (fun _ h => .inl h)⟩, trivial⟩
end Go.Proofs.Ytiampoebdmflgaa

/- Plain law: the program's sums of levels and the reference's forms. -/
namespace Go.Proofs.Ytiampoebdmflgaa
open Go.RowKit
set_option linter.unusedVariables false
set_option maxHeartbeats 1000000
/-- No variable is left out at the end. -/
def Nm.Tidy (n : Nm) : Prop := ∀ h : n.ks ≠ [], 0 ≤ n.ks.getLast h
theorem trimN_full {ks : List Int} (h : ∀ hh : ks ≠ [], 0 ≤ ks.getLast hh) : trimN ks ks.length = ks.length := by
 cases hl : ks.length with
 | zero => rfl
 | succ m =>
  have hne : ks ≠ [] := fun h0 => by rw [h0] at hl; cases hl
  have h1 := h hne
  rw [trimN]
  have h2 : ks.getD m 0 = ks.getLast hne := by
   rw [List.getLast_eq_getElem, List.getD_eq_getElem?_getD, List.getElem?_eq_getElem (by omega)]
   simp only [Option.getD_some]
   congr 1
   omega
  rw [h2, if_neg (by omega)]
theorem Nm.tks_full {n : Nm} (h : n.Tidy) : n.tks = n.ks := by
 unfold Nm.tks
 rw [trimN_full h, List.take_length]
/-- Is the constant covered? -/
def cov (c : Int) (l : List Int) : Bool := l.any fun x => decide (c ≤ x)
theorem cov_iff {c : Int} {l : List Int} : cov c l = true ↔ ∃ x ∈ l, c ≤ x := by simp [cov]
theorem fold_cov : ∀ (l : List Int) (c : Int), 0 ≤ c → (l.foldl tstep c = if cov c l = true then 0 else c)
 | [], c, _ => by simp [cov]
 | x :: l, c, hc => by
  rw [List.foldl_cons, tstep]
  by_cases h : c ≤ x
  · rw [if_pos h, fold_cov l 0 (Int.le_refl _), if_pos (cov_iff.2 ⟨x, List.mem_cons_self, h⟩)]
    split <;> rfl
  · have e : cov c (x :: l) = cov c l := by simp [cov, h]
    rw [if_neg h, fold_cov l c hc, e]
theorem foldl_max_le : ∀ (l : List Int) (x c : Int), c ≤ l.foldl max x ↔ c ≤ x ∨ cov c l = true
 | [], x, c => by simp [cov]
 | y :: l, x, c => by
  rw [List.foldl_cons, foldl_max_le l (max x y) c]
  have e : cov c (y :: l) = true ↔ c ≤ y ∨ cov c l = true := by simp [cov]
  rw [e]
  constructor
  · rintro (h | h)
    · by_cases h2 : c ≤ x
      · exact .inl h2
      · exact .inr (.inl (by omega))
    · exact .inr (.inr h)
  · rintro (h | h | h)
    · exact .inl (by omega)
    · exact .inl (by omega)
    · exact .inr h
theorem lmax_cov {l : List Int} {c : Int} (h : l ≠ []) : c ≤ lmax l ↔ cov c l = true := by
 cases l with
 | nil => exact absurd rfl h
 | cons x xs =>
  have e : cov c (x :: xs) = true ↔ c ≤ x ∨ cov c xs = true := by simp [cov]
  rw [e]
  exact foldl_max_le xs x c
theorem Nm.short_eq {n : Nm} (h : n.Tidy) : n.short = ⟨if cov n.c n.ks = true then 0 else n.c, n.ks⟩ := by
 unfold Nm.short
 rw [trimN_full h, List.take_length]
 by_cases hne : n.ks = []
 · rw [if_neg (fun hh => hh.1 hne), if_neg (by rw [hne]; simp [cov])]
 · by_cases hc : n.c ≤ lmax n.ks
   · rw [if_pos ⟨hne, hc⟩, if_pos ((lmax_cov hne).1 hc)]
   · rw [if_neg (fun hh => hc hh.2), if_neg (fun hh => hc ((lmax_cov hne).2 hh))]
theorem Nm.tidy_eq {n : Nm} (h : n.Tidy) (h0 : 0 ≤ n.c) : n.tidy = ⟨if cov n.c n.ks = true then 0 else n.c, n.ks⟩ := by
 unfold Nm.tidy
 rw [Nm.tks_full h, fold_cov _ _ h0]
theorem rplus1_eq (k : Int) : rplus1 k = plus1 k := by
 funext x
 unfold rplus1 plus1
 split
 · omega
 · rfl
theorem Nm.Tidy.map {n : Nm} (h : n.Tidy) {k : Int} (hk : 0 ≤ k) (c : Int) : (Nm.mk c (n.ks.map (plus1 k))).Tidy := by
 intro hne
 have hne0 : n.ks ≠ [] := fun h0 => hne (by simp [h0])
 have h1 := h hne0
 simp only [List.getLast_map]
 unfold plus1
 rw [if_pos h1]
 omega
theorem cov_last {n : Nm} (h : n.Tidy) (hne : n.ks ≠ []) : cov 0 n.ks = true := cov_iff.2 ⟨_, List.getLast_mem hne, h hne⟩
theorem cov_map {c k : Int} {l : List Int} (hc : 0 ≤ c) (h : cov c l = true) : cov (min 1099511627776 (c + k)) (l.map (plus1 k)) = true := by
 obtain ⟨x, hx, h2⟩ := cov_iff.1 h
 refine cov_iff.2 ⟨plus1 k x, List.mem_map_of_mem hx, ?_⟩
 unfold plus1
 rw [if_pos (by omega)]
 omega
/-- short and plus change places. -/
theorem Nm.short_plus {n : Nm} (h : n.Tidy) (hok : n.Ok) {k : Int} (hk : 1 ≤ k) : n.short.rplus k = (n.plus k).short := by
 have hc := hok.1.1
 have hT : (n.plus k).Tidy := h.map (by omega) _
 have hTm : ∀ c, (Nm.mk c (n.ks.map (plus1 k))).Tidy := fun c => h.map (by omega) c
 have eS : n.short.c = if cov n.c n.ks = true then 0 else n.c := by rw [Nm.short_eq h]
 have eK : n.short.ks = n.ks := by rw [Nm.short_eq h]
 obtain ⟨S, hS⟩ : ∃ S, n.short.c = S := ⟨_, rfl⟩
 have eL : n.short.rplus k = (Nm.mk (if n.ks = [] ∨ 0 < S then min (S + k) 1099511627776 else S) (n.ks.map (plus1 k))).tidy := by
  unfold Nm.rplus Nm.rpl
  rw [rplus1_eq, hS, eK]
 have eR : (n.plus k).short = ⟨if cov (min 1099511627776 (n.c + k)) (n.ks.map (plus1 k)) = true then 0 else min 1099511627776 (n.c + k), n.ks.map (plus1 k)⟩ := Nm.short_eq hT
 rw [eL, eR]
 rw [hS] at eS
 by_cases hne : n.ks = []
 · have e1 : cov n.c n.ks = false := by rw [hne]; rfl
   rw [e1] at eS
   have e2 : S = n.c := eS
   subst e2
   rw [if_pos (.inl hne), Nm.tidy_eq (hTm _) (by show 0 ≤ min (n.c + k) 1099511627776; omega)]
   have e3 : min (n.c + k) 1099511627776 = min 1099511627776 (n.c + k) := by omega
   rw [e3]
 · cases hcv : cov n.c n.ks with
   | true =>
    rw [hcv] at eS
    have e2 : S = 0 := eS
    subst e2
    rw [if_neg (fun hh => hh.elim hne (fun h2 => by omega)), Nm.tidy_eq (hTm _) (Int.le_refl _), if_pos (cov_map hc hcv)]
    simp only
    congr 1
    split <;> rfl
   | false =>
    have hc0 : 0 < n.c := by
     rcases Int.lt_or_eq_of_le hc with h1 | h1
     · exact h1
     · rw [← h1, cov_last h hne] at hcv; cases hcv
    rw [hcv] at eS
    have e2 : S = n.c := eS
    subst e2
    rw [if_pos (.inr hc0), Nm.tidy_eq (hTm _) (by show 0 ≤ min (n.c + k) 1099511627776; omega)]
    have e3 : min (n.c + k) 1099511627776 = min 1099511627776 (n.c + k) := by omega
    rw [e3]
theorem orK_short {n m : Nm} (h : n.Tidy) (k : m.Tidy) : orK n.short m.short = orK n m := by
 rw [Nm.short_eq h, Nm.short_eq k]
 rfl
theorem mem_at {n : Nm} {x : Int} (h : x ∈ n.ks) : ∃ i, i < n.ks.length ∧ n.at_ i = x := by
 obtain ⟨i, hi, rfl⟩ := List.getElem_of_mem h
 exact ⟨i, hi, by unfold Nm.at_; simp [hi]⟩
theorem orK_left {n m : Nm} {x : Int} (h : x ∈ n.ks) : ∃ y ∈ orK n m, x ≤ y := by
 obtain ⟨i, hi, rfl⟩ := mem_at h
 exact ⟨max (n.at_ i) (m.at_ i), List.mem_map.2 ⟨i, List.mem_range.2 (by omega), rfl⟩, by omega⟩
theorem orK_right {n m : Nm} {x : Int} (h : x ∈ m.ks) : ∃ y ∈ orK n m, x ≤ y := by
 obtain ⟨i, hi, rfl⟩ := mem_at h
 exact ⟨max (n.at_ i) (m.at_ i), List.mem_map.2 ⟨i, List.mem_range.2 (by omega), rfl⟩, by omega⟩
theorem at_last {n : Nm} (hne : n.ks ≠ []) : n.at_ (n.ks.length - 1) = n.ks.getLast hne := by
 have hp := List.length_pos_iff.2 hne
 unfold Nm.at_
 rw [List.getLast_eq_getElem, List.getD_eq_getElem?_getD, List.getElem?_eq_getElem (by omega)]
 rfl
theorem or_tidy {n m : Nm} (h : n.Tidy) (k : m.Tidy) (c : Int) : (Nm.mk c (orK n m)).Tidy := by
 intro hne
 have hl : (orK n m).length = max n.ks.length m.ks.length := by simp [orK]
 have hp : 0 < (orK n m).length := List.length_pos_iff.2 hne
 rw [List.getLast_eq_getElem]
 have e : (orK n m)[(orK n m).length - 1]'(by omega) = max (n.at_ ((orK n m).length - 1)) (m.at_ ((orK n m).length - 1)) := by
  simp [orK]
 show 0 ≤ (orK n m)[(orK n m).length - 1]'(by omega)
 rw [e, hl]
 by_cases hnm : m.ks.length ≤ n.ks.length
 · have hn : n.ks ≠ [] := fun h0 => by rw [h0] at hnm hl; simp at hnm hl; rw [hnm] at hl; simp at hl; rw [hl] at hp; simp at hp
   have e2 : max n.ks.length m.ks.length = n.ks.length := by omega
   rw [e2, at_last hn]
   have := h hn; omega
 · have hm : m.ks ≠ [] := fun h0 => by rw [h0] at hnm; simp at hnm
   have e2 : max n.ks.length m.ks.length = m.ks.length := by omega
   rw [e2, at_last hm]
   have := k hm; omega
/-- short and or change places. -/
theorem Nm.short_or {n m : Nm} (h : n.Tidy) (k : m.Tidy) (hn : n.Ok) (hm : m.Ok) : n.short.rboth m.short = (n.or m).short := by
 have hc := hn.1.1
 have hd := hm.1.1
 rw [Nm.short_eq (n := n.or m) (or_tidy h k _)]
 unfold Nm.rboth Nm.or
 rw [orK_short h k]
 have eC : n.short.c = if cov n.c n.ks = true then 0 else n.c := by rw [Nm.short_eq h]
 have eD : m.short.c = if cov m.c m.ks = true then 0 else m.c := by rw [Nm.short_eq k]
 have bC : 0 ≤ n.short.c ∧ n.short.c ≤ n.c := by rw [eC]; split <;> omega
 have bD : 0 ≤ m.short.c ∧ m.short.c ≤ m.c := by rw [eD]; split <;> omega
 rw [Nm.tidy_eq (or_tidy h k _) (by show 0 ≤ max n.short.c m.short.c; omega)]
 simp only
 cases hcv : cov (max n.c m.c) (orK n m) with
 | true =>
  obtain ⟨x, hx, h2⟩ := cov_iff.1 hcv
  rw [if_pos (cov_iff.2 ⟨x, hx, by omega⟩), if_pos rfl]
 | false =>
  have hno : ∀ x ∈ orK n m, ¬ max n.c m.c ≤ x := fun x hx h2 => by rw [cov_iff.2 ⟨x, hx, h2⟩] at hcv; cases hcv
  have e : max n.short.c m.short.c = max n.c m.c := by
   by_cases hcd : m.c ≤ n.c
   · have e1 : cov n.c n.ks = false := by
       cases h3 : cov n.c n.ks with
       | false => rfl
       | true =>
        obtain ⟨x, hx, h2⟩ := cov_iff.1 h3
        obtain ⟨y, hy, h4⟩ := orK_left (m := m) hx
        exact absurd (by omega) (hno y hy)
     rw [e1, if_neg (by decide)] at eC
     omega
   · have e1 : cov m.c m.ks = false := by
       cases h3 : cov m.c m.ks with
       | false => rfl
       | true =>
        obtain ⟨x, hx, h2⟩ := cov_iff.1 h3
        obtain ⟨y, hy, h4⟩ := orK_right (n := n) hx
        exact absurd (by omega) (hno y hy)
     rw [e1, if_neg (by decide)] at eD
     omega
  rw [e, hcv]
theorem lof_good (l : Lv) : LOk l → (lof [] l).Ok ∧ (lof [] l).Tidy ∧ rnorm l = (lof [] l).short := by
 induction l using Lv.ind with
 | h k n ks ih =>
  intro hok
  simp only [LOk] at hok
  obtain ⟨hr, hoks⟩ := hok
  rcases lright_cases hr with ⟨h1, h0, hn0, hn1⟩ | ⟨h1, h0, hn0, hn1⟩ | ⟨h1, h0, hn0, hn1⟩ | ⟨h1, h0⟩
  · subst h1
    have e : lof [] (.mk 1 n ks) = ⟨n, []⟩ := by rw [lof, if_pos rfl]
    have hT : (Nm.mk n []).Tidy := fun h => absurd rfl h
    rw [e]
    refine ⟨⟨⟨hn0, hn1⟩, fun x hx => (by cases hx), by simp⟩, hT, ?_⟩
    rw [rnorm, if_pos rfl, Nm.short_eq hT]
    rfl
  · subst h1
    have e : lof [] (.mk 2 n ks) = ⟨0, List.replicate n.toNat (-1) ++ [0]⟩ := by
     rw [lof, if_neg (by decide), if_neg (by decide), if_neg (by decide)]
     rfl
    have hT : (Nm.mk 0 (List.replicate n.toNat (-1) ++ [0])).Tidy := fun h => by simp
    rw [e]
    refine ⟨⟨⟨by show (0 : Int) ≤ 0; omega, by show (0 : Int) ≤ 1099511627776; omega⟩, fun x hx => ?_, ?_⟩, hT, ?_⟩
    · rcases List.mem_append.1 hx with hx | hx
      · rw [List.eq_of_mem_replicate hx]; omega
      · rw [List.mem_singleton.1 hx]; omega
    · show (List.replicate n.toNat (-1 : Int) ++ [0]).length ≤ 1001
      simp; omega
    · rw [rnorm, if_neg (by decide), if_pos rfl, Nm.short_eq hT]
      simp only
      congr 1
      split <;> rfl
  · subst h1
    have hk0 : 0 < ks.length := by omega
    obtain ⟨g1, g2, g3⟩ := ih ks[0] (List.getElem_mem hk0) (hoks.mem _ (List.getElem_mem hk0))
    have e : lof [] (.mk 3 n ks) = (lof [] ks[0]).plus n := by rw [lof, if_neg (by decide), if_pos rfl, lofs_get [] ks 0 hk0]
    rw [e]
    refine ⟨Nm.plus_ok g1 (by omega), g2.map (by omega) _, ?_⟩
    rw [rnorm, if_neg (by decide), if_neg (by decide), if_pos rfl, rnormi_get ks 0 hk0, g3, Nm.short_plus g2 g1 hn0]
  · subst h1
    have hk0 : 0 < ks.length := by omega
    have hk1 : 1 < ks.length := by omega
    obtain ⟨g1, g2, g3⟩ := ih ks[0] (List.getElem_mem hk0) (hoks.mem _ (List.getElem_mem hk0))
    obtain ⟨j1, j2, j3⟩ := ih ks[1] (List.getElem_mem hk1) (hoks.mem _ (List.getElem_mem hk1))
    have e : lof [] (.mk 4 n ks) = (lof [] ks[0]).or (lof [] ks[1]) := by rw [lof, if_neg (by decide), if_neg (by decide), if_pos rfl, lofs_get [] ks 0 hk0, lofs_get [] ks 1 hk1]
    rw [e]
    refine ⟨Nm.or_ok g1 j1, or_tidy g2 j2 _, ?_⟩
    rw [rnorm, if_neg (by decide), if_neg (by decide), if_neg (by decide), rnormi_get ks 0 hk0, rnormi_get ks 1 hk1, g3, j3, Nm.short_or g2 j2 g1 j1]
theorem wrap_small {c : Nat} (h : c ≤ 1000) : wrap64 ((c : Int) + 1) = ((c + 1 : Nat) : Int) := by unfold wrap64; omega
mutual
theorem snd_same : ∀ (l : Lv) (d c : Nat), c ≤ 1000 → ((lwalk sndStep l d c).1 = 0 ↔ (rsnd l d c).1 = true) ∧ ((rsnd l d c).1 = true → (lwalk sndStep l d c).2 = ((rsnd l d c).2 : Int))
 | .mk k n ks, d, c, hc => by
  have hw := wrap_small hc
  rw [lwalk, rsnd]
  by_cases h1 : 256 < d ∨ 1000 < c + 1 ∨ lar k < 0 ∨ (ks.length : Int) ≠ lar k
  · rw [if_pos h1]
    have hb : 1000 < wrap64 ((c : Int) + 1) ∨ (256 : Int) < (d : Int) ∨ lright 1099511627776 1000 k n ks.length = false := by
     rcases h1 with h | h | h | h
     · exact .inr (.inl (by omega))
     · rw [hw]; exact .inl (by omega)
     · refine .inr (.inr ?_)
       unfold lright
       have : ((ks.length : Int) != lar k) = true := by simp; omega
       rw [this]; rfl
     · refine .inr (.inr ?_)
       unfold lright
       have : ((ks.length : Int) != lar k) = true := by simpa using h
       rw [this]; rfl
    have hs : (sndStep (c : Int) (.mk k n ks) (d : Int)).1 = 1 := by unfold sndStep; exact if_pos hb
    rw [if_neg (by rw [hs]; decide), hs]
    exact ⟨by constructor <;> (intro h; cases h), fun h => by cases h⟩
  · rw [if_neg h1]
    have hlen : ((ks.length : Int) != lar k) = false := by
     have : (ks.length : Int) = lar k := by omega
     simpa using this
    have hd : ¬ (256 : Int) < (d : Int) := by omega
    have hc2 : ¬ 1000 < wrap64 ((c : Int) + 1) := by rw [hw]; omega
    have hs2 : (sndStep (c : Int) (.mk k n ks) (d : Int)).2 = ((c + 1 : Nat) : Int) := hw
    have hs1 : ∀ b, lright 1099511627776 1000 k n ks.length = b → (sndStep (c : Int) (.mk k n ks) (d : Int)).1 = if b = false then 1 else 0 := fun b hb => by
     unfold sndStep
     cases b with
     | false => exact (if_pos (.inr (.inr hb))).trans (if_pos rfl).symm
     | true => exact (if_neg (fun h => by
         rcases h with h | h | h
         · exact hc2 h
         · exact hd h
         · exact Bool.noConfusion (hb.symm.trans h))).trans (if_neg (by decide)).symm
    have hdd : ((d : Int) + 1) = ((d + 1 : Nat) : Int) := by omega
    have nil0 : ks = [] → ∀ (s : Int), lwalks sndStep ks ((d : Int) + 1) s = (0, s) := fun h s => by rw [h, lwalks]
    by_cases h2 : k = 1
    · have hks : ks = [] := List.eq_nil_of_length_eq_zero (by have : lar k = 0 := by rw [h2]; rfl
                                                              omega)
      rw [if_pos h2]
      have hl : lright 1099511627776 1000 k n ks.length = (decide (0 ≤ n) && decide (n ≤ 1099511627776)) := by unfold lright; rw [hlen, if_pos h2]; rfl
      have h9 := hs1 _ hl
      cases hb : (decide (0 ≤ n) && decide (n ≤ 1099511627776)) with
      | true =>
       rw [hb] at h9
       have h8 : (sndStep (c : Int) (.mk k n ks) (d : Int)).1 = 0 := h9
       rw [if_pos h8, nil0 hks, hs2]
       exact ⟨⟨fun _ => rfl, fun _ => rfl⟩, fun _ => rfl⟩
      | false =>
       rw [hb] at h9
       have h8 : (sndStep (c : Int) (.mk k n ks) (d : Int)).1 = 1 := h9
       rw [if_neg (by rw [h8]; decide), h8]
       exact ⟨by constructor <;> (intro h; cases h), fun h => by cases h⟩
    · rw [if_neg h2]
      by_cases h3 : k = 2
      · have hks : ks = [] := List.eq_nil_of_length_eq_zero (by have : lar k = 0 := by rw [h3]; rfl
                                                                omega)
        rw [if_pos h3]
        have hl : lright 1099511627776 1000 k n ks.length = (decide (0 ≤ n) && decide (n ≤ 1000)) := by unfold lright; rw [hlen, if_neg h2, if_neg (by omega), if_pos h3]; rfl
        have h9 := hs1 _ hl
        cases hb : (decide (0 ≤ n) && decide (n ≤ 1000)) with
        | true =>
         rw [hb] at h9
         have h8 : (sndStep (c : Int) (.mk k n ks) (d : Int)).1 = 0 := h9
         rw [if_pos h8, nil0 hks, hs2]
         exact ⟨⟨fun _ => rfl, fun _ => rfl⟩, fun _ => rfl⟩
        | false =>
         rw [hb] at h9
         have h8 : (sndStep (c : Int) (.mk k n ks) (d : Int)).1 = 1 := h9
         rw [if_neg (by rw [h8]; decide), h8]
         exact ⟨by constructor <;> (intro h; cases h), fun h => by cases h⟩
      · rw [if_neg h3]
        by_cases h4 : k = 3 ∧ (n < 1 ∨ 1099511627776 < n)
        · rw [if_pos h4]
          have hl : lright 1099511627776 1000 k n ks.length = false := by
           unfold lright
           rw [hlen, if_neg h2, if_pos h4.1]
           have : ¬ (1 ≤ n ∧ n ≤ 1099511627776) := by omega
           simp; omega
          have h8 : (sndStep (c : Int) (.mk k n ks) (d : Int)).1 = 1 := hs1 _ hl
          rw [if_neg (by rw [h8]; decide), h8]
          exact ⟨by constructor <;> (intro h; cases h), fun h => by cases h⟩
        · rw [if_neg h4]
          have hl : lright 1099511627776 1000 k n ks.length = true := by
           unfold lright
           rw [hlen, if_neg h2]
           by_cases h5 : k = 3
           · rw [if_pos h5]
             have : ¬ (n < 1 ∨ 1099511627776 < n) := fun hh => h4 ⟨h5, hh⟩
             simp; omega
           · rw [if_neg h5, if_neg h3]; rfl
          have h8 : (sndStep (c : Int) (.mk k n ks) (d : Int)).1 = 0 := hs1 _ hl
          rw [if_pos h8, hs2, hdd]
          exact snds_same ks d (c + 1) (by omega)
theorem snds_same : ∀ (l : List Lv) (d c : Nat), c ≤ 1000 → ((lwalks sndStep l ((d + 1 : Nat) : Int) c).1 = 0 ↔ (rsnds l d c).1 = true) ∧ ((rsnds l d c).1 = true → (lwalks sndStep l ((d + 1 : Nat) : Int) c).2 = ((rsnds l d c).2 : Int))
 | [], d, c, _ => by rw [lwalks, rsnds]; exact ⟨⟨fun _ => rfl, fun _ => rfl⟩, fun _ => rfl⟩
 | l :: ls, d, c, hc => by
  rw [lwalks, rsnds]
  obtain ⟨g1, g2⟩ := snd_same l (d + 1) c hc
  by_cases h : (rsnd l (d + 1) c).1 = true
  · rw [if_pos h, if_pos (g1.2 h), g2 h]
    exact snds_same ls d _ (rsnd_le l (d + 1) c h)
  · rw [if_neg h, if_neg (fun hh => h (g1.1 hh))]
    exact ⟨⟨fun hh => absurd (g1.1 hh) h, fun hh => by cases hh⟩, fun hh => by cases hh⟩
end
theorem lsnd_eq (l : Lv) : lsnd l = rsound l := by
 have h := (snd_same l 1 0 (by omega)).1
 unfold lsnd rsound
 cases hr : (rsnd l 1 0).1 with
 | true => have := h.2 hr; simp only [beq_iff_eq]; exact this
 | false =>
  cases hl : (lwalk sndStep l 1 0).1 == 0 with
  | false => rfl
  | true =>
   have h2 := h.1 (by simpa using hl)
   rw [hr] at h2; cases h2
/-- level.Equal is the reference's. -/
theorem leq_eq (a b : Lv) : leq a b = req a b := by
 unfold leq req
 rw [lsnd_eq, lsnd_eq]
 cases ha : rsound a with
 | false => rfl
 | true =>
  cases hb : rsound b with
  | false => rfl
  | true => rw [(lof_good a (lok_of_rsound ha)).2.2, (lof_good b (lok_of_rsound hb)).2.2]
end Go.Proofs.Ytiampoebdmflgaa
