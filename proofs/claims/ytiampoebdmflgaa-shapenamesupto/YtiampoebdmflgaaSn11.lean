/- Texts put one behind the other: Nren, Nlaw, Nlaw2, Shapeof, Tlift2, Tinst, Tinst2. -/
import Derived.Test.YtiampoebdmflgaaSn10
import Derived.Test.YtiampoebdmflgaaSn4
import Derived.Test.YtiampoebdmflgaaSn9
/- The law's renamed: constants of one name by another. -/
namespace Go.Proofs.Ytiampoebdmflgaa
open Go.RowKit
set_option linter.unusedVariables false
set_option maxRecDepth 100000
set_option maxHeartbeats 8000000
set_option linter.unusedSimpArgs false
mutual
def rn (nm ot : ByteArray) : Tm → Tm
 | .mk k N s lv ls ks => .mk k N (if k = 7 ∧ (s.toList == nm.toList) = true then ot else s) lv ls (rns nm ot ks)
def rns (nm ot : ByteArray) : List Tm → List Tm
 | [] => []
 | t :: ts => rn nm ot t :: rns nm ot ts
end
theorem rns_map (nm ot : ByteArray) (l : List Tm) : rns nm ot l = l.map (rn nm ot) := by
 induction l with
 | nil => rw [rns]; rfl
 | cons x l ih => rw [rns, ih]; rfl
theorem arr8' {c : Array Value} (h : c.size = 8) : ∃ a0 a1 a2 a3 a4 a5 a6 a7, c = #[a0, a1, a2, a3, a4, a5, a6, a7] := by
 obtain ⟨l⟩ := c
 match l, h with
 | [a0, a1, a2, a3, a4, a5, a6, a7], _ => exact ⟨a0, a1, a2, a3, a4, a5, a6, a7, rfl⟩
theorem renamed_any (nm ot : ByteArray) (hot : ot.size ≤ 140737488351232) (t : Tm) : ∀ (cs : Array Value) (D : Nat → Prop) (w : World), Within D w → TmIs D w t cs →
    Calls Try.prog 23 #[.agg cs, .string nm, .string ot] w fun e w' => ∃ cs', e = .returned (.agg cs') ∧ TmIs (grow D w w') w' (rn nm ot t) cs' ∧ Upd nob w w' := by
 induction t using Tm.ind with
 | h k N s lv ls ks ih =>
  intro cs D w hD hl
  have hz := tm_zero
  obtain ⟨p0, p1, p2, lA, lc, A, c, rfl, hk, hN, hnm, hlv, hls1, hls, hks1, hks⟩ := hl.lit
  simp only [Tm.k, Tm.n, Tm.nm, Tm.lv, Tm.ls, Tm.ks] at hk hN hnm hlv hls1 hls hks1 hks hl ⊢
  obtain ⟨s', hs'⟩ : ∃ s', (if k = 7 ∧ (s.toList == nm.toList) = true then ot else s) = s' := ⟨_, rfl⟩
  have hns : s'.size ≤ 140737488351232 := by rw [← hs']; split <;> assumption
  have hrn : rn nm ot (.mk k N s lv ls ks) = .mk k N s' lv ls (ks.map (rn nm ot)) := by rw [rn, rns_map, hs']
  have HRN := Lib.hid hrn
  obtain ⟨W1, hW1⟩ : ∃ W1, (w.alloc (.cells #[.int .i64 k, .int .i64 N, .string s', p0, p1, p2, .slice lA ls.length lc, .slice A ks.length c] 27)).alloc (.cells #[.int .i64 0, .int .i64 0, .string ByteArray.empty, .int .i64 0, .int .i64 0, .slice none 0 0, .slice none 0 0, .slice none 0 0] 27) = W1 := ⟨_, rfl⟩
  have huW1 : Upd nob w W1 := by rw [← hW1]; exact ((Upd.refl nob w).alloc _).alloc _
  have hsW1 : W1.heap.size = w.heap.size + 2 := by rw [← hW1]; simp
  have k0 : Blk W1 (w.heap.size) 27 #[.int .i64 k, .int .i64 N, .string s', p0, p1, p2, .slice lA ls.length lc, .slice A ks.length c] := by
   rw [← hW1]
   have h := Blk.new (w) 27 #[.int .i64 k, .int .i64 N, .string s', p0, p1, p2, .slice lA ls.length lc, .slice A ks.length c]
   exact h.alloc _
  have k1 : Blk W1 (w.heap.size + 1) 27 #[.int .i64 0, .int .i64 0, .string ByteArray.empty, .int .i64 0, .int .i64 0, .slice none 0 0, .slice none 0 0, .slice none 0 0] := by
   rw [← hW1]
   have h := Blk.new (w.alloc (.cells #[.int .i64 k, .int .i64 N, .string s', p0, p1, p2, .slice lA ls.length lc, .slice A ks.length c] 27)) 27 #[.int .i64 0, .int .i64 0, .string ByteArray.empty, .int .i64 0, .int .i64 0, .slice none 0 0, .slice none 0 0, .slice none 0 0]
   rw [World.size_alloc] at h
   exact h
  have HB2 := Lib.hid k0
  have HB1 := Lib.hid k1
  have HW1 := Lib.hid hW1
  have HU02 := Lib.hid huW1
  have HLV := Lib.hid hlv
  have HLS := Lib.hid hls
  have HKS := Lib.hid hks
  have hs2 : w.heap.size + 2 ≤ W1.heap.size := by omega
  have c7 : W1.cell? ⟨w.heap.size, 7, none⟩ = some (.slice A ks.length c) := k0.cell 7
  have cl2 : w.heap.size < W1.heap.size := k0.lt
  have hED : ∀ x, D x → x < W1.heap.size := fun x hx => by have := hD x hx; omega
  clear hl hW1 k0 k1 huW1 hlv hls hks hrn hsW1
  by_cases g1 : k = 7
  · by_cases g2 : (s.toList == nm.toList) = true
    · have HS' := Lib.hid (show s' = ot by rw [← hs', if_pos ⟨g1, g2⟩])
      clear hs'
      subst g1
      have c7' := c7
      rw [← HW1.out, HS'.out] at c7'
      go_enter Try.func23, Try.ntmps23
      go_wp2_with fail
      have hw9 := HW1.out
      rw [HS'.out] at hw9
      rw [hw9]
      clear hw9
      clear c7'
      obtain ⟨M, hM⟩ : ∃ M, ks.length = M := ⟨_, rfl⟩
      have HM := Lib.hid hM
      rw [hM] at hks1 c7 ⊢
      clear hM
      go_loopg [7, 24] M (fun q v7 v24 wr => ∃ j : Nat, j + q = M ∧ v24 = .int .i64 j ∧ Coll tmR D W1.heap.size 27 wr v7 ((ks.take j).map (rn nm ot)) ∧ Upd nob W1 wr)
      case atStart => exact ⟨0, by omega, rfl, Coll.nil_, Upd.refl _ _⟩
      case round =>
       obtain ⟨j, hj, rfl, hco, hu⟩ := hrel
       have hjl : ((ks.take j).map (rn nm ot)).length = j := by have := HM.out; simp; omega
       obtain ⟨sA, sc, hsl, hcp⟩ := hco.form
       rw [hjl] at hsl hcp
       subst hsl
       have HCO := Lib.hid hco
       clear hco
       have hzr : W1.heap.size ≤ wr.heap.size := hu.size
       have hu0r : Upd nob w wr := HU02.out.trans hu
       by_cases hlt : j < M
       · have t2 : decide ((j : Int) < M) = true := by simp [hlt]
         have hkl : j < ks.length := by have := HM.out; omega
         obtain ⟨a, ccs, hA, hab, hrow, hll⟩ := (HKS.out.old (hD.old hu0r) (fun _ h => h)).at_ (List.getElem?_eq_getElem hkl)
         rw [Nat.zero_add] at hrow
         obtain ⟨x, hx⟩ : ∃ x, ks[j] = x := ⟨_, rfl⟩
         rw [hx] at hll
         have HX := Lib.hid hx
         have HLL := Lib.hid hll
         have HON := Lib.hid hll.oneCell.2
         obtain ⟨xp, xq, xB, xm, xd, xE, xc, xE', xc', rfl⟩ := hll.lit8
         have HA := Lib.hid hA
         clear hA hll hx
         go_wp2_with (first
          | ((with_reducible refine this_op (.indexAddr 25 (.tmp 22) (.tmp 24)) ?_); refine wpList_index_at rfl 25 (.tmp 22) (.tmp 24) rfl _ a _ _ rfl HA.out j rfl hlt 27 Try.underlying25 8 tm_size ?_)
          | ((with_reducible refine this_op (.load 27 (.tmp 26)) ?_); refine wpList_at rfl 27 (.tmp 26) rfl (a.add (j * 8)) rfl _ _ hrow Try.underlying27 rfl tm_size ?_)
          | ((with_reducible refine this_op (.store 27 (.tmp 9) (.tmp 27)) ?_); refine wpList_store_row rfl 27 (.tmp 9) (.tmp 27) rfl wr.heap.size _ rfl rfl 27 _ (Blk.new wr _ _) tm_size rfl HON.out ?_
             obtain ⟨W4, hW4⟩ : ∃ W, (wr.alloc (.cells #[.int .i64 0, .int .i64 0, .string ByteArray.empty, .int .i64 0, .int .i64 0, .slice none 0 0, .slice none 0 0, .slice none 0 0] 27)).setRow wr.heap.size #[.int .i64 x.k, .int .i64 x.n, .string x.nm, .int .i64 xp, .int .i64 xq, .slice xB xm xd, .slice xE x.ls.length xc, .slice xE' x.ks.length xc'] = W := ⟨_, rfl⟩
             have hu4 : Upd nob wr W4 := by rw [← hW4]; exact ((Upd.refl nob wr).alloc _).setRow (.inr (Nat.le_refl _)) _
             have hb4 : Blk W4 wr.heap.size 27 #[.int .i64 x.k, .int .i64 x.n, .string x.nm, .int .i64 xp, .int .i64 xq, .slice xB xm xd, .slice xE x.ls.length xc, .slice xE' x.ks.length xc'] := by rw [← hW4]; exact (Blk.new wr _ _).row _
             rw [hW4]
             clear hW4
             have hz4 : wr.heap.size + 1 ≤ W4.heap.size := hb4.lt
             have q4 := hb4.rowAt
             clear hb4)
          | ((with_reducible refine this_op (.load 27 (.tmp 9)) ?_); refine wpList_at rfl 27 (.tmp 9) rfl ⟨wr.heap.size, 0, none⟩ rfl _ _ q4 Try.underlying27 rfl tm_size ?_))
         have hin : x ∈ ks := by rw [← HX.out]; exact List.getElem_mem _
         have hD4 : Within D W4 := fun q hq => by have := hD q hq; omega
         refine (ih x hin _ D W4 hD4 (HLL.out.old (Old.of_upd hu4 (fun q hq => ⟨fun f => f, by have := hD q hq; omega⟩)) (fun _ h => h))).mono ?_
         rintro e w5 ⟨cs5, rfl, ht5, hu5⟩
         obtain ⟨r0, r1, r2, r3, r4, r5, r6, r7, rfl⟩ := arr8' ht5.oneCell.1
         have hu6 : Upd nob wr (w5.alloc (.cells #[r0, r1, r2, r3, r4, r5, r6, r7] 27)) := (hu4.trans hu5).alloc _
         have hnO : ∀ q, (Value.slice sA j sc).ownBlock = some q → W1.heap.size ≤ q ∧ q < wr.heap.size := fun q h => HCO.out.lt h
         have hz5 : W4.heap.size ≤ w5.heap.size := hu5.size
         have HC6 := Lib.hid (HCO.out.upd hu6 (fun _ f => f.elim) (fun x h => by have := hED x h; omega))
         have hl6 : tmR.is (grow D W4 w5) (w5.alloc (.cells #[r0, r1, r2, r3, r4, r5, r6, r7] 27)) (rn nm ot x) #[r0, r1, r2, r3, r4, r5, r6, r7] := ht5.old (Old.of_upd ((Upd.refl nob w5).alloc _) (fun q hq => ⟨fun f => f, hq.elim (fun h => by have := hD4 q h; omega) (fun h => h.2)⟩)) (fun _ h => h)
         have HL6 := Lib.hid hl6
         have hD6 : ∀ q, grow D W4 w5 q → cd D W1.heap.size (w5.alloc (.cells #[r0, r1, r2, r3, r4, r5, r6, r7] 27)) (.slice sA j sc) q := fun q hq => by
          rcases hq with h | h
          · exact ⟨.inl h, fun h2 => by have := (hnO q h2).1; have := hED q h; omega⟩
          exact ⟨.inr ⟨by have := h.1; omega, by have := h.2; simp only [World.size_alloc]; omega⟩, fun h2 => by have := (hnO q h2).2; have := h.1; omega⟩
         clear ht5 hl6 q4
         go_wp2_with (first
          | ((with_reducible refine this_op (.buildSlice 25 1 #[(0, .tmp 32)]) ?_); refine wpList_build1 rfl 25 27 (.tmp 32) rfl _ 8 120 Try.underlying25 tm_info (by decide) (by decide) #[r0, r1, r2, r3, r4, r5, r6, r7] rfl rfl ?_)
          | (at_builtin; go_loud (refine wpList_collect rfl (.tmp 28) (.tmp 33) 25 rfl _ 120 Try.underlying25 tm_info (by kernel_rfl) (by decide) rfl HC6.out hED w5.heap.size #[r0, r1, r2, r3, r4, r5, r6, r7] rfl (Blk.new _ _ _) (rn nm ot x) _ HL6.out hD6 j hjl (by omega) (by omega) (by simp; omega) ?_)
             intro A9 c9 w9 hc9 hu9 hat9
             have HCF := Lib.hid hc9
             have HUF := Lib.hid (hu.trans' ((hu6.mono (fun _ f => f.elim)).trans hu9) (fun q hq h => by have := (hnO q h).1; omega))
             clear hc9 hu9 hat9))
         go_roundg (gk - 1)
         case measure => omega
         case rel =>
          refine ⟨j + 1, by omega, by go_num, ?_, HUF.out⟩
          rw [List.take_succ_eq_append_getElem hkl, List.map_append, HX.out]
          exact HCF.out
       have t2 : decide ((j : Int) < M) = false := by simp; omega
       have : j = M := by omega
       subst this
       have hfull : (ks.take j).map (rn nm ot) = ks.map (rn nm ot) := by rw [List.take_of_length_le]; have := HM.out; omega
       have hco := HCO.out
       rw [hfull] at hco
       obtain ⟨A9, c9, hv9, hcap9, hat⟩ := hco.tms (D := fun q => D q ∨ (W1.heap.size ≤ q ∧ q < wr.heap.size)) (fun q hq => hq)
       rw [List.length_map, HM.out] at hv9
       injection hv9 with z1 z2 z3
       subst z1 z3
       have hb9 := HB2.out.upd hu (fun f => f)
       rw [HM.out] at hb9
       have hb91 := HB1.out.upd hu (fun f => f)
       have hfz9 := hb9.frozen 7
       have q7 := hb9.cell 7
       simp only [List.getElem?_toArray, List.getElem?_cons_succ, List.getElem?_cons_zero] at q7
       have hbl9 : w.heap.size < wr.heap.size := by omega
       have hset : Upd (fun q => q = w.heap.size) wr (wr.setCell ⟨w.heap.size, 7, none⟩ (.slice sA j sc)) := (Upd.refl (fun q => q = w.heap.size) wr).setCell (.inl rfl) _
       have hb10 : Blk (wr.setCell ⟨w.heap.size, 7, none⟩ (.slice sA j sc)) w.heap.size 27 #[.int .i64 7, .int .i64 N, .string s', p0, p1, p2, .slice lA ls.length lc, .slice sA j sc] := hb9.set 7 _
       have r10 := hb10.rowAt
       have HB101 := Lib.hid (hb91.upd hset (fun h => by have h : w.heap.size + 1 = w.heap.size := h; omega))
       have HSET := Lib.hid hset
       have HAT := Lib.hid hat
       have hoo := HLV.out.oneCell.2
       have HOG := Lib.hid (show (#[.int .i64 7, .int .i64 N, .string s', p0, p1, p2, .slice lA ls.length lc, .slice sA j sc] : Array Value).all (·.oneCell') = true by simp [Value.oneCell'] at hoo ⊢; exact hoo)
       clear hat hco hb9 hb91 hb10 hset hoo
       go_wp2_with (first
        | ((with_reducible refine this_op (.load 27 (.tmp 3)) ?_); refine wpList_at rfl 27 (.tmp 3) rfl ⟨w.heap.size, 0, none⟩ rfl _ _ r10 Try.underlying27 rfl tm_size ?_)
        | ((with_reducible refine this_op (.store 27 (.tmp 6) (.tmp 38)) ?_); refine wpList_store_row rfl 27 (.tmp 6) (.tmp 38) rfl (w.heap.size + 1) _ rfl rfl 27 _ HB101.out tm_size rfl HOG.out ?_))
       refine bodyPost_ret (results_cell_row rfl _ _ (w.heap.size + 1) 27 #[.int .i64 7, .int .i64 N, .string s', p0, p1, p2, .slice lA ls.length lc, .slice sA j sc] (0, 0) _ rfl (HB101.out.row _) Try.underlying27 rfl tm_size) rfl ?_
       obtain ⟨WF, hWF⟩ : ∃ W, (wr.setCell ⟨w.heap.size, 7, none⟩ (.slice sA j sc)).setRow (w.heap.size + 1) #[.int .i64 7, .int .i64 N, .string s', p0, p1, p2, .slice lA ls.length lc, .slice sA j sc] = W := ⟨_, rfl⟩
       have hufr : Upd (fun q => q = w.heap.size ∨ q = w.heap.size + 1) wr WF := by rw [← hWF]; exact (HSET.out.mono (fun q h => .inl h)).trans ((Upd.refl (fun q => q = w.heap.size ∨ q = w.heap.size + 1) _).setRow (.inl (.inr rfl)) _)
       rw [hWF]
       clear hWF
       have hzf : wr.heap.size ≤ WF.heap.size := hufr.size
       have hn : ∀ q, (D q ∨ (W1.heap.size ≤ q ∧ q < wr.heap.size)) → ¬ (q = w.heap.size ∨ q = w.heap.size + 1) ∧ q < wr.heap.size := fun q hq => by
        rcases hq with h | h
        · have := hD q h; omega
        have := h.1; have := h.2; omega
       have hoF : Old D wr WF := Old.of_upd hufr (fun q hq => hn q (.inl hq))
       have hgr : ∀ q, (D q ∨ (W1.heap.size ≤ q ∧ q < wr.heap.size)) → grow D w WF q := fun q hq => hq.imp id (fun h => ⟨by have := h.1; omega, by have := h.2; omega⟩)
       have hdr := hD.old hu0r
       refine ⟨_, rfl, ?_, hu0r.trans' hufr (fun q hq h => by rcases h with h | h <;> omega)⟩
       rw [HRN.out]
       simp only [TmIs]
       refine ⟨p0, p1, p2, lA, lc, sA, sc, by rw [List.length_map, HM.out], hk, hN, hns, HLV.out.old (hdr.trans hoF) (fun q h => .inl h), hls1, HLS.out.old (hdr.trans hoF) (fun q h => .inl h), ⟨by rw [List.length_map, HM.out]; exact hks1.1, hcap9⟩, HAT.out.old (Old.of_upd hufr hn) hgr⟩
    have g3 : (s.toList == nm.toList) = false := by simpa using g2
    have HS' := Lib.hid (show s' = s by rw [← hs', if_neg (fun h => g2 h.2)])
    clear hs' g2
    subst g1
    have c7' := c7
    rw [← HW1.out, HS'.out] at c7'
    go_enter Try.func23, Try.ntmps23
    go_wp2_with fail
    have hw9 := HW1.out
    rw [HS'.out] at hw9
    rw [hw9]
    clear hw9
    clear c7'
    obtain ⟨M, hM⟩ : ∃ M, ks.length = M := ⟨_, rfl⟩
    have HM := Lib.hid hM
    rw [hM] at hks1 c7 ⊢
    clear hM
    go_loopg [7, 24] M (fun q v7 v24 wr => ∃ j : Nat, j + q = M ∧ v24 = .int .i64 j ∧ Coll tmR D W1.heap.size 27 wr v7 ((ks.take j).map (rn nm ot)) ∧ Upd nob W1 wr)
    case atStart => exact ⟨0, by omega, rfl, Coll.nil_, Upd.refl _ _⟩
    case round =>
     obtain ⟨j, hj, rfl, hco, hu⟩ := hrel
     have hjl : ((ks.take j).map (rn nm ot)).length = j := by have := HM.out; simp; omega
     obtain ⟨sA, sc, hsl, hcp⟩ := hco.form
     rw [hjl] at hsl hcp
     subst hsl
     have HCO := Lib.hid hco
     clear hco
     have hzr : W1.heap.size ≤ wr.heap.size := hu.size
     have hu0r : Upd nob w wr := HU02.out.trans hu
     by_cases hlt : j < M
     · have t2 : decide ((j : Int) < M) = true := by simp [hlt]
       have hkl : j < ks.length := by have := HM.out; omega
       obtain ⟨a, ccs, hA, hab, hrow, hll⟩ := (HKS.out.old (hD.old hu0r) (fun _ h => h)).at_ (List.getElem?_eq_getElem hkl)
       rw [Nat.zero_add] at hrow
       obtain ⟨x, hx⟩ : ∃ x, ks[j] = x := ⟨_, rfl⟩
       rw [hx] at hll
       have HX := Lib.hid hx
       have HLL := Lib.hid hll
       have HON := Lib.hid hll.oneCell.2
       obtain ⟨xp, xq, xB, xm, xd, xE, xc, xE', xc', rfl⟩ := hll.lit8
       have HA := Lib.hid hA
       clear hA hll hx
       go_wp2_with (first
        | ((with_reducible refine this_op (.indexAddr 25 (.tmp 22) (.tmp 24)) ?_); refine wpList_index_at rfl 25 (.tmp 22) (.tmp 24) rfl _ a _ _ rfl HA.out j rfl hlt 27 Try.underlying25 8 tm_size ?_)
        | ((with_reducible refine this_op (.load 27 (.tmp 26)) ?_); refine wpList_at rfl 27 (.tmp 26) rfl (a.add (j * 8)) rfl _ _ hrow Try.underlying27 rfl tm_size ?_)
        | ((with_reducible refine this_op (.store 27 (.tmp 9) (.tmp 27)) ?_); refine wpList_store_row rfl 27 (.tmp 9) (.tmp 27) rfl wr.heap.size _ rfl rfl 27 _ (Blk.new wr _ _) tm_size rfl HON.out ?_
           obtain ⟨W4, hW4⟩ : ∃ W, (wr.alloc (.cells #[.int .i64 0, .int .i64 0, .string ByteArray.empty, .int .i64 0, .int .i64 0, .slice none 0 0, .slice none 0 0, .slice none 0 0] 27)).setRow wr.heap.size #[.int .i64 x.k, .int .i64 x.n, .string x.nm, .int .i64 xp, .int .i64 xq, .slice xB xm xd, .slice xE x.ls.length xc, .slice xE' x.ks.length xc'] = W := ⟨_, rfl⟩
           have hu4 : Upd nob wr W4 := by rw [← hW4]; exact ((Upd.refl nob wr).alloc _).setRow (.inr (Nat.le_refl _)) _
           have hb4 : Blk W4 wr.heap.size 27 #[.int .i64 x.k, .int .i64 x.n, .string x.nm, .int .i64 xp, .int .i64 xq, .slice xB xm xd, .slice xE x.ls.length xc, .slice xE' x.ks.length xc'] := by rw [← hW4]; exact (Blk.new wr _ _).row _
           rw [hW4]
           clear hW4
           have hz4 : wr.heap.size + 1 ≤ W4.heap.size := hb4.lt
           have q4 := hb4.rowAt
           clear hb4)
        | ((with_reducible refine this_op (.load 27 (.tmp 9)) ?_); refine wpList_at rfl 27 (.tmp 9) rfl ⟨wr.heap.size, 0, none⟩ rfl _ _ q4 Try.underlying27 rfl tm_size ?_))
       have hin : x ∈ ks := by rw [← HX.out]; exact List.getElem_mem _
       have hD4 : Within D W4 := fun q hq => by have := hD q hq; omega
       refine (ih x hin _ D W4 hD4 (HLL.out.old (Old.of_upd hu4 (fun q hq => ⟨fun f => f, by have := hD q hq; omega⟩)) (fun _ h => h))).mono ?_
       rintro e w5 ⟨cs5, rfl, ht5, hu5⟩
       obtain ⟨r0, r1, r2, r3, r4, r5, r6, r7, rfl⟩ := arr8' ht5.oneCell.1
       have hu6 : Upd nob wr (w5.alloc (.cells #[r0, r1, r2, r3, r4, r5, r6, r7] 27)) := (hu4.trans hu5).alloc _
       have hnO : ∀ q, (Value.slice sA j sc).ownBlock = some q → W1.heap.size ≤ q ∧ q < wr.heap.size := fun q h => HCO.out.lt h
       have hz5 : W4.heap.size ≤ w5.heap.size := hu5.size
       have HC6 := Lib.hid (HCO.out.upd hu6 (fun _ f => f.elim) (fun x h => by have := hED x h; omega))
       have hl6 : tmR.is (grow D W4 w5) (w5.alloc (.cells #[r0, r1, r2, r3, r4, r5, r6, r7] 27)) (rn nm ot x) #[r0, r1, r2, r3, r4, r5, r6, r7] := ht5.old (Old.of_upd ((Upd.refl nob w5).alloc _) (fun q hq => ⟨fun f => f, hq.elim (fun h => by have := hD4 q h; omega) (fun h => h.2)⟩)) (fun _ h => h)
       have HL6 := Lib.hid hl6
       have hD6 : ∀ q, grow D W4 w5 q → cd D W1.heap.size (w5.alloc (.cells #[r0, r1, r2, r3, r4, r5, r6, r7] 27)) (.slice sA j sc) q := fun q hq => by
        rcases hq with h | h
        · exact ⟨.inl h, fun h2 => by have := (hnO q h2).1; have := hED q h; omega⟩
        exact ⟨.inr ⟨by have := h.1; omega, by have := h.2; simp only [World.size_alloc]; omega⟩, fun h2 => by have := (hnO q h2).2; have := h.1; omega⟩
       clear ht5 hl6 q4
       go_wp2_with (first
        | ((with_reducible refine this_op (.buildSlice 25 1 #[(0, .tmp 32)]) ?_); refine wpList_build1 rfl 25 27 (.tmp 32) rfl _ 8 120 Try.underlying25 tm_info (by decide) (by decide) #[r0, r1, r2, r3, r4, r5, r6, r7] rfl rfl ?_)
        | (at_builtin; go_loud (refine wpList_collect rfl (.tmp 28) (.tmp 33) 25 rfl _ 120 Try.underlying25 tm_info (by kernel_rfl) (by decide) rfl HC6.out hED w5.heap.size #[r0, r1, r2, r3, r4, r5, r6, r7] rfl (Blk.new _ _ _) (rn nm ot x) _ HL6.out hD6 j hjl (by omega) (by omega) (by simp; omega) ?_)
           intro A9 c9 w9 hc9 hu9 hat9
           have HCF := Lib.hid hc9
           have HUF := Lib.hid (hu.trans' ((hu6.mono (fun _ f => f.elim)).trans hu9) (fun q hq h => by have := (hnO q h).1; omega))
           clear hc9 hu9 hat9))
       go_roundg (gk - 1)
       case measure => omega
       case rel =>
        refine ⟨j + 1, by omega, by go_num, ?_, HUF.out⟩
        rw [List.take_succ_eq_append_getElem hkl, List.map_append, HX.out]
        exact HCF.out
     have t2 : decide ((j : Int) < M) = false := by simp; omega
     have : j = M := by omega
     subst this
     have hfull : (ks.take j).map (rn nm ot) = ks.map (rn nm ot) := by rw [List.take_of_length_le]; have := HM.out; omega
     have hco := HCO.out
     rw [hfull] at hco
     obtain ⟨A9, c9, hv9, hcap9, hat⟩ := hco.tms (D := fun q => D q ∨ (W1.heap.size ≤ q ∧ q < wr.heap.size)) (fun q hq => hq)
     rw [List.length_map, HM.out] at hv9
     injection hv9 with z1 z2 z3
     subst z1 z3
     have hb9 := HB2.out.upd hu (fun f => f)
     rw [HM.out] at hb9
     have hb91 := HB1.out.upd hu (fun f => f)
     have hfz9 := hb9.frozen 7
     have q7 := hb9.cell 7
     simp only [List.getElem?_toArray, List.getElem?_cons_succ, List.getElem?_cons_zero] at q7
     have hbl9 : w.heap.size < wr.heap.size := by omega
     have hset : Upd (fun q => q = w.heap.size) wr (wr.setCell ⟨w.heap.size, 7, none⟩ (.slice sA j sc)) := (Upd.refl (fun q => q = w.heap.size) wr).setCell (.inl rfl) _
     have hb10 : Blk (wr.setCell ⟨w.heap.size, 7, none⟩ (.slice sA j sc)) w.heap.size 27 #[.int .i64 7, .int .i64 N, .string s', p0, p1, p2, .slice lA ls.length lc, .slice sA j sc] := hb9.set 7 _
     have r10 := hb10.rowAt
     have HB101 := Lib.hid (hb91.upd hset (fun h => by have h : w.heap.size + 1 = w.heap.size := h; omega))
     have HSET := Lib.hid hset
     have HAT := Lib.hid hat
     have hoo := HLV.out.oneCell.2
     have HOG := Lib.hid (show (#[.int .i64 7, .int .i64 N, .string s', p0, p1, p2, .slice lA ls.length lc, .slice sA j sc] : Array Value).all (·.oneCell') = true by simp [Value.oneCell'] at hoo ⊢; exact hoo)
     clear hat hco hb9 hb91 hb10 hset hoo
     go_wp2_with (first
      | ((with_reducible refine this_op (.load 27 (.tmp 3)) ?_); refine wpList_at rfl 27 (.tmp 3) rfl ⟨w.heap.size, 0, none⟩ rfl _ _ r10 Try.underlying27 rfl tm_size ?_)
      | ((with_reducible refine this_op (.store 27 (.tmp 6) (.tmp 38)) ?_); refine wpList_store_row rfl 27 (.tmp 6) (.tmp 38) rfl (w.heap.size + 1) _ rfl rfl 27 _ HB101.out tm_size rfl HOG.out ?_))
     refine bodyPost_ret (results_cell_row rfl _ _ (w.heap.size + 1) 27 #[.int .i64 7, .int .i64 N, .string s', p0, p1, p2, .slice lA ls.length lc, .slice sA j sc] (0, 0) _ rfl (HB101.out.row _) Try.underlying27 rfl tm_size) rfl ?_
     obtain ⟨WF, hWF⟩ : ∃ W, (wr.setCell ⟨w.heap.size, 7, none⟩ (.slice sA j sc)).setRow (w.heap.size + 1) #[.int .i64 7, .int .i64 N, .string s', p0, p1, p2, .slice lA ls.length lc, .slice sA j sc] = W := ⟨_, rfl⟩
     have hufr : Upd (fun q => q = w.heap.size ∨ q = w.heap.size + 1) wr WF := by rw [← hWF]; exact (HSET.out.mono (fun q h => .inl h)).trans ((Upd.refl (fun q => q = w.heap.size ∨ q = w.heap.size + 1) _).setRow (.inl (.inr rfl)) _)
     rw [hWF]
     clear hWF
     have hzf : wr.heap.size ≤ WF.heap.size := hufr.size
     have hn : ∀ q, (D q ∨ (W1.heap.size ≤ q ∧ q < wr.heap.size)) → ¬ (q = w.heap.size ∨ q = w.heap.size + 1) ∧ q < wr.heap.size := fun q hq => by
      rcases hq with h | h
      · have := hD q h; omega
      have := h.1; have := h.2; omega
     have hoF : Old D wr WF := Old.of_upd hufr (fun q hq => hn q (.inl hq))
     have hgr : ∀ q, (D q ∨ (W1.heap.size ≤ q ∧ q < wr.heap.size)) → grow D w WF q := fun q hq => hq.imp id (fun h => ⟨by have := h.1; omega, by have := h.2; omega⟩)
     have hdr := hD.old hu0r
     refine ⟨_, rfl, ?_, hu0r.trans' hufr (fun q hq h => by rcases h with h | h <;> omega)⟩
     rw [HRN.out]
     simp only [TmIs]
     refine ⟨p0, p1, p2, lA, lc, sA, sc, by rw [List.length_map, HM.out], hk, hN, hns, HLV.out.old (hdr.trans hoF) (fun q h => .inl h), hls1, HLS.out.old (hdr.trans hoF) (fun q h => .inl h), ⟨by rw [List.length_map, HM.out]; exact hks1.1, hcap9⟩, HAT.out.old (Old.of_upd hufr hn) hgr⟩
  have g3 : decide (k = 7) = false := by simp [g1]
  have HS' := Lib.hid (show s' = s by rw [← hs', if_neg (fun h => g1 h.1)])
  clear hs'
  have c7' := c7
  rw [← HW1.out, HS'.out] at c7'
  go_enter Try.func23, Try.ntmps23
  go_wp2_with fail
  have hw9 := HW1.out
  rw [HS'.out] at hw9
  rw [hw9]
  clear hw9
  clear c7'
  obtain ⟨M, hM⟩ : ∃ M, ks.length = M := ⟨_, rfl⟩
  have HM := Lib.hid hM
  rw [hM] at hks1 c7 ⊢
  clear hM
  go_loopg [7, 24] M (fun q v7 v24 wr => ∃ j : Nat, j + q = M ∧ v24 = .int .i64 j ∧ Coll tmR D W1.heap.size 27 wr v7 ((ks.take j).map (rn nm ot)) ∧ Upd nob W1 wr)
  case atStart => exact ⟨0, by omega, rfl, Coll.nil_, Upd.refl _ _⟩
  case round =>
   obtain ⟨j, hj, rfl, hco, hu⟩ := hrel
   have hjl : ((ks.take j).map (rn nm ot)).length = j := by have := HM.out; simp; omega
   obtain ⟨sA, sc, hsl, hcp⟩ := hco.form
   rw [hjl] at hsl hcp
   subst hsl
   have HCO := Lib.hid hco
   clear hco
   have hzr : W1.heap.size ≤ wr.heap.size := hu.size
   have hu0r : Upd nob w wr := HU02.out.trans hu
   by_cases hlt : j < M
   · have t2 : decide ((j : Int) < M) = true := by simp [hlt]
     have hkl : j < ks.length := by have := HM.out; omega
     obtain ⟨a, ccs, hA, hab, hrow, hll⟩ := (HKS.out.old (hD.old hu0r) (fun _ h => h)).at_ (List.getElem?_eq_getElem hkl)
     rw [Nat.zero_add] at hrow
     obtain ⟨x, hx⟩ : ∃ x, ks[j] = x := ⟨_, rfl⟩
     rw [hx] at hll
     have HX := Lib.hid hx
     have HLL := Lib.hid hll
     have HON := Lib.hid hll.oneCell.2
     obtain ⟨xp, xq, xB, xm, xd, xE, xc, xE', xc', rfl⟩ := hll.lit8
     have HA := Lib.hid hA
     clear hA hll hx
     go_wp2_with (first
      | ((with_reducible refine this_op (.indexAddr 25 (.tmp 22) (.tmp 24)) ?_); refine wpList_index_at rfl 25 (.tmp 22) (.tmp 24) rfl _ a _ _ rfl HA.out j rfl hlt 27 Try.underlying25 8 tm_size ?_)
      | ((with_reducible refine this_op (.load 27 (.tmp 26)) ?_); refine wpList_at rfl 27 (.tmp 26) rfl (a.add (j * 8)) rfl _ _ hrow Try.underlying27 rfl tm_size ?_)
      | ((with_reducible refine this_op (.store 27 (.tmp 9) (.tmp 27)) ?_); refine wpList_store_row rfl 27 (.tmp 9) (.tmp 27) rfl wr.heap.size _ rfl rfl 27 _ (Blk.new wr _ _) tm_size rfl HON.out ?_
         obtain ⟨W4, hW4⟩ : ∃ W, (wr.alloc (.cells #[.int .i64 0, .int .i64 0, .string ByteArray.empty, .int .i64 0, .int .i64 0, .slice none 0 0, .slice none 0 0, .slice none 0 0] 27)).setRow wr.heap.size #[.int .i64 x.k, .int .i64 x.n, .string x.nm, .int .i64 xp, .int .i64 xq, .slice xB xm xd, .slice xE x.ls.length xc, .slice xE' x.ks.length xc'] = W := ⟨_, rfl⟩
         have hu4 : Upd nob wr W4 := by rw [← hW4]; exact ((Upd.refl nob wr).alloc _).setRow (.inr (Nat.le_refl _)) _
         have hb4 : Blk W4 wr.heap.size 27 #[.int .i64 x.k, .int .i64 x.n, .string x.nm, .int .i64 xp, .int .i64 xq, .slice xB xm xd, .slice xE x.ls.length xc, .slice xE' x.ks.length xc'] := by rw [← hW4]; exact (Blk.new wr _ _).row _
         rw [hW4]
         clear hW4
         have hz4 : wr.heap.size + 1 ≤ W4.heap.size := hb4.lt
         have q4 := hb4.rowAt
         clear hb4)
      | ((with_reducible refine this_op (.load 27 (.tmp 9)) ?_); refine wpList_at rfl 27 (.tmp 9) rfl ⟨wr.heap.size, 0, none⟩ rfl _ _ q4 Try.underlying27 rfl tm_size ?_))
     have hin : x ∈ ks := by rw [← HX.out]; exact List.getElem_mem _
     have hD4 : Within D W4 := fun q hq => by have := hD q hq; omega
     refine (ih x hin _ D W4 hD4 (HLL.out.old (Old.of_upd hu4 (fun q hq => ⟨fun f => f, by have := hD q hq; omega⟩)) (fun _ h => h))).mono ?_
     rintro e w5 ⟨cs5, rfl, ht5, hu5⟩
     obtain ⟨r0, r1, r2, r3, r4, r5, r6, r7, rfl⟩ := arr8' ht5.oneCell.1
     have hu6 : Upd nob wr (w5.alloc (.cells #[r0, r1, r2, r3, r4, r5, r6, r7] 27)) := (hu4.trans hu5).alloc _
     have hnO : ∀ q, (Value.slice sA j sc).ownBlock = some q → W1.heap.size ≤ q ∧ q < wr.heap.size := fun q h => HCO.out.lt h
     have hz5 : W4.heap.size ≤ w5.heap.size := hu5.size
     have HC6 := Lib.hid (HCO.out.upd hu6 (fun _ f => f.elim) (fun x h => by have := hED x h; omega))
     have hl6 : tmR.is (grow D W4 w5) (w5.alloc (.cells #[r0, r1, r2, r3, r4, r5, r6, r7] 27)) (rn nm ot x) #[r0, r1, r2, r3, r4, r5, r6, r7] := ht5.old (Old.of_upd ((Upd.refl nob w5).alloc _) (fun q hq => ⟨fun f => f, hq.elim (fun h => by have := hD4 q h; omega) (fun h => h.2)⟩)) (fun _ h => h)
     have HL6 := Lib.hid hl6
     have hD6 : ∀ q, grow D W4 w5 q → cd D W1.heap.size (w5.alloc (.cells #[r0, r1, r2, r3, r4, r5, r6, r7] 27)) (.slice sA j sc) q := fun q hq => by
      rcases hq with h | h
      · exact ⟨.inl h, fun h2 => by have := (hnO q h2).1; have := hED q h; omega⟩
      exact ⟨.inr ⟨by have := h.1; omega, by have := h.2; simp only [World.size_alloc]; omega⟩, fun h2 => by have := (hnO q h2).2; have := h.1; omega⟩
     clear ht5 hl6 q4
     go_wp2_with (first
      | ((with_reducible refine this_op (.buildSlice 25 1 #[(0, .tmp 32)]) ?_); refine wpList_build1 rfl 25 27 (.tmp 32) rfl _ 8 120 Try.underlying25 tm_info (by decide) (by decide) #[r0, r1, r2, r3, r4, r5, r6, r7] rfl rfl ?_)
      | (at_builtin; go_loud (refine wpList_collect rfl (.tmp 28) (.tmp 33) 25 rfl _ 120 Try.underlying25 tm_info (by kernel_rfl) (by decide) rfl HC6.out hED w5.heap.size #[r0, r1, r2, r3, r4, r5, r6, r7] rfl (Blk.new _ _ _) (rn nm ot x) _ HL6.out hD6 j hjl (by omega) (by omega) (by simp; omega) ?_)
         intro A9 c9 w9 hc9 hu9 hat9
         have HCF := Lib.hid hc9
         have HUF := Lib.hid (hu.trans' ((hu6.mono (fun _ f => f.elim)).trans hu9) (fun q hq h => by have := (hnO q h).1; omega))
         clear hc9 hu9 hat9))
     go_roundg (gk - 1)
     case measure => omega
     case rel =>
      refine ⟨j + 1, by omega, by go_num, ?_, HUF.out⟩
      rw [List.take_succ_eq_append_getElem hkl, List.map_append, HX.out]
      exact HCF.out
   have t2 : decide ((j : Int) < M) = false := by simp; omega
   have : j = M := by omega
   subst this
   have hfull : (ks.take j).map (rn nm ot) = ks.map (rn nm ot) := by rw [List.take_of_length_le]; have := HM.out; omega
   have hco := HCO.out
   rw [hfull] at hco
   obtain ⟨A9, c9, hv9, hcap9, hat⟩ := hco.tms (D := fun q => D q ∨ (W1.heap.size ≤ q ∧ q < wr.heap.size)) (fun q hq => hq)
   rw [List.length_map, HM.out] at hv9
   injection hv9 with z1 z2 z3
   subst z1 z3
   have hb9 := HB2.out.upd hu (fun f => f)
   rw [HM.out] at hb9
   have hb91 := HB1.out.upd hu (fun f => f)
   have hfz9 := hb9.frozen 7
   have q7 := hb9.cell 7
   simp only [List.getElem?_toArray, List.getElem?_cons_succ, List.getElem?_cons_zero] at q7
   have hbl9 : w.heap.size < wr.heap.size := by omega
   have hset : Upd (fun q => q = w.heap.size) wr (wr.setCell ⟨w.heap.size, 7, none⟩ (.slice sA j sc)) := (Upd.refl (fun q => q = w.heap.size) wr).setCell (.inl rfl) _
   have hb10 : Blk (wr.setCell ⟨w.heap.size, 7, none⟩ (.slice sA j sc)) w.heap.size 27 #[.int .i64 k, .int .i64 N, .string s', p0, p1, p2, .slice lA ls.length lc, .slice sA j sc] := hb9.set 7 _
   have r10 := hb10.rowAt
   have HB101 := Lib.hid (hb91.upd hset (fun h => by have h : w.heap.size + 1 = w.heap.size := h; omega))
   have HSET := Lib.hid hset
   have HAT := Lib.hid hat
   have hoo := HLV.out.oneCell.2
   have HOG := Lib.hid (show (#[.int .i64 k, .int .i64 N, .string s', p0, p1, p2, .slice lA ls.length lc, .slice sA j sc] : Array Value).all (·.oneCell') = true by simp [Value.oneCell'] at hoo ⊢; exact hoo)
   clear hat hco hb9 hb91 hb10 hset hoo
   go_wp2_with (first
    | ((with_reducible refine this_op (.load 27 (.tmp 3)) ?_); refine wpList_at rfl 27 (.tmp 3) rfl ⟨w.heap.size, 0, none⟩ rfl _ _ r10 Try.underlying27 rfl tm_size ?_)
    | ((with_reducible refine this_op (.store 27 (.tmp 6) (.tmp 38)) ?_); refine wpList_store_row rfl 27 (.tmp 6) (.tmp 38) rfl (w.heap.size + 1) _ rfl rfl 27 _ HB101.out tm_size rfl HOG.out ?_))
   refine bodyPost_ret (results_cell_row rfl _ _ (w.heap.size + 1) 27 #[.int .i64 k, .int .i64 N, .string s', p0, p1, p2, .slice lA ls.length lc, .slice sA j sc] (0, 0) _ rfl (HB101.out.row _) Try.underlying27 rfl tm_size) rfl ?_
   obtain ⟨WF, hWF⟩ : ∃ W, (wr.setCell ⟨w.heap.size, 7, none⟩ (.slice sA j sc)).setRow (w.heap.size + 1) #[.int .i64 k, .int .i64 N, .string s', p0, p1, p2, .slice lA ls.length lc, .slice sA j sc] = W := ⟨_, rfl⟩
   have hufr : Upd (fun q => q = w.heap.size ∨ q = w.heap.size + 1) wr WF := by rw [← hWF]; exact (HSET.out.mono (fun q h => .inl h)).trans ((Upd.refl (fun q => q = w.heap.size ∨ q = w.heap.size + 1) _).setRow (.inl (.inr rfl)) _)
   rw [hWF]
   clear hWF
   have hzf : wr.heap.size ≤ WF.heap.size := hufr.size
   have hn : ∀ q, (D q ∨ (W1.heap.size ≤ q ∧ q < wr.heap.size)) → ¬ (q = w.heap.size ∨ q = w.heap.size + 1) ∧ q < wr.heap.size := fun q hq => by
    rcases hq with h | h
    · have := hD q h; omega
    have := h.1; have := h.2; omega
   have hoF : Old D wr WF := Old.of_upd hufr (fun q hq => hn q (.inl hq))
   have hgr : ∀ q, (D q ∨ (W1.heap.size ≤ q ∧ q < wr.heap.size)) → grow D w WF q := fun q hq => hq.imp id (fun h => ⟨by have := h.1; omega, by have := h.2; omega⟩)
   have hdr := hD.old hu0r
   refine ⟨_, rfl, ?_, hu0r.trans' hufr (fun q hq h => by rcases h with h | h <;> omega)⟩
   rw [HRN.out]
   simp only [TmIs]
   refine ⟨p0, p1, p2, lA, lc, sA, sc, by rw [List.length_map, HM.out], hk, hN, hns, HLV.out.old (hdr.trans hoF) (fun q h => .inl h), hls1, HLS.out.old (hdr.trans hoF) (fun q h => .inl h), ⟨by rw [List.length_map, HM.out]; exact hks1.1, hcap9⟩, HAT.out.old (Old.of_upd hufr hn) hgr⟩
end Go.Proofs.Ytiampoebdmflgaa
/- Another name for the type, where it is not used, looks the same. -/
namespace Go.Proofs.Ytiampoebdmflgaa
open Go.RowKit
set_option linter.unusedVariables false
set_option maxRecDepth 100000
set_option maxHeartbeats 1000000
mutual
def Tm.has (x : ByteArray) : Tm → Bool
 | .mk k _ s _ _ ks => (decide (k = 7) && (s.toList == x.toList)) || Tm.hass x ks
def Tm.hass (x : ByteArray) : List Tm → Bool
 | [] => false
 | t :: ts => Tm.has x t || Tm.hass x ts
end
theorem hass_mem {x : ByteArray} : ∀ {l : List Tm}, Tm.hass x l = false → ∀ t, t ∈ l → t.has x = false
 | [], _, t, h => by cases h
 | a :: l, h, t, ht => by
  rw [Tm.hass, Bool.or_eq_false_iff] at h
  rcases List.mem_cons.1 ht with rfl | ht
  · exact h.1
  exact hass_mem h.2 t ht
theorem twfs_mem {v : Int} : ∀ {l : List Tm}, Tm.wfs v l = true → ∀ t, t ∈ l → t.wf v = true
 | [], _, t, h => by cases h
 | a :: l, h, t, ht => by
  rw [Tm.wfs, Bool.and_eq_true] at h
  rcases List.mem_cons.1 ht with rfl | ht
  · exact h.1
  exact twfs_mem h.2 t ht
section
variable (nm ot : ByteArray)
theorem rn_k (t : Tm) : (rn nm ot t).k = t.k := by cases t; rw [rn]; rfl
theorem rn_n (t : Tm) : (rn nm ot t).n = t.n := by cases t; rw [rn]; rfl
theorem rn_ks (t : Tm) : (rn nm ot t).ks = t.ks.map (rn nm ot) := by cases t; rw [rn, rns_map]; rfl
mutual
theorem rn_height : ∀ t : Tm, (rn nm ot t).height = t.height
 | .mk k n s lv ls ks => by simp only [rn, Tm.height]; rw [rns_height ks]
theorem rns_height : ∀ l : List Tm, Tm.heights (rns nm ot l) = Tm.heights l
 | [] => by rw [rns]
 | t :: l => by simp only [rns, Tm.heights]; rw [rn_height t, rns_height l]
end
mutual
theorem rn_id : ∀ t : Tm, t.has nm = false → rn nm ot t = t
 | .mk k n s lv ls ks, h => by
  rw [Tm.has, Bool.or_eq_false_iff] at h
  rw [rn, rns_id ks h.2, if_neg]
  rintro ⟨h1, h2⟩
  have := h.1
  rw [h1, h2] at this
  cases this
theorem rns_id : ∀ l : List Tm, Tm.hass nm l = false → rns nm ot l = l
 | [], _ => by rw [rns]
 | t :: l, h => by
  rw [Tm.hass, Bool.or_eq_false_iff] at h
  rw [rns, rn_id t h.1, rns_id l h.2]
end
mutual
theorem rn_rcnt : ∀ (t : Tm) (d c : Nat), rcnt (rn nm ot t) d c = rcnt t d c
 | .mk k n s lv ls ks, d, c => by
  rw [rn, rcnt, rcnt, rns_map, List.length_map, ← rns_map, rns_rcnt]
theorem rns_rcnt : ∀ (m : Nat) (l : List Tm) (d c : Nat), rcnts m (rns nm ot l) d c = rcnts m l d c
 | 0, l, d, c => by rw [rcnts, rcnts]
 | m + 1, [], d, c => by rw [rns]
 | m + 1, t :: l, d, c => by rw [rns, rcnts, rcnts, rn_rcnt t, rns_rcnt m l]
end
theorem rn_great (t : Tm) : rgreat (rn nm ot t) = rgreat t := by unfold rgreat; rw [rn_rcnt]
theorem name_eq {s s' nm ot : ByteArray} (h1 : (s.toList == ot.toList) = false) (h2 : (s'.toList == ot.toList) = false) :
    ((if (s.toList == nm.toList) = true then ot else s).toList == (if (s'.toList == nm.toList) = true then ot else s').toList) = (s.toList == s'.toList) := by
 by_cases a : (s.toList == nm.toList) = true
 · by_cases b : (s'.toList == nm.toList) = true
   · rw [if_pos a, if_pos b]
     have ha : s.toList = nm.toList := by simpa using a
     have hb : s'.toList = nm.toList := by simpa using b
     rw [ha, hb]; simp
   rw [if_pos a, if_neg b]
   have ha : s.toList = nm.toList := by simpa using a
   rw [ha]
   have e1 : (ot.toList == s'.toList) = false := by rw [Bool.eq_false_iff] at h2 ⊢; intro h; exact h2 (by simpa using (by simpa using h : ot.toList = s'.toList).symm)
   have e2 : (nm.toList == s'.toList) = false := by rw [Bool.eq_false_iff]; intro h; exact b (by simpa using (by simpa using h : nm.toList = s'.toList).symm)
   rw [e1, e2]
 by_cases b : (s'.toList == nm.toList) = true
 · rw [if_neg a, if_pos b, h1]
   have hb : s'.toList = nm.toList := by simpa using b
   rw [hb]
   exact (by simpa using a : (s.toList == nm.toList) = false).symm
 rw [if_neg a, if_neg b]
mutual
theorem rn_same : ∀ (a b : Tm), a.has ot = false → b.has ot = false → rsame (rn nm ot a) (rn nm ot b) = rsame a b
 | .mk k n s lv ls ks, .mk k' n' s' lv' ls' ks', ha, hb => by
  rw [Tm.has, Bool.or_eq_false_iff] at ha hb
  rw [rn, rn]
  have e1 : (Tm.mk k n (if k = 7 ∧ (s.toList == nm.toList) = true then ot else s) lv ls (rns nm ot ks)).rleaf = (Tm.mk k n s lv ls ks).rleaf := by
   show rlf k (rns nm ot ks).length = rlf k ks.length
   rw [rns_map, List.length_map]
  have e2 : (Tm.mk k' n' (if k' = 7 ∧ (s'.toList == nm.toList) = true then ot else s') lv' ls' (rns nm ot ks')).rleaf = (Tm.mk k' n' s' lv' ls' ks').rleaf := by
   show rlf k' (rns nm ot ks').length = rlf k' ks'.length
   rw [rns_map, List.length_map]
  by_cases hk : k = k'
  · subst hk
    by_cases hl : (Tm.mk k n s lv ls ks).rleaf = (Tm.mk k n' s' lv' ls' ks').rleaf
    · rw [rsame_eq2 (by rw [e1, e2, hl]), rsame_eq2 hl, e1]
      by_cases h7 : k = 7
      · have h1 := ha.1
        have h2 := hb.1
        simp only [h7, decide_true, Bool.true_and] at h1 h2
        have := name_eq (nm := nm) h1 h2
        simp only [h7, true_and, if_true, this]
      simp only [h7, if_false]
      rw [rns_same (tar k).toNat ks ks' ha.2 hb.2]
    rw [rsame, rsame, if_pos (.inr (by rw [e1, e2]; exact hl)), if_pos (.inr hl)]
  rw [rsame, rsame, if_pos (.inl hk), if_pos (.inl hk)]
theorem rns_same : ∀ (m : Nat) (l r : List Tm), Tm.hass ot l = false → Tm.hass ot r = false → rsames m (rns nm ot l) (rns nm ot r) = rsames m l r
 | 0, l, r, _, _ => by rw [rsames, rsames]
 | m + 1, [], r, _, _ => by rw [rns]; cases r <;> simp [rsames]
 | m + 1, a :: l, [], _, _ => by rw [rns, rns]; simp [rsames]
 | m + 1, a :: l, b :: r, ha, hb => by
  rw [Tm.hass, Bool.or_eq_false_iff] at ha hb
  rw [rns, rns, rsames, rsames, rn_same a b ha.1 hb.1, rns_same m l r ha.2 hb.2]
end
theorem rn_rSame {a b : Tm} (ha : a.has ot = false) (hb : b.has ot = false) : rSame (rn nm ot a) (rn nm ot b) = rSame a b := by
 unfold rSame
 rw [rn_great, rn_great, rn_same nm ot a b ha hb]
/-! ### Mentions -/
mutual
theorem rn_ends : ∀ (t : Tm) (d : Int), t.has ot = false → (rends (rn nm ot t) d).any (isCon ot) = (rends t d).any (isCon nm)
 | .mk k n s lv ls ks, d, h => by
  rw [Tm.has, Bool.or_eq_false_iff] at h
  rw [rn, rends, rends, rns_map, List.length_map, ← rns_map]
  by_cases hc : (rlf k ks.length || (tar k == 0)) = true
  · rw [if_pos hc, if_pos hc]
    simp only [List.any_cons, List.any_nil, Bool.or_false, isCon, Tm.k, Tm.nm]
    by_cases hk : k = 7
    · have h1 := h.1
      simp only [hk, decide_true, Bool.true_and, true_and] at h1 ⊢
      by_cases hs : (s.toList == nm.toList) = true
      · rw [if_pos hs, hs]; simp
      rw [if_neg hs, h1]; simpa using hs
    simp [hk]
  rw [if_neg hc, if_neg hc]
  exact rns_ends k (tar k).toNat 0 ks d h.2
theorem rns_ends (k : Int) : ∀ (m i : Nat) (l : List Tm) (d : Int), Tm.hass ot l = false → (rendss k m i (rns nm ot l) d).any (isCon ot) = (rendss k m i l d).any (isCon nm)
 | 0, i, l, d, _ => by rw [rendss, rendss]; rfl
 | m + 1, i, [], d, _ => by rw [rns, rendss]; rfl
 | m + 1, i, t :: l, d, h => by
  rw [Tm.hass, Bool.or_eq_false_iff] at h
  rw [rns, rendss, rendss, List.any_append, List.any_append, rn_ends t _ h.1, rns_ends k m (i + 1) l d h.2]
end
theorem rn_ment {t : Tm} (h : t.has ot = false) : rment (rn nm ot t) ot = rment t nm := by
 unfold rment; rw [rn_great, rn_ends nm ot t 0 h]
theorem rn_anyment : ∀ {l : List Tm}, (∀ t ∈ l, t.has ot = false) → ((l.map (rn nm ot)).any fun t => rment t ot) = (l.any fun t => rment t nm)
 | [], _ => rfl
 | t :: l, h => by
  rw [List.map_cons, List.any_cons, List.any_cons, rn_ment nm ot (h t (List.mem_cons_self ..)), rn_anyment fun x hx => h x (List.mem_cons_of_mem _ hx)]
/-! ### Rows and spines -/
theorem has_kid {x : ByteArray} {t u : Tm} (h : t.has x = false) (hu : u ∈ t.ks) : u.has x = false := by
 obtain ⟨k, n, s, lv, ls, ks⟩ := t
 rw [Tm.has, Bool.or_eq_false_iff] at h
 exact hass_mem h.2 u hu
theorem rn_rowF : ∀ (n : Nat) (t : Tm) (acc : List Tm), rowF n (rn nm ot t) (acc.map (rn nm ot)) = ((rowF n t acc).1.map (rn nm ot), rn nm ot (rowF n t acc).2)
 | 0, t, acc => by rw [rowF, rowF]
 | n + 1, t, acc => by
  rw [rowF, rowF, rn_k, rn_ks]
  by_cases hk : t.k = 3
  · rw [if_pos hk, if_pos hk]
    match t.ks with
    | [] => rfl
    | [_] => rfl
    | d :: b :: _ =>
     have := rn_rowF n b (acc ++ [d])
     rw [List.map_append] at this
     exact this
  rw [if_neg hk, if_neg hk]
theorem rn_row (t : Tm) : trow (rn nm ot t) = ((trow t).1.map (rn nm ot), rn nm ot (trow t).2) := by
 unfold trow
 rw [rn_height]
 exact rn_rowF nm ot t.height t []
theorem rn_spF : ∀ (n : Nat) (t : Tm) (acc : List Tm), rspF n (rn nm ot t) (acc.map (rn nm ot)) = (rn nm ot (rspF n t acc).1, (rspF n t acc).2.map (rn nm ot))
 | 0, t, acc => by rw [rspF, rspF]
 | n + 1, t, acc => by
  rw [rspF, rspF, rn_k, rn_ks]
  by_cases hk : t.k = 6
  · rw [if_pos hk, if_pos hk]
    match t.ks with
    | [] => rfl
    | [_] => rfl
    | f :: a :: _ => exact rn_spF n f (a :: acc)
  rw [if_neg hk, if_neg hk]
theorem rn_spine (t : Tm) : rspine (rn nm ot t) = (rn nm ot (rspine t).1, (rspine t).2.map (rn nm ot)) := by
 unfold rspine
 rw [rn_great, rn_height]
 split
 · rfl
 exact rn_spF nm ot t.height t []
theorem rn_self (m : Nat) : rself ot m = rn nm ot (rself nm m) := by
 unfold rself
 rw [rn, rns, if_pos ⟨rfl, by simp⟩]
theorem rn_bad (p : Nat) (depth : Int) : ∀ (l : List Tm) (i : Nat), rbad p depth i (l.map (rn nm ot)) = rbad p depth i l
 | [], i => rfl
 | t :: l, i => by rw [List.map_cons, rbad, rbad, rn_k, rn_n, rn_bad p depth l (i + 1)]
end
theorem rowF_has {x : ByteArray} : ∀ (n : Nat) (t : Tm) (acc : List Tm), t.has x = false → (∀ a ∈ acc, a.has x = false) → (∀ a ∈ (rowF n t acc).1, a.has x = false) ∧ (rowF n t acc).2.has x = false
 | 0, t, acc, h, ha => ⟨ha, h⟩
 | n + 1, t, acc, h, ha => by
  by_cases hc : t.k = 3 ∧ 2 ≤ t.ks.length
  · have hl : 1 < t.ks.length := by omega
    rw [rowF_step hc.1 hl]
    refine rowF_has n _ _ (has_kid h (List.getElem_mem _)) ?_
    intro a hx
    rcases List.mem_append.1 hx with hx | hx
    · exact ha a hx
    rw [List.mem_singleton.1 hx]; exact has_kid h (List.getElem_mem _)
  rw [rowF_end hc]; exact ⟨ha, h⟩
theorem row_has {x : ByteArray} {t : Tm} (h : t.has x = false) : (∀ a ∈ (trow t).1, a.has x = false) ∧ (trow t).2.has x = false := rowF_has t.height t [] h (by simp)
theorem spF_has {x : ByteArray} : ∀ (n : Nat) (t : Tm) (acc : List Tm), t.has x = false → (∀ a ∈ acc, a.has x = false) → (rspF n t acc).1.has x = false ∧ ∀ a ∈ (rspF n t acc).2, a.has x = false
 | 0, t, acc, h, ha => ⟨h, ha⟩
 | n + 1, t, acc, h, ha => by
  by_cases hc : t.k = 6 ∧ 2 ≤ t.ks.length
  · have hl : 1 < t.ks.length := by omega
    rw [rspF_step hc.1 hl]
    refine spF_has n _ _ (has_kid h (List.getElem_mem _)) ?_
    intro a hx
    rcases List.mem_cons.1 hx with rfl | hx
    · exact has_kid h (List.getElem_mem _)
    exact ha a hx
  rw [rspF_end hc]; exact ⟨h, ha⟩
theorem spine_has {x : ByteArray} {t : Tm} (h : t.has x = false) : (rspine t).1.has x = false ∧ ∀ a ∈ (rspine t).2, a.has x = false := by
 unfold rspine
 split
 · exact ⟨h, by simp⟩
 exact spF_has t.height t [] h (by simp)
theorem self_has {nm ot : ByteArray} (h : (nm.toList == ot.toList) = false) (m : Nat) : (rself nm m).has ot = false := by
 unfold rself
 rw [Tm.has, Tm.hass, h]; simp
/-! ### The reference's Of -/
section
variable {nm ot : ByteArray} (hno : (nm.toList == ot.toList) = false)
include hno
theorem rn_end (m p idx : Nat) {t : Tm} (depth : Int) (h : t.has ot = false) : rend ot m p idx (rn nm ot t) depth = rend nm m p idx t depth := by
 obtain ⟨h1, h2⟩ := spine_has h
 unfold rend
 rw [rn_spine, rn_self nm ot m]
 simp only
 rw [rn_rSame nm ot h1 (self_has hno m), List.length_map, rn_bad, ← List.map_drop, rn_anyment nm ot (fun t ht => h2 t (List.mem_of_mem_drop ht))]
theorem rn_ctorF (m p idx : Nat) (F : Int) : ∀ (l : List Tm) (i : Nat) (sl : List (Int × Int)), (∀ t ∈ l, t.has ot = false) → rctorF ot m p idx F i sl (l.map (rn nm ot)) = rctorF nm m p idx F i sl l
 | [], i, sl, _ => by rw [List.map_nil, rctorF, rctorF]
 | a :: l, i, sl, h => by
  have ha := h a (List.mem_cons_self ..)
  obtain ⟨h1, h2⟩ := row_has ha
  rw [List.map_cons, rctorF, rctorF, rn_ment nm ot ha, rn_row]
  simp only [List.length_map]
  rw [rn_anyment nm ot h1, rn_end hno m p idx _ h2, rn_ctorF m p idx F l (i + 1) _ fun x hx => h x (List.mem_cons_of_mem _ hx), rn_ctorF m p idx F l (i + 1) sl fun x hx => h x (List.mem_cons_of_mem _ hx)]
omit hno in
theorem rn_allRS : ∀ (l ds : List Tm), (∀ t ∈ l, t.has ot = false) → (∀ t ∈ ds, t.has ot = false ∧ t.has nm = false) → allRS (l.map (rn nm ot)) ds = allRS l ds
 | [], ds, _, _ => by rw [List.map_nil]
 | a :: l, [], _, _ => by rw [List.map_cons]; simp [allRS]
 | a :: l, d :: ds, h, hd => by
  obtain ⟨h1, h2⟩ := hd d (List.mem_cons_self ..)
  have e : rSame (rn nm ot a) d = rSame a d := by
   have := rn_rSame nm ot (h a (List.mem_cons_self ..)) h1
   rwa [rn_id nm ot d h2] at this
  rw [List.map_cons, allRS, allRS, e, rn_allRS l ds (fun x hx => h x (List.mem_cons_of_mem _ hx)) fun x hx => hd x (List.mem_cons_of_mem _ hx)]
theorem rn_ctor (m p idx : Nat) (ds : List Tm) (t : Tm) (h : t.has ot = false) (hd : ∀ t ∈ ds, t.has ot = false ∧ t.has nm = false) : rctor ot m p idx ds (rn nm ot t) = rctor nm m p idx ds t := by
 obtain ⟨h1, h2⟩ := row_has h
 unfold rctor
 rw [rn_row]
 simp only [List.length_map]
 rw [← List.map_take, ← List.map_drop, rn_allRS _ ds (fun t ht => h1 t (List.mem_of_mem_take ht)) hd, rn_end hno m p idx _ h2, rn_ctorF hno m p idx _ _ _ _ fun t ht => h1 t (List.mem_of_mem_drop ht)]
theorem rn_ofF (m p idx : Nat) (ds : List Tm) (hd : ∀ t ∈ ds, t.has ot = false ∧ t.has nm = false) : ∀ (cts : List (ByteArray × Tm)) (acc : List CShape), (∀ c ∈ cts, c.2.has ot = false) →
    ofF (rctor ot m p idx ds) (cts.map fun c => (c.1, rn nm ot c.2)) acc = ofF (rctor nm m p idx ds) cts acc
 | [], acc, _ => by rw [List.map_nil, ofF, ofF]
 | c :: l, acc, h => by
  rw [List.map_cons, ofF, ofF]
  simp only
  rw [rn_ctor hno m p idx ds c.2 (h c (List.mem_cons_self ..)) hd, rn_ofF m p idx ds hd l _ fun x hx => h x (List.mem_cons_of_mem _ hx)]
theorem rn_of (dk vs pa : Int) {ty : Tm} {cts : List (ByteArray × Tm)} (ho : ty.has ot = false) (hn : ty.has nm = false) (hc : ∀ c ∈ cts, c.2.has ot = false) :
    rof dk ot vs pa ty (cts.map fun c => (c.1, rn nm ot c.2)) = rof dk nm vs pa ty cts := by
 unfold rof
 rw [rn_ofF hno _ _ _ _ (fun t ht => ⟨(row_has ho).1 t ht, (row_has hn).1 t ht⟩) cts [] hc]
end
end Go.Proofs.Ytiampoebdmflgaa
/- Another name for the type: the law of ShapeNames. -/
namespace Go.Proofs.Ytiampoebdmflgaa
open Go.RowKit
set_option linter.unusedVariables false
set_option maxRecDepth 100000
set_option maxHeartbeats 1000000
mutual
theorem rsz_nodes : ∀ t : Tm, rsz t ≤ t.nodes
 | .mk k n s lv ls ks => by
  rw [rsz, Tm.nodes]
  split
  · omega
  have := rszs_nodes (tar k).toNat ks; omega
theorem rszs_nodes : ∀ (m : Nat) (l : List Tm), rszs m l ≤ Tm.nodess l
 | 0, l => by rw [rszs]; omega
 | m + 1, [] => by rw [rszs]; omega
 | m + 1, t :: l => by
  rw [rszs, Tm.nodess]
  have := rsz_nodes t
  have := rszs_nodes m l
  omega
end
mutual
theorem vh_nodes : ∀ t : Tm, t.vh ≤ t.nodes
 | .mk k n s lv ls ks => by
  simp only [Tm.vh, Tm.nodes]
  have := vhs_nodes (nk k ks.length) ks 0
  omega
theorem vhs_nodes (N : Nat) : ∀ (l : List Tm) (i : Nat), Tm.vhs N l i ≤ Tm.nodess l
 | [], i => by simp [Tm.vhs]
 | t :: l, i => by
  simp only [Tm.vhs, Tm.nodess]
  have := vh_nodes t
  have := vhs_nodes N l (i + 1)
  split <;> omega
end
theorem not_great {t : Tm} (h : t.nodes ≤ 400) : rgreat t = false := by
 rw [great_iff]
 have := rsz_nodes t
 have := vh_nodes t
 omega
mutual
theorem ends_has (x : ByteArray) : ∀ (t : Tm) (d : Int), t.wf 6 = true → (rends t d).any (isCon x) = t.has x
 | .mk k n s lv ls ks, d, h => by
  rw [Tm.wf] at h
  simp only [Bool.and_eq_true, decide_eq_true_eq] at h
  obtain ⟨⟨⟨⟨h1, h2⟩, _⟩, _⟩, h5⟩ := h
  have hl : rlf k ks.length = false := by unfold rlf; rw [decide_eq_false (by omega), decide_eq_false (by omega)]; rfl
  rw [rends, Tm.has, hl]
  by_cases h0 : tar k = 0
  · have hk : ks = [] := List.length_eq_zero_iff.1 (by omega)
    rw [if_pos (by rw [h0]; rfl), hk, Tm.hass]
    rw [List.any_cons, List.any_nil, Bool.or_false, Bool.or_false]
    rfl
  have hk : k ≠ 7 := by rintro rfl; exact h0 rfl
  rw [if_neg (by simpa using h0), endss_has x k ks _ 0 d (by omega) h5, decide_eq_false hk]
  simp
theorem endss_has (x : ByteArray) (k : Int) : ∀ (l : List Tm) (m i : Nat) (d : Int), l.length = m → Tm.wfs 6 l = true → (rendss k m i l d).any (isCon x) = Tm.hass x l
 | [], m, i, d, hm, _ => by
  subst hm
  rw [List.length_nil, rendss, Tm.hass]; rfl
 | t :: l, m, i, d, hm, h => by
  subst hm
  rw [Tm.wfs, Bool.and_eq_true] at h
  rw [List.length_cons, rendss, Tm.hass, List.any_append, ends_has x t _ h.1, endss_has x k l _ (i + 1) d rfl h.2]
end
theorem ment_has {t : Tm} (x : ByteArray) (h : t.wf 6 = true) (hn : t.nodes ≤ 400) : rment t x = t.has x := by
 unfold rment
 rw [not_great hn, ends_has x t 0 h]; rfl
theorem rowF_wf {v : Int} : ∀ (n : Nat) (t : Tm) (acc : List Tm), t.wf v = true → (rowF n t acc).2.wf v = true
 | 0, t, acc, h => h
 | n + 1, t, acc, h => by
  by_cases hc : t.k = 3 ∧ 2 ≤ t.ks.length
  · have hl : 1 < t.ks.length := by omega
    rw [rowF_step hc.1 hl]
    refine rowF_wf n _ _ ?_
    obtain ⟨k, nn, s, lv, ls, ks⟩ := t
    rw [Tm.wf, Bool.and_eq_true] at h
    exact twfs_mem h.2 _ (List.getElem_mem _)
  rw [rowF_end hc]; exact h
theorem wf_level {v : Int} {t : Tm} (h : t.wf v = true) (hk : t.k = 2) : t.lv.wf v = true ∧ t.lv.nodes ≤ 100 := by
 obtain ⟨k, nn, s, lv, ls, ks⟩ := t
 rw [Tm.wf] at h
 simp only [Bool.and_eq_true, Bool.or_eq_true, decide_eq_true_eq] at h
 exact h.1.1.2.resolve_left fun h => h hk
structure Known (nm ot : ByteArray) (ty : Tm) (cts : List (ByteArray × Tm)) : Prop where
 ne : (nm.toList == ot.toList) = false
 wf : ty.wf 6 = true
 nodes : ty.nodes ≤ 400
 own : rment ty nm = false
 oth : rment ty ot = false
 ctors : ∀ c ∈ cts, c.2.wf 6 = true ∧ c.2.nodes ≤ 400 ∧ rment c.2 ot = false
theorem Known.rof {nm ot : ByteArray} {ty : Tm} {cts : List (ByteArray × Tm)} (h : Known nm ot ty cts) (dk vs pa : Int) :
    rof dk ot vs pa ty (cts.map fun c => (c.1, rn nm ot c.2)) = rof dk nm vs pa ty cts := by
 refine rn_of h.ne dk vs pa ?_ ?_ ?_
 · rw [← ment_has ot h.wf h.nodes]; exact h.oth
 · rw [← ment_has nm h.wf h.nodes]; exact h.own
 intro c hc
 obtain ⟨h1, h2, h3⟩ := h.ctors c hc
 rw [← ment_has ot h1 h2]; exact h3
theorem names_law {nm ot : ByteArray} {ty : Tm} {cts : List (ByteArray × Tm)} (h : Known nm ot ty cts) (dk vs pa : Int) :
    (tof dk ot vs pa ty (cts.map fun c => (c.1, rn nm ot c.2))).2 = (tof dk nm vs pa ty cts).2 ∧
    ((tof dk nm vs pa ty cts).2 = 0 → sameSh (tof dk nm vs pa ty cts).1 (tof dk ot vs pa ty (cts.map fun c => (c.1, rn nm ot c.2))).1 = true) := by
 obtain ⟨a1, a2, a3, a4, a5⟩ := of_eq dk nm vs pa ty cts
 obtain ⟨b1, b2, b3, b4, b5⟩ := of_eq dk ot vs pa ty (cts.map fun c => (c.1, rn nm ot c.2))
 rw [h.rof] at b1 b2 b3 b4
 refine ⟨by rw [b1, a1], fun h0 => ?_⟩
 have g0 : (tof dk ot vs pa ty (cts.map fun c => (c.1, rn nm ot c.2))).2 = 0 := by rw [b1, ← a1]; exact h0
 have hs : rsound (Proofs.Ytiampoebdmflgaa.rof dk nm vs pa ty cts).1.2.1 = true := by
  have e : (Proofs.Ytiampoebdmflgaa.rof dk nm vs pa ty cts).2 = 0 := by rw [← a1]; exact h0
  unfold Proofs.Ytiampoebdmflgaa.rof at e ⊢
  by_cases h1 : dk ≠ 3 ∨ pa < 0 ∨ vs < 0 ∨ 6 < vs
  · rw [if_pos h1] at e; exact absurd e (by decide)
  rw [if_neg h1] at e ⊢
  by_cases h2 : (trow ty).2.k ≠ 2 ∨ (((trow ty).1.length : Nat) : Int) < pa
  · rw [if_pos h2] at e; exact absurd e (by decide)
  rw [if_neg h2] at e ⊢
  have hk : (trow ty).2.k = 2 := by omega
  obtain ⟨g1, g2⟩ := wf_level (rowF_wf ty.height ty [] h.wf) hk
  have := rsound_wf (by decide) g1 g2
  split
  · exact this
  rename_i hc; rw [if_neg hc] at e; exact absurd e hc
 unfold sameSh
 rw [a2, b2, a3, b3, a4 h0, b4 g0, req_own2, req_self hs]
 simp
end Go.Proofs.Ytiampoebdmflgaa
/- ShapeOf walked. -/
namespace Go.Proofs.Ytiampoebdmflgaa
open Go.RowKit
set_option linter.unusedVariables false
set_option maxRecDepth 100000
set_option maxHeartbeats 8000000
set_option linter.unusedSimpArgs false
theorem ShIs.old {D D' : Nat → Prop} {w w' : World} {s : TShape} {cs : Array Value} (h : ShIs D w s cs) (ho : Old D w w') (hD : ∀ k, D k → D' k) : ShIs D' w' s cs := by
 obtain ⟨x, y, z, A, c, h1, h2, h3⟩ := h
 refine ⟨x, y, z, A, c, h1, h2.old ho hD, fun j y hy => ?_⟩
 obtain ⟨a, cs, k1, k2, k3, k4⟩ := h3 j y hy
 exact ⟨a, cs, k1, hD _ k2, k3.old ho (by rw [Addr_add_block]; exact k2), k4.old ho hD⟩
theorem ShIs.lit {D : Nat → Prop} {w : World} {s : TShape} {cs : Array Value} (h : ShIs D w s cs) : ∃ (k n : Int) (B : Option Addr) (m d : Nat) (A : Option Addr) (c : Nat), cs = #[.int .i64 s.1, .int .i64 k, .int .i64 n, .slice B m d, .slice A s.2.2.length c] ∧ k = s.2.1.k ∧ LvIs D w s.2.1 #[.int .i64 k, .int .i64 n, .slice B m d] := by
 obtain ⟨x, y, z, A, c, rfl, h2, h3⟩ := h
 have h4 := h2
 generalize s.2.1 = l at h2 h4 ⊢
 cases l with
 | mk k n ks =>
  simp only [LvIs] at h2
  obtain ⟨B, d, h5, _⟩ := h2
  simp only [Array.mk.injEq, List.cons.injEq, and_true] at h5
  obtain ⟨rfl, rfl, rfl⟩ := h5
  exact ⟨_, _, _, _, _, _, _, rfl, rfl, h4⟩
end Go.Proofs.Ytiampoebdmflgaa
/- term.lift, Lift, ownTerm. -/
namespace Go.Proofs.Ytiampoebdmflgaa
open Go.RowKit
set_option linter.unusedVariables false
set_option maxRecDepth 100000
set_option maxHeartbeats 4000000
set_option linter.unusedSimpArgs false
end Go.Proofs.Ytiampoebdmflgaa
/- term.Inst: its visitors. -/
namespace Go.Proofs.Ytiampoebdmflgaa
open Go.RowKit
set_option linter.unusedVariables false
set_option maxRecDepth 100000
set_option maxHeartbeats 4000000
set_option linter.unusedSimpArgs false
end Go.Proofs.Ytiampoebdmflgaa
/- term.Inst. -/
namespace Go.Proofs.Ytiampoebdmflgaa
open Go.RowKit
set_option linter.unusedVariables false
set_option maxRecDepth 100000
set_option maxHeartbeats 4000000
set_option linter.unusedSimpArgs false
end Go.Proofs.Ytiampoebdmflgaa
