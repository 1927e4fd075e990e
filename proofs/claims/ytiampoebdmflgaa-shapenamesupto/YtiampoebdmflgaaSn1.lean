/- Texts put one behind the other: Lcopy, Lplus, Norm, Nplus, Nor, Nshort, Nequal, Nrepeat, Nof, Inv. -/
import Derived.Test.YtiampoebdmflgaaSn0
import Derived.Lib.MinMax
import Derived.Deep.LoopGhost
import Derived.Laws.MathBits
import Derived.Laws.CopyOwn
import Derived.Laws.MakeOwn
/- level.copied, own, Plus. -/
namespace Go.Proofs.Ytiampoebdmflgaa
open Go.RowKit
set_option linter.unusedVariables false
set_option maxRecDepth 100000
set_option maxHeartbeats 4000000
set_option linter.unusedSimpArgs false
theorem tl : (∀ {α : Type} {xs : List α} {i : Nat} (h : i < xs.toArray.size), xs.toArray[i] = xs[i]'h) ∧ (∀ {α : Type} (a : α) (s : List α) (i : Nat) (h : i + 1 < (a :: s).length), (a :: s)[i + 1] = s[i]'(Nat.lt_of_succ_lt_succ h)) ∧
    (∀ {α : Type} (a : α) (s : List α) (h : 0 < (a :: s).length), (a :: s)[0] = a) ∧ (∀ (a : Act) (v : Value) (d : Tmp), a.put (some d) v = { tmps := a.tmps.setIfInBounds d v, defers := a.defers }) ∧ (∀ (a : Act) (v : Value), a.put none v = a) ∧
    (∀ {α : Type} (l : List α) (i : Nat) (a : α), l.toArray.setIfInBounds i a = (l.set i a).toArray) ∧ (∀ {α : Type} {x : α} {xs : List α} {a : α}, (x :: xs).set 0 a = a :: xs) ∧ (∀ {α : Type} {x : α} {xs : List α} {i : Nat} {a : α}, (x :: xs).set (i + 1) a = x :: xs.set i a) :=
 ⟨fun _ => rfl, fun _ _ _ _ => rfl, fun _ _ _ => rfl, fun _ _ _ => rfl, fun _ _ => rfl, fun _ _ _ => List.setIfInBounds_toArray .., rfl, rfl⟩
mutual
def lcopy : Lv → Lv
 | .mk k n ks => .mk k (if k = 4 then 0 else n) (lcopys ks)
def lcopys : List Lv → List Lv
 | [] => []
 | l :: ls => lcopy l :: lcopys ls
end
theorem lcopys_eq : ∀ ks, lcopys ks = ks.map lcopy
 | [] => rfl
 | l :: ls => by simp [lcopys, lcopys_eq ls]
theorem lv_info : (Try.prog.info? 24).map (fun i => (i.zero, i.size, i.bytes)) = some (some (.agg #[.int .i64 0, .int .i64 0, .slice none 0 0]), 3, 40) := by kernel_rfl
theorem lv_zero (w : World) : (zeroValue 24).run Try.prog w = .ok (.agg #[.int .i64 0, .int .i64 0, .slice none 0 0]) w := by kernel_rfl
def fresh (w w' : World) : Nat → Prop := fun k => w.heap.size ≤ k ∧ k < w'.heap.size
theorem lcopied_any (l : Lv) : ∀ (cs : Array Value) (D : Nat → Prop) (w : World), Within D w → LvIs D w l cs →
    Calls Try.prog 79 #[.agg cs] w fun e w' => ∃ cs', e = .returned (.agg cs') ∧ LvIs (fresh w w') w' (lcopy l) cs' ∧ Below w.heap.size w w' := by
 induction l using Lv.ind with
 | h k n ks ih =>
  intro cs D w hD hl
  have hl0 := hl
  simp only [LvIs] at hl
  obtain ⟨A, c, rfl, hk, hn, hlen, hks⟩ := hl
  have hz := lv_zero
  have H1 := Lib.hid hl0; clear hl0
  by_cases hk4 : k = 4
  case pos =>
   have t1 : (k != 4) = false := by simpa using hk4
   have HK4 := Lib.hid hk4; clear hk4
   go_enter Try.func79, Try.ntmps79
   go_wp2_with fail
   obtain ⟨W1, hW1⟩ : ∃ W1, ((w.alloc (.cells #[.int .i64 k, .int .i64 n, .slice A ks.length c] 24)).alloc (.cells #[.int .i64 0, .int .i64 0, .slice none 0 0] 24)).alloc (.cells #[.int .i64 k, .int .i64 0, .slice none 0 0] 24) = W1 := ⟨_, rfl⟩
   have hu1 : Upd nob w W1 := by rw [← hW1]; exact (((Upd.refl nob w).alloc _).alloc _).alloc _
   have hs1 : W1.heap.size = w.heap.size + 3 := by rw [← hW1]; simp
   have b1 : Blk W1 (w.heap.size + 1) 24 #[.int .i64 0, .int .i64 0, .slice none 0 0] := by
    rw [← hW1]
    have := (Blk.new (w.alloc (.cells #[.int .i64 k, .int .i64 n, .slice A ks.length c] 24)) 24 #[.int .i64 0, .int .i64 0, .slice none 0 0]).alloc (.cells #[.int .i64 k, .int .i64 0, .slice none 0 0] 24)
    rwa [World.size_alloc] at this
   have b2 : Blk W1 (w.heap.size + 1 + 1) 24 #[.int .i64 k, .int .i64 0, .slice none 0 0] := by
    rw [← hW1]
    have := Blk.new ((w.alloc (.cells #[.int .i64 k, .int .i64 n, .slice A ks.length c] 24)).alloc (.cells #[.int .i64 0, .int .i64 0, .slice none 0 0] 24)) 24 #[.int .i64 k, .int .i64 0, .slice none 0 0]
    rwa [World.size_alloc, World.size_alloc] at this
   rw [hW1]
   clear hW1
   go_loopw [18] (fun v wr => ∃ j : Nat, j ≤ ks.length ∧ v = .int .i64 j ∧ ∃ sv, Blk wr (w.heap.size + 1) 24 #[.int .i64 0, .int .i64 0, .slice none 0 0] ∧ Blk wr (w.heap.size + 1 + 1) 24 #[.int .i64 k, .int .i64 0, sv] ∧
       Coll lvR nob (w.heap.size + 1 + 1 + 1) 24 wr sv ((ks.take j).map lcopy) ∧ Upd nob w wr ∧ w.heap.size + 3 ≤ wr.heap.size)
    (fun v _ => ks.length - (intOf v).toNat)
   case atStart => exact ⟨0, Nat.zero_le _, rfl, _, b1, b2, Coll.nil_, hu1, by omega⟩
   case round =>
    obtain ⟨j, hj, rfl, sv, c1, c2, hc, hu, hsz⟩ := hrel
    obtain ⟨sA, sc, rfl, hcp⟩ := hc.form
    have hjl : ((ks.take j).map lcopy).length = j := by simp; omega
    rw [hjl] at c2 hc
    rcases Nat.lt_or_ge j ks.length with hlt | hge
    · have t2 : decide ((j : Int) < ks.length) = true := by simp [hlt]
      obtain ⟨a, cs', hA, hab, hrow, hl'⟩ := hks.at_ (List.getElem?_eq_getElem hlt)
      rw [Nat.zero_add] at hrow
      have hrow' := hrow.old (hD.old hu) (by rw [Addr_add_block]; exact hab)
      have hl2 := hl'.old (hD.old hu) (fun _ h => h)
      obtain ⟨⟨k', n', ks'⟩, hlj⟩ : ∃ y, ks[j] = y := ⟨_, rfl⟩
      rw [hlj] at hl2
      have hl3 := hl2
      simp only [LvIs] at hl2
      obtain ⟨A', c', rfl, _, _, _, _⟩ := hl2
      clear hrow hl'
      have HA := Lib.hid hA
      have C1 := Lib.hid c1
      have C2 := Lib.hid c2
      have HJ := Lib.hid hjl
      clear hA c1 c2 hjl
      go_wp2_with (first
       | (refine wpList_index_at rfl 22 (.tmp 16) (.tmp 18) rfl _ a _ _ rfl HA.out j rfl hlt 24 Try.underlying22 3 lv_size ?_)
       | (refine wpList_at rfl 24 (.tmp 20) rfl (a.add (j * 3)) rfl _ _ hrow' Try.underlying24 rfl lv_size ?_))
      obtain ⟨W, hW⟩ : ∃ W, wr.alloc (.cells #[.int .i64 k', .int .i64 n', .slice A' ks'.length c'] 24) = W := ⟨_, rfl⟩
      have huW : Upd nob wr W := by rw [← hW]; exact (Upd.refl nob wr).alloc _
      have hsW : W.heap.size = wr.heap.size + 1 := by rw [← hW]; simp
      have d5 : Blk W wr.heap.size 24 #[.int .i64 k', .int .i64 n', .slice A' ks'.length c'] := by rw [← hW]; exact Blk.new _ _ _
      have d2 : Blk W (w.heap.size + 1 + 1) 24 #[.int .i64 k, .int .i64 0, .slice sA j sc] := C2.out.upd huW (fun f => f)
      have e2 : W.cell? ⟨w.heap.size + 1 + 1, 2, none⟩ = some (.slice sA j sc) := d2.cell 2
      rw [hW]
      clear hW
      have D5 := Lib.hid d5
      have D2 := Lib.hid d2
      clear d5 d2
      refine wp_region_P (by kernel_rfl) ?_
      refine wpAny_of_E (fun X : World => ∀ p : Addr, p.block < W.heap.size → X.cell? p = W.cell? p) 5 _ _ _ _ ?_
      have hS : ∀ p : Addr, p.block < W.heap.size → W.drew.cell? p = W.cell? p := fun _ _ => rfl
      refine eT 0 ?_ [1] rfl (by kernel_rfl) (by rfl) ?_ hS ?_
      rotate_left; · intro wx hx; clear hx; go_simp; with_reducible rfl
      try simp only [tl]
      refine eT 1 ?_ [] rfl (by kernel_rfl) (by rfl) ?_ hS ?_
      rotate_left
      · intro wx hx
        have q0 := (hx ⟨w.heap.size + 1 + 1, 2, none⟩ (by show w.heap.size + 1 + 1 < _; omega)).trans e2
        clear hx
        go_simp
        with_reducible rfl
      try simp only [tl]
      refine eT 2 (.agg #[.int .i64 k', .int .i64 n', .slice A' ks'.length c']) [3] rfl (by kernel_rfl) (by rfl) ?_ hS ?_
      · intro wx hx
        exact run_load_at 24 (.tmp 5) rfl ⟨wr.heap.size, 0, none⟩ rfl #[.int .i64 k', .int .i64 n', .slice A' ks'.length c'] _ (row_on D5.out.rowAt (by show wr.heap.size < _; omega) hx) Try.underlying24 rfl lv_size
      try simp only [tl]
      refine wpAnyE_one (i := 3) (by kernel_rfl) (by kernel_rfl) rfl (by rfl) fun K hK => ?_
      go_simp
      refine (ih ks[j] (List.getElem_mem hlt) _ D W.drew ((hD.up hu).up huW).drew (by rw [hlj]; exact (hl3.old ((hD.up hu).old huW) (fun _ h => h)).drew)).mono ?_
      rintro e w5 ⟨cs5, rfl, hl5, hb5⟩
      have hu4 : Upd nob W w5 := ((Upd.refl nob W).drew).trans (Upd.of_below hb5)
      have hu5 : Upd nob W (w5.alloc (.cells cs5 24)) := hu4.alloc _
      have hS : ∀ p : Addr, p.block < W.heap.size → w5.cell? p = W.cell? p := cells_of_upd hu4
      refine hK _ _ hS ?_
      clear hK K; try simp only [tl]
      refine wpAnyE_one (i := 4) (by kernel_rfl) (by kernel_rfl) rfl (by rfl) fun K hK => ?_
      refine owp_build1 22 24 (.tmp 25) rfl _ 3 40 Try.underlying22 lv_info (by decide) (by decide) cs5 rfl hl5.oneCell.1 ?_
      refine hK _ _ (cells_of_upd hu5) ?_
      clear hK K; try simp only [tl]
      have hc5 : Coll lvR nob (w.heap.size + 1 + 1 + 1) 24 (w5.alloc (.cells cs5 24)) (.slice sA j sc) ((ks.take j).map lcopy) := (hc.upd huW (fun _ f => f.elim) (fun _ f => f.elim)).upd hu5 (fun _ f => f.elim) (fun _ f => f.elim)
      have hl5' : LvIs (fresh W.drew w5) (w5.alloc (.cells cs5 24)) (lcopy ks[j]) cs5 := hl5.old (fun x hx => (Below.heap_alloc _ _ _ hx.2)) (fun _ h => h)
      have hD5 : ∀ x, fresh W.drew w5 x → cd nob (w.heap.size + 1 + 1 + 1) (w5.alloc (.cells cs5 24)) (.slice sA j sc) x := fun x hx => by
       have h1 : W.heap.size ≤ x := hx.1
       have h2 := hx.2
       refine ⟨.inr ⟨by omega, by simp; omega⟩, fun h => ?_⟩
       have := (hc.lt h).2
       omega
      refine wpAnyE_z (by kernel_rfl) rfl (by rfl) fun K hK => ?_
      refine owp_collect (.tmp 23) (.tmp 26) 22 rfl _ 40 Try.underlying22 lv_info (by kernel_rfl) (by decide) rfl hc5 (fun _ f => f.elim) w5.heap.size cs5 (by rfl) (Blk.new _ _ _) (lcopy ks[j]) _ hl5' hD5 j HJ.out (by omega) (by omega) (by have := hu5.size; omega) ?_
      intro sA6 sc6 w6 hc6 hu6 hat6
      refine hK _ _ ?_
      clear hK K; try simp only [tl]
      refine wpAny_one (i := 6) (by kernel_rfl) rfl (by rfl) fun K hK => ?_
      go_simp
      refine hK _ _ ?_
      clear hK K; try simp only [tl]
      have huW6 : Upd (fun k => (Value.slice sA j sc).ownBlock = some k) W w6 := (hu5.mono (fun _ f => f.elim)).trans hu6
      have g2 : Blk w6 (w.heap.size + 1 + 1) 24 #[.int .i64 k, .int .i64 0, .slice sA j sc] := D2.out.upd huW6 (fun h => by have := (hc.lt h).1; omega)
      have G2 := Lib.hid g2
      have g2c : w6.cell? ⟨w.heap.size + 1 + 1, 2, none⟩ = some (.slice sA j sc) := g2.cell 2
      have g2f := g2.frozen 2
      clear g2
      refine wpAny_one (i := 7) (by kernel_rfl) rfl (by rfl) fun K hK => ?_
      go_simp
      refine hK _ _ ?_
      clear hK K; try simp only [tl]
      refine wpAny_done (by kernel_rfl) ?_ _
      refine NoPanic.normal ?_
      go_wp2_with fail
      case roundEnd =>
       have hmap : (ks.take (j + 1)).map lcopy = (ks.take j).map lcopy ++ [lcopy ks[j]] := map_take_succ _ _ _ hlt
       have hlt6 := fun g h => hc6.lt (g := g) h
       have hat6' : ∀ g, (Value.slice sA6 (j + 1) sc6).ownBlock = some g → w.heap.size + 1 + 1 + 1 ≤ g := fun g h => (hlt6 g h).1
       have hfin : Upd (fun x => (Value.slice sA j sc).ownBlock = some x ∨ x = w.heap.size + 1 + 1) wr (w6.setCell ⟨w.heap.size + 1 + 1, 2, none⟩ (.slice sA6 (j + 1) sc6)) :=
        ((huW.mono (fun _ f => f.elim)).trans (huW6.mono fun _ h => .inl h)).setCell (p := ⟨w.heap.size + 1 + 1, 2, none⟩) (.inl (.inr rfl)) _
       have hnot : ∀ x, x < w.heap.size + 1 + 1 → ¬ ((Value.slice sA j sc).ownBlock = some x ∨ x = w.heap.size + 1 + 1) := fun x hx h => by
        rcases h with h | h
        · have := (hc.lt h).1; omega
        omega
       refine ⟨⟨j + 1, by omega, by simp, .slice sA6 (j + 1) sc6, C1.out.upd hfin (hnot _ (by omega)), ?_, ?_, ?_, ?_⟩, by simp [intOf]; omega⟩
       · exact G2.out.set 2 _
       · rw [hmap]
         exact hc6.upd ((Upd.refl (fun x => x = w.heap.size + 1 + 1) w6).setCell (p := ⟨w.heap.size + 1 + 1, 2, none⟩) (.inl rfl) _) (fun x hx => ⟨by omega, fun f => f⟩) (fun _ f => f.elim)
       · exact hu.trans' hfin (fun x hx h => hnot x (by omega) h)
       have := hfin.size; omega
    have t2 : decide ((j : Int) < ks.length) = false := by simp; omega
    have hje : j = ks.length := by omega
    subst hje
    have r2 := c2.rowAt
    have hst : (Try.prog.info? 24).map (·.size) = some (#[Value.int .i64 k, Value.int .i64 0, Value.slice sA ks.length sc].size) := lv_size
    have C1 := Lib.hid c1
    have C2 := Lib.hid c2
    clear c1 c2
    go_wp2_with (first
     | (refine wpList_at rfl 24 (.tmp 3) rfl ⟨w.heap.size + 1 + 1, 0, none⟩ rfl _ _ r2 Try.underlying24 rfl lv_size ?_)
     | (refine wpList_store_row rfl 24 (.tmp 2) (.tmp 30) rfl (w.heap.size + 1) _ rfl rfl 24 _ C1.out hst rfl (by simp [Value.oneCell']) ?_))
    have hfin : Upd (fun x => x = w.heap.size + 1) wr (wr.setRow (w.heap.size + 1) #[.int .i64 k, .int .i64 0, .slice sA ks.length sc]) := (Upd.refl (fun x => x = w.heap.size + 1) wr).setRow (.inl rfl) _
    have b9 := C1.out.row #[.int .i64 k, .int .i64 0, .slice sA ks.length sc]
    refine bodyPost_ret (results_cell_row rfl _ _ (w.heap.size + 1) 24 #[.int .i64 k, .int .i64 0, .slice sA ks.length sc] (0, 0) _ rfl b9 Try.underlying24 rfl hst) rfl ?_
    refine ⟨_, rfl, ?_, ?_⟩
    · have hc9 := hc.upd hfin (fun x hx => ⟨by omega, fun f => f⟩) (fun _ f => f.elim)
      obtain ⟨A9, c9, hv9, hcap9, hat⟩ := hc9.lvs (D := fresh w (wr.setRow (w.heap.size + 1) #[.int .i64 k, .int .i64 0, .slice sA ks.length sc])) (fun x hx => hx.elim (fun f => f.elim) fun h => ⟨by omega, h.2⟩)
      rw [List.take_length] at hv9 hat hcap9
      simp only [List.length_map] at hv9 hcap9
      injection hv9 with q1 q2 q3
      subst q1 q3
      simp only [lcopy, LvIs, lcopys_eq, List.length_map]
      rw [if_pos HK4.out]
      exact ⟨_, _, rfl, hk, (by unfold InI; omega), ⟨hlen.1, hcap9⟩, hat⟩
    exact (hu.trans' hfin (fun x hx h => by omega)).below
  case neg =>
   have t1 : (k != 4) = true := by simpa using hk4
   have HK4 := Lib.hid hk4; clear hk4
   go_enter Try.func79, Try.ntmps79
   go_wp2_with fail
   obtain ⟨W1, hW1⟩ : ∃ W1, ((w.alloc (.cells #[.int .i64 k, .int .i64 n, .slice A ks.length c] 24)).alloc (.cells #[.int .i64 0, .int .i64 0, .slice none 0 0] 24)).alloc (.cells #[.int .i64 k, .int .i64 n, .slice none 0 0] 24) = W1 := ⟨_, rfl⟩
   have hu1 : Upd nob w W1 := by rw [← hW1]; exact (((Upd.refl nob w).alloc _).alloc _).alloc _
   have hs1 : W1.heap.size = w.heap.size + 3 := by rw [← hW1]; simp
   have b1 : Blk W1 (w.heap.size + 1) 24 #[.int .i64 0, .int .i64 0, .slice none 0 0] := by
    rw [← hW1]
    have := (Blk.new (w.alloc (.cells #[.int .i64 k, .int .i64 n, .slice A ks.length c] 24)) 24 #[.int .i64 0, .int .i64 0, .slice none 0 0]).alloc (.cells #[.int .i64 k, .int .i64 n, .slice none 0 0] 24)
    rwa [World.size_alloc] at this
   have b2 : Blk W1 (w.heap.size + 1 + 1) 24 #[.int .i64 k, .int .i64 n, .slice none 0 0] := by
    rw [← hW1]
    have := Blk.new ((w.alloc (.cells #[.int .i64 k, .int .i64 n, .slice A ks.length c] 24)).alloc (.cells #[.int .i64 0, .int .i64 0, .slice none 0 0] 24)) 24 #[.int .i64 k, .int .i64 n, .slice none 0 0]
    rwa [World.size_alloc, World.size_alloc] at this
   rw [hW1]
   clear hW1
   go_loopw [18] (fun v wr => ∃ j : Nat, j ≤ ks.length ∧ v = .int .i64 j ∧ ∃ sv, Blk wr (w.heap.size + 1) 24 #[.int .i64 0, .int .i64 0, .slice none 0 0] ∧ Blk wr (w.heap.size + 1 + 1) 24 #[.int .i64 k, .int .i64 n, sv] ∧
       Coll lvR nob (w.heap.size + 1 + 1 + 1) 24 wr sv ((ks.take j).map lcopy) ∧ Upd nob w wr ∧ w.heap.size + 3 ≤ wr.heap.size)
    (fun v _ => ks.length - (intOf v).toNat)
   case atStart => exact ⟨0, Nat.zero_le _, rfl, _, b1, b2, Coll.nil_, hu1, by omega⟩
   case round =>
    obtain ⟨j, hj, rfl, sv, c1, c2, hc, hu, hsz⟩ := hrel
    obtain ⟨sA, sc, rfl, hcp⟩ := hc.form
    have hjl : ((ks.take j).map lcopy).length = j := by simp; omega
    rw [hjl] at c2 hc
    rcases Nat.lt_or_ge j ks.length with hlt | hge
    · have t2 : decide ((j : Int) < ks.length) = true := by simp [hlt]
      obtain ⟨a, cs', hA, hab, hrow, hl'⟩ := hks.at_ (List.getElem?_eq_getElem hlt)
      rw [Nat.zero_add] at hrow
      have hrow' := hrow.old (hD.old hu) (by rw [Addr_add_block]; exact hab)
      have hl2 := hl'.old (hD.old hu) (fun _ h => h)
      obtain ⟨⟨k', n', ks'⟩, hlj⟩ : ∃ y, ks[j] = y := ⟨_, rfl⟩
      rw [hlj] at hl2
      have hl3 := hl2
      simp only [LvIs] at hl2
      obtain ⟨A', c', rfl, _, _, _, _⟩ := hl2
      clear hrow hl'
      have HA := Lib.hid hA
      have C1 := Lib.hid c1
      have C2 := Lib.hid c2
      have HJ := Lib.hid hjl
      clear hA c1 c2 hjl
      go_wp2_with (first
       | (refine wpList_index_at rfl 22 (.tmp 16) (.tmp 18) rfl _ a _ _ rfl HA.out j rfl hlt 24 Try.underlying22 3 lv_size ?_)
       | (refine wpList_at rfl 24 (.tmp 20) rfl (a.add (j * 3)) rfl _ _ hrow' Try.underlying24 rfl lv_size ?_))
      obtain ⟨W, hW⟩ : ∃ W, wr.alloc (.cells #[.int .i64 k', .int .i64 n', .slice A' ks'.length c'] 24) = W := ⟨_, rfl⟩
      have huW : Upd nob wr W := by rw [← hW]; exact (Upd.refl nob wr).alloc _
      have hsW : W.heap.size = wr.heap.size + 1 := by rw [← hW]; simp
      have d5 : Blk W wr.heap.size 24 #[.int .i64 k', .int .i64 n', .slice A' ks'.length c'] := by rw [← hW]; exact Blk.new _ _ _
      have d2 : Blk W (w.heap.size + 1 + 1) 24 #[.int .i64 k, .int .i64 n, .slice sA j sc] := C2.out.upd huW (fun f => f)
      have e2 : W.cell? ⟨w.heap.size + 1 + 1, 2, none⟩ = some (.slice sA j sc) := d2.cell 2
      rw [hW]
      clear hW
      have D5 := Lib.hid d5
      have D2 := Lib.hid d2
      clear d5 d2
      refine wp_region_P (by kernel_rfl) ?_
      refine wpAny_of_E (fun X : World => ∀ p : Addr, p.block < W.heap.size → X.cell? p = W.cell? p) 5 _ _ _ _ ?_
      have hS : ∀ p : Addr, p.block < W.heap.size → W.drew.cell? p = W.cell? p := fun _ _ => rfl
      refine eT 0 ?_ [1] rfl (by kernel_rfl) (by rfl) ?_ hS ?_
      rotate_left; · intro wx hx; clear hx; go_simp; with_reducible rfl
      try simp only [tl]
      refine eT 1 ?_ [] rfl (by kernel_rfl) (by rfl) ?_ hS ?_
      rotate_left
      · intro wx hx
        have q0 := (hx ⟨w.heap.size + 1 + 1, 2, none⟩ (by show w.heap.size + 1 + 1 < _; omega)).trans e2
        clear hx
        go_simp
        with_reducible rfl
      try simp only [tl]
      refine eT 2 (.agg #[.int .i64 k', .int .i64 n', .slice A' ks'.length c']) [3] rfl (by kernel_rfl) (by rfl) ?_ hS ?_
      · intro wx hx
        exact run_load_at 24 (.tmp 5) rfl ⟨wr.heap.size, 0, none⟩ rfl #[.int .i64 k', .int .i64 n', .slice A' ks'.length c'] _ (row_on D5.out.rowAt (by show wr.heap.size < _; omega) hx) Try.underlying24 rfl lv_size
      try simp only [tl]
      refine wpAnyE_one (i := 3) (by kernel_rfl) (by kernel_rfl) rfl (by rfl) fun K hK => ?_
      go_simp
      refine (ih ks[j] (List.getElem_mem hlt) _ D W.drew ((hD.up hu).up huW).drew (by rw [hlj]; exact (hl3.old ((hD.up hu).old huW) (fun _ h => h)).drew)).mono ?_
      rintro e w5 ⟨cs5, rfl, hl5, hb5⟩
      have hu4 : Upd nob W w5 := ((Upd.refl nob W).drew).trans (Upd.of_below hb5)
      have hu5 : Upd nob W (w5.alloc (.cells cs5 24)) := hu4.alloc _
      have hS : ∀ p : Addr, p.block < W.heap.size → w5.cell? p = W.cell? p := cells_of_upd hu4
      refine hK _ _ hS ?_
      clear hK K; try simp only [tl]
      refine wpAnyE_one (i := 4) (by kernel_rfl) (by kernel_rfl) rfl (by rfl) fun K hK => ?_
      refine owp_build1 22 24 (.tmp 25) rfl _ 3 40 Try.underlying22 lv_info (by decide) (by decide) cs5 rfl hl5.oneCell.1 ?_
      refine hK _ _ (cells_of_upd hu5) ?_
      clear hK K; try simp only [tl]
      have hc5 : Coll lvR nob (w.heap.size + 1 + 1 + 1) 24 (w5.alloc (.cells cs5 24)) (.slice sA j sc) ((ks.take j).map lcopy) := (hc.upd huW (fun _ f => f.elim) (fun _ f => f.elim)).upd hu5 (fun _ f => f.elim) (fun _ f => f.elim)
      have hl5' : LvIs (fresh W.drew w5) (w5.alloc (.cells cs5 24)) (lcopy ks[j]) cs5 := hl5.old (fun x hx => (Below.heap_alloc _ _ _ hx.2)) (fun _ h => h)
      have hD5 : ∀ x, fresh W.drew w5 x → cd nob (w.heap.size + 1 + 1 + 1) (w5.alloc (.cells cs5 24)) (.slice sA j sc) x := fun x hx => by
       have h1 : W.heap.size ≤ x := hx.1
       have h2 := hx.2
       refine ⟨.inr ⟨by omega, by simp; omega⟩, fun h => ?_⟩
       have := (hc.lt h).2
       omega
      refine wpAnyE_z (by kernel_rfl) rfl (by rfl) fun K hK => ?_
      refine owp_collect (.tmp 23) (.tmp 26) 22 rfl _ 40 Try.underlying22 lv_info (by kernel_rfl) (by decide) rfl hc5 (fun _ f => f.elim) w5.heap.size cs5 (by rfl) (Blk.new _ _ _) (lcopy ks[j]) _ hl5' hD5 j HJ.out (by omega) (by omega) (by have := hu5.size; omega) ?_
      intro sA6 sc6 w6 hc6 hu6 hat6
      refine hK _ _ ?_
      clear hK K; try simp only [tl]
      refine wpAny_one (i := 6) (by kernel_rfl) rfl (by rfl) fun K hK => ?_
      go_simp
      refine hK _ _ ?_
      clear hK K; try simp only [tl]
      have huW6 : Upd (fun k => (Value.slice sA j sc).ownBlock = some k) W w6 := (hu5.mono (fun _ f => f.elim)).trans hu6
      have g2 : Blk w6 (w.heap.size + 1 + 1) 24 #[.int .i64 k, .int .i64 n, .slice sA j sc] := D2.out.upd huW6 (fun h => by have := (hc.lt h).1; omega)
      have G2 := Lib.hid g2
      have g2c : w6.cell? ⟨w.heap.size + 1 + 1, 2, none⟩ = some (.slice sA j sc) := g2.cell 2
      have g2f := g2.frozen 2
      clear g2
      refine wpAny_one (i := 7) (by kernel_rfl) rfl (by rfl) fun K hK => ?_
      go_simp
      refine hK _ _ ?_
      clear hK K; try simp only [tl]
      refine wpAny_done (by kernel_rfl) ?_ _
      refine NoPanic.normal ?_
      go_wp2_with fail
      case roundEnd =>
       have hmap : (ks.take (j + 1)).map lcopy = (ks.take j).map lcopy ++ [lcopy ks[j]] := map_take_succ _ _ _ hlt
       have hlt6 := fun g h => hc6.lt (g := g) h
       have hat6' : ∀ g, (Value.slice sA6 (j + 1) sc6).ownBlock = some g → w.heap.size + 1 + 1 + 1 ≤ g := fun g h => (hlt6 g h).1
       have hfin : Upd (fun x => (Value.slice sA j sc).ownBlock = some x ∨ x = w.heap.size + 1 + 1) wr (w6.setCell ⟨w.heap.size + 1 + 1, 2, none⟩ (.slice sA6 (j + 1) sc6)) :=
        ((huW.mono (fun _ f => f.elim)).trans (huW6.mono fun _ h => .inl h)).setCell (p := ⟨w.heap.size + 1 + 1, 2, none⟩) (.inl (.inr rfl)) _
       have hnot : ∀ x, x < w.heap.size + 1 + 1 → ¬ ((Value.slice sA j sc).ownBlock = some x ∨ x = w.heap.size + 1 + 1) := fun x hx h => by
        rcases h with h | h
        · have := (hc.lt h).1; omega
        omega
       refine ⟨⟨j + 1, by omega, by simp, .slice sA6 (j + 1) sc6, C1.out.upd hfin (hnot _ (by omega)), ?_, ?_, ?_, ?_⟩, by simp [intOf]; omega⟩
       · exact G2.out.set 2 _
       · rw [hmap]
         exact hc6.upd ((Upd.refl (fun x => x = w.heap.size + 1 + 1) w6).setCell (p := ⟨w.heap.size + 1 + 1, 2, none⟩) (.inl rfl) _) (fun x hx => ⟨by omega, fun f => f⟩) (fun _ f => f.elim)
       · exact hu.trans' hfin (fun x hx h => hnot x (by omega) h)
       have := hfin.size; omega
    have t2 : decide ((j : Int) < ks.length) = false := by simp; omega
    have hje : j = ks.length := by omega
    subst hje
    have r2 := c2.rowAt
    have hst : (Try.prog.info? 24).map (·.size) = some (#[Value.int .i64 k, Value.int .i64 n, Value.slice sA ks.length sc].size) := lv_size
    have C1 := Lib.hid c1
    have C2 := Lib.hid c2
    clear c1 c2
    go_wp2_with (first
     | (refine wpList_at rfl 24 (.tmp 3) rfl ⟨w.heap.size + 1 + 1, 0, none⟩ rfl _ _ r2 Try.underlying24 rfl lv_size ?_)
     | (refine wpList_store_row rfl 24 (.tmp 2) (.tmp 30) rfl (w.heap.size + 1) _ rfl rfl 24 _ C1.out hst rfl (by simp [Value.oneCell']) ?_))
    have hfin : Upd (fun x => x = w.heap.size + 1) wr (wr.setRow (w.heap.size + 1) #[.int .i64 k, .int .i64 n, .slice sA ks.length sc]) := (Upd.refl (fun x => x = w.heap.size + 1) wr).setRow (.inl rfl) _
    have b9 := C1.out.row #[.int .i64 k, .int .i64 n, .slice sA ks.length sc]
    refine bodyPost_ret (results_cell_row rfl _ _ (w.heap.size + 1) 24 #[.int .i64 k, .int .i64 n, .slice sA ks.length sc] (0, 0) _ rfl b9 Try.underlying24 rfl hst) rfl ?_
    refine ⟨_, rfl, ?_, ?_⟩
    · have hc9 := hc.upd hfin (fun x hx => ⟨by omega, fun f => f⟩) (fun _ f => f.elim)
      obtain ⟨A9, c9, hv9, hcap9, hat⟩ := hc9.lvs (D := fresh w (wr.setRow (w.heap.size + 1) #[.int .i64 k, .int .i64 n, .slice sA ks.length sc])) (fun x hx => hx.elim (fun f => f.elim) fun h => ⟨by omega, h.2⟩)
      rw [List.take_length] at hv9 hat hcap9
      simp only [List.length_map] at hv9 hcap9
      injection hv9 with q1 q2 q3
      subst q1 q3
      simp only [lcopy, LvIs, lcopys_eq, List.length_map]
      rw [if_neg HK4.out]
      exact ⟨_, _, rfl, hk, hn, ⟨hlen.1, hcap9⟩, hat⟩
    exact (hu.trans' hfin (fun x hx h => by omega)).below
def lown (l : Lv) : Lv := if lsnd l = true then lcopy l else l
theorem lown_any (l : Lv) (cs : Array Value) (D : Nat → Prop) (w : World) (hD : Within D w) (hl : LvIs D w l cs) :
    Calls Try.prog 58 #[.agg cs] w fun e w' => ∃ cs', e = .returned (.agg cs') ∧ LvIs (grow D w w') w' (lown l) cs' ∧ Below w.heap.size w w' := by
 have hz := lv_zero
 obtain ⟨k, n, ks⟩ := l
 have hl0 := hl
 simp only [LvIs] at hl
 obtain ⟨A, c, rfl, _, _, _, _⟩ := hl
 obtain ⟨W1, hW1⟩ : ∃ W1, (w.alloc (.cells #[.int .i64 k, .int .i64 n, .slice A ks.length c] 24)).alloc (.cells #[.int .i64 0, .int .i64 0, .slice none 0 0] 24) = W1 := ⟨_, rfl⟩
 have hu1 : Upd nob w W1 := by rw [← hW1]; exact ((Upd.refl nob w).alloc _).alloc _
 have b1 : Blk W1 (w.heap.size + 1) 24 #[.int .i64 0, .int .i64 0, .slice none 0 0] := by
  rw [← hW1]
  have := Blk.new (w.alloc (.cells #[.int .i64 k, .int .i64 n, .slice A ks.length c] 24)) 24 #[.int .i64 0, .int .i64 0, .slice none 0 0]
  rwa [World.size_alloc] at this
 have b0 : Blk W1 w.heap.size 24 #[.int .i64 k, .int .i64 n, .slice A ks.length c] := by
  rw [← hW1]; exact (Blk.new _ _ _).alloc _
 have hl1 := hl0.old (hD.old hu1) (fun _ h => h)
 have hD1 := hD.up hu1
 have HW1 := Lib.hid hW1; clear hW1
 go_enter Try.func58, Try.ntmps58
 go_wp2_with fail
 rw [HW1.out]
 clear HW1
 refine (sound_any (.mk k n ks) _ D W1 hD1 hl1).mono ?_
 rintro e w2 ⟨rfl, hb2⟩
 have hu2 : Upd nob W1 w2 := Upd.of_below hb2
 have r0 := (b0.upd hu2 (fun f => f)).rowAt
 have B0 := Lib.hid (b0.upd hu2 (fun f => f))
 have B1 := Lib.hid (b1.upd hu2 (fun f => f))
 have hl2 := hl1.old (hD1.old hu2) (fun _ h => h)
 clear b0 b1
 cases hs : lsnd (.mk k n ks) with
 | false =>
  have HS := Lib.hid hs; clear hs
  go_wp2_with (first
   | (refine wpList_at rfl 24 (.tmp 1) rfl ⟨w.heap.size, 0, none⟩ rfl _ _ r0 Try.underlying24 rfl lv_size ?_)
   | (refine wpList_store_row rfl 24 (.tmp 2) (.tmp 6) rfl (w.heap.size + 1) _ rfl rfl 24 _ B1.out lv_size rfl (by simp [Value.oneCell']) ?_))
  have hfin : Upd (fun x => x = w.heap.size + 1) w2 (w2.setRow (w.heap.size + 1) #[.int .i64 k, .int .i64 n, .slice A ks.length c]) := (Upd.refl (fun x => x = w.heap.size + 1) w2).setRow (.inl rfl) _
  have b9 := B1.out.row #[.int .i64 k, .int .i64 n, .slice A ks.length c]
  refine bodyPost_ret (results_cell_row rfl _ _ (w.heap.size + 1) 24 #[.int .i64 k, .int .i64 n, .slice A ks.length c] (0, 0) _ rfl b9 Try.underlying24 rfl lv_size) rfl ?_
  refine ⟨_, rfl, ?_, ((hu1.trans hu2).trans' hfin (fun x hx h => by omega)).below⟩
  unfold lown
  rw [HS.out, if_neg (by decide)]
  exact hl2.old (Old.of_upd hfin fun x hx => ⟨fun h => by have := hD x hx; omega, (hD1.up hu2) x hx⟩) (fun x h => .inl h)
 | true =>
  have HS := Lib.hid hs; clear hs
  go_wp2_with (first
   | (refine wpList_at rfl 24 (.tmp 1) rfl ⟨w.heap.size, 0, none⟩ rfl _ _ r0 Try.underlying24 rfl lv_size ?_))
  refine (lcopied_any (.mk k n ks) _ D w2 (hD1.up hu2) hl2).mono ?_
  rintro e w3 ⟨cs3, rfl, hl3, hb3⟩
  have hu3 : Upd nob w2 w3 := Upd.of_below hb3
  have C1 := Lib.hid (B1.out.upd hu3 (fun f => f))
  have hsz := hl3.oneCell
  have hsi : (Try.prog.info? 24).map (·.size) = some cs3.size := by rw [hsz.1]; exact lv_size
  go_wp2_with (first
   | (refine wpList_store_row rfl 24 (.tmp 2) (.tmp 8) rfl (w.heap.size + 1) _ rfl rfl 24 _ C1.out hsi (by rw [hsz.1]; rfl) hsz.2 ?_))
  have hfin : Upd (fun x => x = w.heap.size + 1) w3 (w3.setRow (w.heap.size + 1) cs3) := (Upd.refl (fun x => x = w.heap.size + 1) w3).setRow (.inl rfl) _
  have b9 := C1.out.row cs3
  refine bodyPost_ret (results_cell_row rfl _ _ (w.heap.size + 1) 24 cs3 (0, 0) _ rfl b9 Try.underlying24 rfl hsi) rfl ?_
  refine ⟨_, rfl, ?_, (((hu1.trans hu2).trans hu3).trans' hfin (fun x hx h => by omega)).below⟩
  unfold lown
  rw [HS.out, if_pos rfl]
  have hlt := B1.out.lt
  have hs2 := (hu1.trans hu2).size
  exact hl3.old (Old.of_upd hfin fun x hx => ⟨fun h => by have := hx.1; omega, hx.2⟩) (fun x h => .inr ⟨by have := h.1; omega, by have := hfin.size; have := h.2; omega⟩)
end Go.Proofs.Ytiampoebdmflgaa
/- level.Var, Num, Plus. -/
namespace Go.Proofs.Ytiampoebdmflgaa
open Go.RowKit
set_option linter.unusedVariables false
set_option maxRecDepth 100000
set_option maxHeartbeats 4000000
set_option linter.unusedSimpArgs false
theorem lvar_any (n : Int) (w : World) (hn : InI n) : Calls Try.prog 56 #[.int .i64 n] w fun e w' => e = .returned (.agg #[.int .i64 2, .int .i64 n, .slice none 0 0]) ∧ Below w.heap.size w w' := by
 have hz := lv_zero
 go_enter Try.func56, Try.ntmps56
 go_wp2
 refine bodyPost_ret (results_cell_row rfl _ _ w.heap.size 24 #[.int .i64 2, .int .i64 n, .slice none 0 0] (0, 0) _ rfl (Blk.new _ _ _) Try.underlying24 rfl lv_size) rfl ?_
 exact ⟨rfl, (Below.refl _ _).alloc (Nat.le_refl _) _⟩
def lplus (n : Int) (l : Lv) : Lv :=
 if n < 1 then lown l else if l.k = 3 then .mk (lown l).k (min 1099511627776 (min 1099511627776 n + min 1099511627776 l.n)) (lown l).ks else .mk 3 n [lown l]
theorem lplus_any (p : Int) (l : Lv) (cs : Array Value) (D : Nat → Prop) (w : World) (hp : InI p) (hD : Within D w) (hl : LvIs D w l cs) :
    Calls Try.prog 38 #[.int .i64 p, .agg cs] w fun e w' => ∃ cs', e = .returned (.agg cs') ∧ LvIs (grow D w w') w' (lplus p l) cs' ∧ Below w.heap.size w w' := by
 have hz := lv_zero
 obtain ⟨k, n, ks⟩ := l
 have hl0 := hl
 simp only [LvIs] at hl
 obtain ⟨A, c, rfl, hk, hn, _, _⟩ := hl
 obtain ⟨W1, hW1⟩ : ∃ W1, (w.alloc (.cells #[.int .i64 k, .int .i64 n, .slice A ks.length c] 24)).alloc (.cells #[.int .i64 0, .int .i64 0, .slice none 0 0] 24) = W1 := ⟨_, rfl⟩
 have hu1 : Upd nob w W1 := by rw [← hW1]; exact ((Upd.refl nob w).alloc _).alloc _
 have b1 : Blk W1 (w.heap.size + 1) 24 #[.int .i64 0, .int .i64 0, .slice none 0 0] := by
  rw [← hW1]
  have := Blk.new (w.alloc (.cells #[.int .i64 k, .int .i64 n, .slice A ks.length c] 24)) 24 #[.int .i64 0, .int .i64 0, .slice none 0 0]
  rwa [World.size_alloc] at this
 have b0 : Blk W1 w.heap.size 24 #[.int .i64 k, .int .i64 n, .slice A ks.length c] := by
  rw [← hW1]; exact (Blk.new _ _ _).alloc _
 have hs1q : W1.heap.size = w.heap.size + 2 := by rw [← hW1]; simp
 have hl1 := hl0.old (hD.old hu1) (fun _ h => h)
 have hD1 := hD.up hu1
 have HS1 := Lib.hid hs1q; clear hs1q
 have HW1 := Lib.hid hW1; clear hW1
 -- what every way comes to: own of the level
 have hown := lown_any (.mk k n ks) _ D W1 hD1 hl1
 by_cases hp1 : p < 1
 · have t1 : decide (p < 1) = true := by simp [hp1]
   have HP := Lib.hid hp1; clear hp1
   go_enter Try.func38, Try.ntmps38
   go_wp2_with fail
   rw [HW1.out]
   refine hown.mono ?_
   rintro e w3 ⟨cs3, rfl, hl3, hb3⟩
   have hu3 : Upd nob W1 w3 := Upd.of_below hb3
   have C1 := b1.upd hu3 (fun f => f)
   have hsz := hl3.oneCell
   have hsi : (Try.prog.info? 24).map (·.size) = some cs3.size := by rw [hsz.1]; exact lv_size
   go_wp2_with (first
    | (refine wpList_store_row rfl 24 (.tmp 4) (.tmp 10) rfl (w.heap.size + 1) _ rfl rfl 24 _ C1 hsi (by rw [hsz.1]; rfl) hsz.2 ?_))
   have hfin : Upd (fun x => x = w.heap.size + 1) w3 (w3.setRow (w.heap.size + 1) cs3) := (Upd.refl (fun x => x = w.heap.size + 1) w3).setRow (.inl rfl) _
   have b9 := C1.row cs3
   refine bodyPost_ret (results_cell_row rfl _ _ (w.heap.size + 1) 24 cs3 (0, 0) _ rfl b9 Try.underlying24 rfl hsi) rfl ?_
   refine ⟨_, rfl, ?_, ((hu1.trans hu3).trans' hfin (fun x hx h => by omega)).below⟩
   unfold lplus
   rw [if_pos HP.out]
   have hlt := b1.lt
   have hs1 := hu1.size
   refine hl3.old (Old.of_upd hfin fun x hx => ⟨fun h => ?_, ?_⟩) (fun x h => ?_)
   · rcases hx with hx | hx
     · have := hD x hx; omega
     omega
   · exact (hD1.grow hu3.size) x hx
   rcases h with h | h
   · exact .inl h
   exact .inr ⟨by omega, by have := hfin.size; omega⟩
 have t1 : decide (p < 1) = false := by simp; omega
 have HP := Lib.hid hp1; clear hp1
 obtain ⟨⟨k', n', ks'⟩, how⟩ : ∃ y, lown (.mk k n ks) = y := ⟨_, rfl⟩
 by_cases hk3 : k = 3
 · have t2 : (k == 3) = true := by simpa using hk3
   have HK := Lib.hid hk3; clear hk3
   go_enter Try.func38, Try.ntmps38
   go_wp2_with fail
   rw [HW1.out]
   refine hown.mono ?_
   rw [how]
   rintro e w3 ⟨cs3, rfl, hl3, hb3⟩
   have hu3 : Upd nob W1 w3 := Upd.of_below hb3
   have hl3' := hl3
   simp only [LvIs] at hl3'
   obtain ⟨A', c', rfl, hk', hn', _, _⟩ := hl3'
   have C1 := Lib.hid (b1.upd hu3 (fun f => f))
   have c0 := b0.upd hu3 (fun f => f)
   have q1 : w3.cell? ⟨w.heap.size, 1, none⟩ = some (.int .i64 n) := c0.cell 1
   have HOW := Lib.hid how; clear how c0
   have hlt1 := hu1.size
   have hlt3 : w.heap.size + 1 < w3.heap.size := C1.out.lt
   have hlt4 : w.heap.size < w3.heap.size := by omega
   have hn1 := hn.1
   have hn2 := hn.2
   have hp2 := hp.2
   have hp3 : 1 ≤ p := by have := HP.out; omega
   have fin : ∀ X : Int, X = min 1099511627776 (min 1099511627776 p + min 1099511627776 n) → ∀ W', W' = (w3.alloc (.cells #[.int .i64 k', .int .i64 X, .slice A' ks'.length c'] 24)).setRow (w.heap.size + 1) #[.int .i64 k', .int .i64 X, .slice A' ks'.length c'] →
       LvIs (grow D w W') W' (lplus p (.mk k n ks)) #[.int .i64 k', .int .i64 X, .slice A' ks'.length c'] ∧ Below w.heap.size w W' := by
    rintro X hX W' rfl
    have hfin : Upd (fun x => x = w.heap.size + 1) w3 ((w3.alloc (.cells #[.int .i64 k', .int .i64 X, .slice A' ks'.length c'] 24)).setRow (w.heap.size + 1) #[.int .i64 k', .int .i64 X, .slice A' ks'.length c']) := ((Upd.refl (fun x => x = w.heap.size + 1) w3).alloc _).setRow (.inl rfl) _
    refine ⟨?_, ((hu1.trans hu3).trans' hfin (fun x hx h => by omega)).below⟩
    unfold lplus
    rw [if_neg (by have := HP.out; omega), if_pos (by exact HK.out), HOW.out]
    have hs1q := HS1.out
    simp only [Lv.k, Lv.n, Lv.ks]
    simp only [LvIs] at hl3
    obtain ⟨A2, c2, hcs, g1, g2, g3, g4⟩ := hl3
    simp only [LvIs]
    refine ⟨A2, c2, ?_, g1, by rw [← hX]; unfold InI; have := hn.1; have := hp.2; have := HP.out; omega, g3, g4.old (Old.of_upd hfin fun x hx => ⟨fun h => ?_, ?_⟩) (fun x h => ?_)⟩
    · simp only [Array.mk.injEq, List.cons.injEq, Value.int.injEq, Value.slice.injEq, true_and, and_true] at hcs
      rw [hcs.1, hcs.2, ← hX]
    · rcases hx with hx | hx
      · have := hD x hx; omega
      omega
    · exact (hD1.grow hu3.size) x hx
    rcases h with h | h
    · exact .inl h
    exact .inr ⟨by omega, by have := hfin.size; omega⟩
   have FIN := Lib.hid fin; clear fin
   go_wp2_with (first
    | (refine wpList_store_row rfl 24 (.tmp 4) (.tmp 25) rfl (w.heap.size + 1) _ rfl rfl 24 _ (C1.out.alloc _) lv_size rfl (by simp [Value.oneCell']) ?_))
   all_goals
    refine bodyPost_ret (results_cell_row rfl _ _ (w.heap.size + 1) 24 _ (0, 0) _ rfl ((C1.out.alloc _).row _) Try.underlying24 rfl lv_size) rfl ?_
    exact ⟨_, rfl, FIN.out _ (by omega) _ rfl⟩
 have t2 : (k == 3) = false := by simpa using hk3
 have HK := Lib.hid hk3; clear hk3
 go_enter Try.func38, Try.ntmps38
 go_wp2_with fail
 rw [HW1.out]
 refine hown.mono ?_
 rw [how]
 rintro e w3 ⟨cs3, rfl, hl3, hb3⟩
 have hu3 : Upd nob W1 w3 := Upd.of_below hb3
 have C1 := Lib.hid (b1.upd hu3 (fun f => f))
 have HOW := Lib.hid how; clear how
 have hlt3 : w.heap.size + 1 < w3.heap.size := C1.out.lt
 have hsz := hl3.oneCell
 go_wp2_with (first
  | (refine wpList_build1 rfl 22 24 (.tmp 28) rfl _ 3 40 Try.underlying22 lv_info (by decide) (by decide) cs3 rfl hsz.1 ?_)
  | (refine wpList_store_row rfl 24 (.tmp 4) (.tmp 30) rfl (w.heap.size + 1) _ rfl rfl 24 _ (C1.out.alloc _) lv_size rfl (by simp [Value.oneCell']) ?_))
 refine bodyPost_ret (results_cell_row rfl _ _ (w.heap.size + 1) 24 _ (0, 0) _ rfl ((C1.out.alloc _).row _) Try.underlying24 rfl lv_size) rfl ?_
 have hfin : Upd (fun x => x = w.heap.size + 1) w3 ((w3.alloc (.cells cs3 24)).setRow (w.heap.size + 1) #[.int .i64 3, .int .i64 p, .slice (some ⟨w3.heap.size, 0, none⟩) 1 1]) := ((Upd.refl (fun x => x = w.heap.size + 1) w3).alloc _).setRow (.inl rfl) _
 refine ⟨_, rfl, ?_, ((hu1.trans hu3).trans' hfin (fun x hx h => by omega)).below⟩
 unfold lplus
 rw [if_neg (by have := HP.out; omega), if_neg (by exact HK.out), HOW.out]
 have hs1q := HS1.out
 have b9 : Blk ((w3.alloc (.cells cs3 24)).setRow (w.heap.size + 1) #[.int .i64 3, .int .i64 p, .slice (some ⟨w3.heap.size, 0, none⟩) 1 1]) w3.heap.size 24 cs3 := (Blk.new _ _ _).rowFar (by omega) _
 have hs1 := hu1.size
 have hs9 : ((w3.alloc (.cells cs3 24)).setRow (w.heap.size + 1) #[.int .i64 3, .int .i64 p, .slice (some ⟨w3.heap.size, 0, none⟩) 1 1]).heap.size = w3.heap.size + 1 := by simp
 simp only [LvIs, List.length_singleton]
 refine ⟨_, _, rfl, by unfold InI; omega, hp, ⟨by omega, Nat.le_refl _⟩, LvsAt.mk fun j l hj => ?_⟩
 have hj0 : j = 0 := by have := (List.getElem?_eq_some_iff.1 hj).1; simp at this; omega
 subst hj0
 simp only [List.getElem?_cons_zero, Option.some.injEq] at hj
 subst hj
 refine ⟨_, cs3, rfl, .inr ⟨by show w.heap.size ≤ w3.heap.size; omega, by show w3.heap.size < _; omega⟩, b9.rowAt, hl3.old (Old.of_upd hfin fun x hx => ⟨fun h => ?_, ?_⟩) (fun x h => ?_)⟩
 · rcases hx with hx | hx
   · have := hD x hx; omega
   omega
 · exact (hD1.grow hu3.size) x hx
 rcases h with h | h
 · exact .inl h
 exact .inr ⟨by omega, by omega⟩
end Go.Proofs.Ytiampoebdmflgaa
/- Sums of levels (level.norm): what they are, where they lie; at. -/
namespace Go.Proofs.Ytiampoebdmflgaa
open Go.RowKit
set_option linter.unusedVariables false
set_option maxRecDepth 100000
set_option maxHeartbeats 4000000
set_option linter.unusedSimpArgs false
structure Nm where
 c : Int
 ks : List Int
def Nm.Ok (n : Nm) : Prop := (0 ≤ n.c ∧ n.c ≤ 1099511627776) ∧ (∀ x ∈ n.ks, -1 ≤ x ∧ x ≤ 1099511627776) ∧ n.ks.length ≤ 1001
def intBlk (w : World) (k : Nat) : Prop := ∃ cur fz, w.heap[k]? = some (.cells cur 3 fz)
def IntsAt (D : Nat → Prop) (w : World) (zs : List Int) (A : Option Addr) : Prop := ∀ (j : Nat) z, zs[j]? = some z → ∃ a, A = some a ∧ D a.block ∧ w.cell? (a.add j) = some (.int .i64 z) ∧ intBlk w a.block
theorem IntsAt.old {D D' : Nat → Prop} {w w' : World} {zs : List Int} {A : Option Addr} (h : IntsAt D w zs A) (ho : Old D w w') (hD : ∀ k, D k → D' k) : IntsAt D' w' zs A := fun j z hj => by
 obtain ⟨a, ha, hb, hc, cur, fz, hi⟩ := h j z hj
 exact ⟨a, ha, hD _ hb, (ho.cell (by rw [Addr_add_block]; exact hb)).trans hc, cur, fz, (ho _ hb).trans hi⟩
def intR : Reading Int 1 := ⟨fun _ _ z cs => cs = #[.int .i64 z], fun _ _ h => h, fun h => by subst h; exact ⟨rfl, by simp [Value.oneCell']⟩⟩
theorem Coll.ints {E D : Nat → Prop} {base : Nat} {w : World} {v : Value} {ls : List Int} (h : Coll intR E base 3 w v ls) (hD : ∀ x, base ≤ x ∧ x < w.heap.size → D x) : ∃ A c, v = .slice A ls.length c ∧ ls.length ≤ c ∧ IntsAt D w ls A := by
 obtain ⟨rows, hr, hrr⟩ := h.rows
 obtain ⟨A, c, hv, hcp⟩ := hr.form
 refine ⟨A, c, by rw [hv, ← hrr.1], by rw [← hrr.1]; exact hcp, fun j z hj => ?_⟩
 have hjl : j < rows.length := by have := (List.getElem?_eq_some_iff.1 hj).1; rw [hrr.1]; exact this
 obtain ⟨g, cap, hv2, hrow⟩ := hr.at_ hjl
 have hA : A = some ⟨g, 0, none⟩ := by rw [hv] at hv2; injection hv2
 have hlt := hr.lt (g := g) (by rw [hv2]; rfl)
 have hz : rows[j] = #[.int .i64 z] := hrr.2 j z rows[j] hj (List.getElem?_eq_getElem hjl)
 have hib : intBlk w g := by
  rcases hr.own.2 with ⟨h0, _⟩ | ⟨g', cap', cur, hv3, _, hh, _⟩
  · rw [h0] at hv2; cases hv2
  rw [hv3] at hv2
  injection hv2 with e1
  injection e1 with e1
  injection e1 with e1
  subst e1
  exact ⟨cur, _, hh⟩
 refine ⟨⟨g, 0, none⟩, hA, hD _ hlt, ?_, hib⟩
 rw [hz] at hrow
 have := hrow 0 _ rfl
 rwa [Addr_add_add, Nat.mul_one, Nat.add_zero] at this
def NmIs (D : Nat → Prop) (w : World) (n : Nm) (cs : Array Value) : Prop := ∃ A c, cs = #[.int .i64 n.c, .slice A n.ks.length c] ∧ (n.Ok ∧ n.ks.length ≤ c) ∧ IntsAt D w n.ks A
theorem NmIs.old {D D' : Nat → Prop} {w w' : World} {n : Nm} {cs : Array Value} (h : NmIs D w n cs) (ho : Old D w w') (hD : ∀ k, D k → D' k) : NmIs D' w' n cs := by
 obtain ⟨A, c, h1, h2, h3⟩ := h
 exact ⟨A, c, h1, h2, h3.old ho hD⟩
theorem NmIs.cells {D : Nat → Prop} {w : World} {n : Nm} {cs : Array Value} (h : NmIs D w n cs) : cs.size = 2 ∧ cs.all (·.oneCell') = true := by
 obtain ⟨A, c, rfl, _⟩ := h
 exact ⟨rfl, by simp [Value.oneCell']⟩
theorem nm_zero (w : World) : (zeroValue 177).run Try.prog w = .ok (.agg #[.int .i64 0, .slice none 0 0]) w := by kernel_rfl
theorem nm_size : (Try.prog.info? 177).map (·.size) = some 2 := by kernel_rfl
theorem int_info : (Try.prog.info? 3).map (fun i => (i.zero, i.size, i.bytes)) = some (some (.int .i64 0), 1, 8) := by kernel_rfl
theorem int_size : (Try.prog.info? 3).map (·.size) = some 1 := by kernel_rfl
def Nm.at_ (n : Nm) (i : Nat) : Int := n.ks.getD i (-1)
theorem nat_any (n : Nm) (cs : Array Value) (D : Nat → Prop) (i : Nat) (w : World) (hi : i ≤ 2000) (hD : Within D w) (hn : NmIs D w n cs) :
    Calls Try.prog 147 #[.agg cs, .int .i64 i] w fun e w' => e = .returned (.int .i64 (n.at_ i)) ∧ Below w.heap.size w w' := by
 obtain ⟨A, c, rfl, ⟨hok, hcap⟩, hz⟩ := hn
 rcases Nat.lt_or_ge i n.ks.length with hlt | hge
 · have hat : n.at_ i = n.ks[i] := by unfold Nm.at_; simp [hlt]
   rw [hat]
   obtain ⟨a, hA, hab, hc, _⟩ := hz i _ (List.getElem?_eq_getElem hlt)
   have hal := hD _ hab
   have hc1 : (w.alloc (.cells #[.int .i64 n.c, .slice A n.ks.length c] 177)).cell? (a.add i) = some (.int .i64 n.ks[i]) := by
    exact (World.cell?_alloc_lt _ _ _ (by rw [Addr_add_block]; exact hal)).trans hc
   have t1 : decide ((i : Int) < n.ks.length) = true := by simp [hlt]
   have HA := Lib.hid hA; clear hA hat hc
   go_enter Try.func147, Try.ntmps147
   go_wp2_with (first
    | (refine wpList_index_at rfl 130 (.tmp 11) (.tmp 12) rfl _ a _ _ rfl HA.out i rfl hlt 3 Try.underlying130 1 int_size ?_))
   go_ret
   exact ⟨rfl, (Below.refl _ _).alloc (Nat.le_refl _) _⟩
 have hat : n.at_ i = -1 := by unfold Nm.at_; simp [hge]
 rw [hat]
 have t1 : decide ((i : Int) < n.ks.length) = false := by simp; omega
 go_enter Try.func147, Try.ntmps147
 go_wp2_with fail
 go_ret
 exact ⟨rfl, (Below.refl _ _).alloc (Nat.le_refl _) _⟩
end Go.Proofs.Ytiampoebdmflgaa
/- (level.norm).plus, or. -/
namespace Go.Proofs.Ytiampoebdmflgaa
open Go.RowKit
set_option linter.unusedVariables false
set_option maxRecDepth 100000
set_option maxHeartbeats 4000000
set_option linter.unusedSimpArgs false
def plus1 (k x : Int) : Int := if 0 ≤ x then min 1099511627776 (x + k) else x
def Nm.plus (n : Nm) (k : Int) : Nm := ⟨min 1099511627776 (n.c + k), n.ks.map (plus1 k)⟩
theorem Nm.plus_ok {n : Nm} {k : Int} (h : n.Ok) (hk : 0 ≤ k) : (n.plus k).Ok := by
 obtain ⟨h1, h2, h3⟩ := h
 refine ⟨by simp only [Nm.plus]; omega, fun x hx => ?_, by simp only [Nm.plus, List.length_map]; exact h3⟩
 obtain ⟨y, hy, rfl⟩ := List.mem_map.1 hx
 have := h2 y hy
 unfold plus1; split <;> omega
theorem nplus_any (n : Nm) (k : Int) (cs : Array Value) (D : Nat → Prop) (w : World) (hk0 : 0 ≤ k) (hk1 : k ≤ 1099511627776) (hD : Within D w) (hn : NmIs D w n cs) :
    Calls Try.prog 141 #[.agg cs, .int .i64 k] w fun e w' => ∃ cs', e = .returned (.agg cs') ∧ NmIs (fresh w w') w' (n.plus k) cs' ∧ Below w.heap.size w w' := by
 have hz := nm_zero
 obtain ⟨A, c, rfl, ⟨hok, hcap⟩, hzs⟩ := hn
 have hok2 := hok
 obtain ⟨⟨hc0, hc1⟩, hx, hlen⟩ := hok
 have HX := Lib.hid hx; clear hx
 go_enter Try.func141, Try.ntmps141
 go_wp2_with fail
 obtain ⟨W1, hW1⟩ : ∃ W1, ((w.alloc (.cells #[.int .i64 n.c, .slice A n.ks.length c] 177)).alloc (.cells #[.int .i64 0, .slice none 0 0] 177)).alloc (.cells #[.int .i64 (min 1099511627776 (n.c + k)), .slice none 0 0] 177) = W1 := ⟨_, rfl⟩
 have hu1 : Upd nob w W1 := by rw [← hW1]; exact (((Upd.refl nob w).alloc _).alloc _).alloc _
 have hs1 : W1.heap.size = w.heap.size + 3 := by rw [← hW1]; simp
 have b1 : Blk W1 (w.heap.size + 1) 177 #[.int .i64 0, .slice none 0 0] := by
  rw [← hW1]
  have := (Blk.new (w.alloc (.cells #[.int .i64 n.c, .slice A n.ks.length c] 177)) 177 #[.int .i64 0, .slice none 0 0]).alloc (.cells #[.int .i64 (min 1099511627776 (n.c + k)), .slice none 0 0] 177)
  rwa [World.size_alloc] at this
 have b2 : Blk W1 (w.heap.size + 1 + 1) 177 #[.int .i64 (min 1099511627776 (n.c + k)), .slice none 0 0] := by
  rw [← hW1]
  have := Blk.new ((w.alloc (.cells #[.int .i64 n.c, .slice A n.ks.length c] 177)).alloc (.cells #[.int .i64 0, .slice none 0 0] 177)) 177 #[.int .i64 (min 1099511627776 (n.c + k)), .slice none 0 0]
  rwa [World.size_alloc, World.size_alloc] at this
 rw [hW1]
 clear hW1
 go_loopw [17] (fun v wr => ∃ j : Nat, j ≤ n.ks.length ∧ v = .int .i64 j ∧ ∃ sv, Blk wr (w.heap.size + 1) 177 #[.int .i64 0, .slice none 0 0] ∧ Blk wr (w.heap.size + 1 + 1) 177 #[.int .i64 (min 1099511627776 (n.c + k)), sv] ∧
     Coll intR nob (w.heap.size + 1 + 1 + 1) 3 wr sv ((n.ks.map (plus1 k)).take j) ∧ Upd nob w wr ∧ w.heap.size + 3 ≤ wr.heap.size)
  (fun v _ => n.ks.length - (intOf v).toNat)
 case atStart => exact ⟨0, Nat.zero_le _, rfl, _, b1, b2, Coll.nil_, hu1, by omega⟩
 case round =>
  obtain ⟨j, hj, rfl, sv, c1, c2, hc, hu, hsz⟩ := hrel
  obtain ⟨sA, sc, rfl, hcp⟩ := hc.form
  have hjl : ((n.ks.map (plus1 k)).take j).length = j := by simp; omega
  rw [hjl] at c2 hc
  have C1 := Lib.hid c1
  have C2 := Lib.hid c2
  have HJ := Lib.hid hjl
  rcases Nat.lt_or_ge j n.ks.length with hlt | hge
  · have t2 : decide ((j : Int) < n.ks.length) = true := by simp [hlt]
    obtain ⟨a, hA, hab, hcell, _⟩ := hzs j _ (List.getElem?_eq_getElem hlt)
    obtain ⟨x, hxj⟩ : ∃ x, n.ks[j] = x := ⟨_, rfl⟩
    have hx2 := HX.out n.ks[j] (List.getElem_mem hlt)
    rw [hxj] at hcell hx2
    obtain ⟨hx0, hx1⟩ := hx2
    have hcell' : wr.cell? (a.add j) = some (.int .i64 x) := ((hD.old hu).cell (by rw [Addr_add_block]; exact hab)).trans hcell
    have e2 : wr.cell? ⟨w.heap.size + 1 + 1, 1, none⟩ = some (.slice sA j sc) := c2.cell 1
    have f2 := c2.frozen 1
    have hlt1 := c1.lt
    have hlt2 := c2.lt
    have HA := Lib.hid hA
    have HXJ := Lib.hid hxj
    clear hA c1 c2 hjl hcell hxj
    have fin : ∀ (y : Int), y = plus1 k x → ∀ (sA6 : Option Addr) (sc6 : Nat) (w6 : World), Coll intR nob (w.heap.size + 1 + 1 + 1) 3 w6 (.slice sA6 (j + 1) sc6) ((n.ks.map (plus1 k)).take j ++ [y]) → Upd (fun z => (Value.slice sA j sc).ownBlock = some z) wr w6 →
        ∃ j' : Nat, j' ≤ n.ks.length ∧ Value.int .i64 (↑j + 1) = .int .i64 j' ∧ ∃ sv, Blk (w6.setCell ⟨w.heap.size + 1 + 1, 1, none⟩ (.slice sA6 (j + 1) sc6)) (w.heap.size + 1) 177 #[.int .i64 0, .slice none 0 0] ∧ Blk (w6.setCell ⟨w.heap.size + 1 + 1, 1, none⟩ (.slice sA6 (j + 1) sc6)) (w.heap.size + 1 + 1) 177 #[.int .i64 (min 1099511627776 (n.c + k)), sv] ∧
         Coll intR nob (w.heap.size + 1 + 1 + 1) 3 (w6.setCell ⟨w.heap.size + 1 + 1, 1, none⟩ (.slice sA6 (j + 1) sc6)) sv ((n.ks.map (plus1 k)).take j') ∧ Upd nob w (w6.setCell ⟨w.heap.size + 1 + 1, 1, none⟩ (.slice sA6 (j + 1) sc6)) ∧ w.heap.size + 3 ≤ (w6.setCell ⟨w.heap.size + 1 + 1, 1, none⟩ (.slice sA6 (j + 1) sc6)).heap.size := by
     intro y hy sA6 sc6 w6 hc6 hu6
     have hfin : Upd (fun x => (Value.slice sA j sc).ownBlock = some x ∨ x = w.heap.size + 1 + 1) wr (w6.setCell ⟨w.heap.size + 1 + 1, 1, none⟩ (.slice sA6 (j + 1) sc6)) :=
      (hu6.mono fun _ h => .inl h).setCell (p := ⟨w.heap.size + 1 + 1, 1, none⟩) (.inl (.inr rfl)) _
     have hnot : ∀ x, x < w.heap.size + 1 + 1 → ¬ ((Value.slice sA j sc).ownBlock = some x ∨ x = w.heap.size + 1 + 1) := fun x hx h => by
      rcases h with h | h
      · have := (hc.lt h).1; omega
      omega
     refine ⟨j + 1, by omega, by simp, .slice sA6 (j + 1) sc6, C1.out.upd hfin (hnot _ (by omega)), ?_, ?_, hu.trans' hfin (fun x hx h => hnot x (by omega) h), by have := hfin.size; omega⟩
     · exact (C2.out.upd hu6 (fun h => by have := (hc.lt h).1; omega)).set 1 _
     rw [take_map_succ _ _ _ hlt, HXJ.out, ← hy]
     exact hc6.upd ((Upd.refl (fun x => x = w.heap.size + 1 + 1) w6).setCell (p := ⟨w.heap.size + 1 + 1, 1, none⟩) (.inl rfl) _) (fun x hx => ⟨by omega, fun f => f⟩) (fun _ f => f.elim)
    have FIN := Lib.hid fin; clear fin
    have key : ∀ y : Int, Coll intR nob (w.heap.size + 1 + 1 + 1) 3 (wr.alloc (.cells #[.int .i64 y] 3)) (.slice sA j sc) ((n.ks.map (plus1 k)).take j) := fun y => hc.upd ((Upd.refl nob wr).alloc _) (fun _ f => f.elim) (fun _ f => f.elim)
    have KEY := Lib.hid key; clear key
    by_cases hx3 : 0 ≤ x
    · have t3 : decide (0 ≤ x) = true := by simp [hx3]
      go_wp2_with (first
       | (refine wpList_index_at rfl 130 (.tmp 15) (.tmp 17) rfl _ a _ _ rfl HA.out j rfl hlt 3 Try.underlying130 1 int_size ?_)
       | (at_builtin; refine wpList_collect rfl (.tmp 28) (.tmp 30) 130 rfl _ 8 Try.underlying130 int_info (by kernel_rfl) (by decide) rfl (KEY.out (min 1099511627776 (x + k))) (fun _ f => f.elim) wr.heap.size #[.int .i64 (min 1099511627776 (x + k))] rfl (Blk.new _ _ _) (min 1099511627776 (x + k)) nob rfl (fun _ f => f.elim) j HJ.out (by omega) (by omega) (by simp; omega) ?_
          intro sA6 sc6 w6 hc6 hu6 _
          have hu7 : Upd (fun z => (Value.slice sA j sc).ownBlock = some z) wr w6 := (((Upd.refl nob wr).alloc _).mono (fun _ f => f.elim)).trans hu6
          have b6 := C2.out.upd hu7 (fun h => by have := (hc.lt h).1; omega)
          have e6 : w6.cell? ⟨w.heap.size + 1 + 1, 1, none⟩ = some (.slice sA j sc) := b6.cell 1
          have f6 := b6.frozen 1
          have HC6 := Lib.hid hc6
          have HU7 := Lib.hid hu7
          clear hc6 hu6 hu7 b6))
      case roundEnd => exact ⟨FIN.out _ (by unfold plus1; rw [if_pos hx3]) _ _ _ HC6.out HU7.out, by simp [intOf]; omega⟩
    have t3 : decide (0 ≤ x) = false := by simp; omega
    go_wp2_with (first
     | (refine wpList_index_at rfl 130 (.tmp 15) (.tmp 17) rfl _ a _ _ rfl HA.out j rfl hlt 3 Try.underlying130 1 int_size ?_)
     | (at_builtin; refine wpList_collect rfl (.tmp 28) (.tmp 30) 130 rfl _ 8 Try.underlying130 int_info (by kernel_rfl) (by decide) rfl (KEY.out x) (fun _ f => f.elim) wr.heap.size #[.int .i64 x] rfl (Blk.new _ _ _) x nob rfl (fun _ f => f.elim) j HJ.out (by omega) (by omega) (by simp; omega) ?_
        intro sA6 sc6 w6 hc6 hu6 _
        have hu7 : Upd (fun z => (Value.slice sA j sc).ownBlock = some z) wr w6 := (((Upd.refl nob wr).alloc _).mono (fun _ f => f.elim)).trans hu6
        have b6 := C2.out.upd hu7 (fun h => by have := (hc.lt h).1; omega)
        have e6 : w6.cell? ⟨w.heap.size + 1 + 1, 1, none⟩ = some (.slice sA j sc) := b6.cell 1
        have f6 := b6.frozen 1
        have HC6 := Lib.hid hc6
        have HU7 := Lib.hid hu7
        clear hc6 hu6 hu7 b6))
    case roundEnd => exact ⟨FIN.out _ (by unfold plus1; rw [if_neg hx3]) _ _ _ HC6.out HU7.out, by simp [intOf]; omega⟩
  have t2 : decide ((j : Int) < n.ks.length) = false := by simp; omega
  have hje : j = n.ks.length := by omega
  subst hje
  have r2 := c2.rowAt
  clear c1 c2
  go_wp2_with (first
   | (refine wpList_at rfl 177 (.tmp 5) rfl ⟨w.heap.size + 1 + 1, 0, none⟩ rfl _ _ r2 Try.underlying177 rfl nm_size ?_)
   | (refine wpList_store_row rfl 177 (.tmp 4) (.tmp 34) rfl (w.heap.size + 1) _ rfl rfl 177 _ C1.out nm_size rfl (by simp [Value.oneCell']) ?_))
  refine bodyPost_ret (results_cell_row rfl _ _ (w.heap.size + 1) 177 _ (0, 0) _ rfl (C1.out.row _) Try.underlying177 rfl nm_size) rfl ?_
  have hfin : Upd (fun x => x = w.heap.size + 1) wr (wr.setRow (w.heap.size + 1) #[.int .i64 (min 1099511627776 (n.c + k)), .slice sA n.ks.length sc]) := (Upd.refl (fun x => x = w.heap.size + 1) wr).setRow (.inl rfl) _
  refine ⟨_, rfl, ?_, (hu.trans' hfin (fun x hx h => by omega)).below⟩
  have hc9 := hc.upd hfin (fun x hx => ⟨by omega, fun f => f⟩) (fun _ f => f.elim)
  obtain ⟨A9, c9, hv9, hcap9, hat⟩ := hc9.ints (D := fresh w (wr.setRow (w.heap.size + 1) #[.int .i64 (min 1099511627776 (n.c + k)), .slice sA n.ks.length sc])) (fun x h => ⟨by omega, h.2⟩)
  have htk : (n.ks.map (plus1 k)).take n.ks.length = n.ks.map (plus1 k) := List.take_of_length_le (by simp)
  rw [htk] at hv9 hat hcap9
  simp only [List.length_map] at hv9 hcap9
  injection hv9 with q1 q2 q3
  subst q1 q3
  refine ⟨sA, sc, ?_, ⟨Nm.plus_ok hok2 hk0, by simpa [Nm.plus] using hcap9⟩, hat⟩
  simp [Nm.plus]
end Go.Proofs.Ytiampoebdmflgaa
/- (level.norm).or. -/
namespace Go.Proofs.Ytiampoebdmflgaa
open Go.RowKit
set_option linter.unusedVariables false
set_option maxRecDepth 100000
set_option maxHeartbeats 4000000
set_option linter.unusedSimpArgs false
def orK (n m : Nm) : List Int := (List.range (max n.ks.length m.ks.length)).map fun i => max (n.at_ i) (m.at_ i)
def Nm.or (n m : Nm) : Nm := ⟨max n.c m.c, orK n m⟩
theorem Nm.at_ok {n : Nm} (h : n.Ok) (i : Nat) : -1 ≤ n.at_ i ∧ n.at_ i ≤ 1099511627776 := by
 unfold Nm.at_
 rcases Nat.lt_or_ge i n.ks.length with hl | hl
 · have := h.2.1 n.ks[i] (List.getElem_mem hl)
   simp [hl]; exact this
 simp [hl]
theorem Nm.or_ok {n m : Nm} (h : n.Ok) (k : m.Ok) : (n.or m).Ok := by
 refine ⟨by simp only [Nm.or]; have := h.1; have := k.1; omega, fun x hx => ?_, by simp only [Nm.or, orK, List.length_map, List.length_range]; have := h.2.2; have := k.2.2; omega⟩
 obtain ⟨i, _, rfl⟩ := List.mem_map.1 hx
 have h1 := Nm.at_ok h i
 have h2 := Nm.at_ok k i
 show -1 ≤ max (n.at_ i) (m.at_ i) ∧ max (n.at_ i) (m.at_ i) ≤ 1099511627776
 omega
theorem nor_any (n m : Nm) (cs ds : Array Value) (D : Nat → Prop) (w : World) (hD : Within D w) (hn : NmIs D w n cs) (hm : NmIs D w m ds) :
    Calls Try.prog 142 #[.agg cs, .agg ds] w fun e w' => ∃ cs', e = .returned (.agg cs') ∧ NmIs (fresh w w') w' (n.or m) cs' ∧ Below w.heap.size w w' := by
 have hz := nm_zero
 have hn0 := hn
 have hm0 := hm
 obtain ⟨A, c, rfl, ⟨hok, hcap⟩, hzs⟩ := hn
 obtain ⟨A2, c2, rfl, ⟨hok2, hcap2⟩, hzs2⟩ := hm
 have HN := Lib.hid hn0
 have HM := Lib.hid hm0
 clear hn0 hm0
 obtain ⟨⟨hc0, hc1⟩, _, hlen⟩ := hok
 obtain ⟨⟨hc0', hc1'⟩, _, hlen2⟩ := hok2
 obtain ⟨L, hL⟩ : ∃ L : Nat, max n.ks.length m.ks.length = L := ⟨_, rfl⟩
 have hL1 : n.ks.length ≤ L := by omega
 have hL2 : m.ks.length ≤ L := by omega
 have hL3 : L ≤ 1001 := by omega
 have hLm : max (n.ks.length : Int) (m.ks.length : Int) = L := by omega
 have HL := Lib.hid hL; clear hL
 go_enter Try.func142, Try.ntmps142
 go_wp2_with fail
 have HLM := Lib.hid hLm; clear hLm
 obtain ⟨C, hC⟩ : ∃ C, max n.c m.c = C := ⟨_, rfl⟩
 have hC0 : 0 ≤ C ∧ C ≤ 1099511627776 := by omega
 rw [hC]
 have HCC := Lib.hid hC; clear hC
 obtain ⟨W1, hW1⟩ : ∃ W1, (((w.alloc (.cells #[.int .i64 n.c, .slice A n.ks.length c] 177)).alloc (.cells #[.int .i64 m.c, .slice A2 m.ks.length c2] 177)).alloc (.cells #[.int .i64 0, .slice none 0 0] 177)).alloc (.cells #[.int .i64 C, .slice none 0 0] 177) = W1 := ⟨_, rfl⟩
 have hu1 : Upd nob w W1 := by rw [← hW1]; exact ((((Upd.refl nob w).alloc _).alloc _).alloc _).alloc _
 have hs1 : W1.heap.size = w.heap.size + 4 := by rw [← hW1]; simp
 have a0 : Blk W1 w.heap.size 177 #[.int .i64 n.c, .slice A n.ks.length c] := by
  rw [← hW1]; exact (((Blk.new _ _ _).alloc _).alloc _).alloc _
 have a1 : Blk W1 (w.heap.size + 1) 177 #[.int .i64 m.c, .slice A2 m.ks.length c2] := by
  rw [← hW1]
  have := Blk.new (w.alloc (.cells #[.int .i64 n.c, .slice A n.ks.length c] 177)) 177 #[.int .i64 m.c, .slice A2 m.ks.length c2]
  rw [World.size_alloc] at this
  exact (this.alloc _).alloc _
 have b1 : Blk W1 (w.heap.size + 1 + 1) 177 #[.int .i64 0, .slice none 0 0] := by
  rw [← hW1]
  have := Blk.new ((w.alloc (.cells #[.int .i64 n.c, .slice A n.ks.length c] 177)).alloc (.cells #[.int .i64 m.c, .slice A2 m.ks.length c2] 177)) 177 #[.int .i64 0, .slice none 0 0]
  rw [World.size_alloc, World.size_alloc] at this
  exact this.alloc _
 have b2 : Blk W1 (w.heap.size + 1 + 1 + 1) 177 #[.int .i64 C, .slice none 0 0] := by
  rw [← hW1]
  have := Blk.new (((w.alloc (.cells #[.int .i64 n.c, .slice A n.ks.length c] 177)).alloc (.cells #[.int .i64 m.c, .slice A2 m.ks.length c2] 177)).alloc (.cells #[.int .i64 0, .slice none 0 0] 177)) 177 #[.int .i64 C, .slice none 0 0]
  rwa [World.size_alloc, World.size_alloc, World.size_alloc] at this
 rw [hW1]
 clear hW1
 go_loopw [20] (fun v wr => ∃ j : Nat, j ≤ L ∧ v = .int .i64 j ∧ ∃ sv, Blk wr w.heap.size 177 #[.int .i64 n.c, .slice A n.ks.length c] ∧ Blk wr (w.heap.size + 1) 177 #[.int .i64 m.c, .slice A2 m.ks.length c2] ∧
     Blk wr (w.heap.size + 1 + 1) 177 #[.int .i64 0, .slice none 0 0] ∧ Blk wr (w.heap.size + 1 + 1 + 1) 177 #[.int .i64 C, sv] ∧
     Coll intR nob (w.heap.size + 1 + 1 + 1 + 1) 3 wr sv ((orK n m).take j) ∧ Upd nob w wr ∧ w.heap.size + 4 ≤ wr.heap.size)
  (fun v _ => L - (intOf v).toNat)
 case atStart => exact ⟨0, Nat.zero_le _, rfl, _, a0, a1, b1, b2, Coll.nil_, hu1, by omega⟩
 case round =>
  obtain ⟨j, hj, rfl, sv, d0, d1, d2, d3, hc, hu, hsz⟩ := hrel
  obtain ⟨sA, sc, rfl, hcp⟩ := hc.form
  have hjl : ((orK n m).take j).length = j := by simp only [orK, List.length_take, List.length_map, List.length_range]; have := HL.out; omega
  rw [hjl] at d3 hc
  have D0 := Lib.hid d0
  have D1 := Lib.hid d1
  have D2 := Lib.hid d2
  have D3 := Lib.hid d3
  have HJ := Lib.hid hjl
  clear d0 d1 d2 d3 hjl
  rcases Nat.lt_or_ge j L with hlt | hge
  · have t2 : decide ((j : Int) < L) = true := by simp [hlt]
    go_wp2_with fail
    obtain ⟨W, rfl⟩ : ∃ W, W = wr := ⟨_, rfl⟩
    have e3 : W.cell? ⟨w.heap.size + 1 + 1 + 1, 1, none⟩ = some (.slice sA j sc) := D3.out.cell 1
    have r0 := D0.out.rowAt
    have r1 := D1.out.rowAt
    refine wp_region_P (by kernel_rfl) ?_
    refine wpAny_of_E (fun X : World => ∀ p : Addr, p.block < W.heap.size → X.cell? p = W.cell? p) 10 _ _ _ _ ?_
    have hS : ∀ p : Addr, p.block < W.heap.size → W.drew.cell? p = W.cell? p := fun _ _ => rfl
    refine eT 0 ?_ [1] rfl (by kernel_rfl) (by rfl) ?_ hS ?_
    rotate_left; · intro wx hx; clear hx; go_simp; with_reducible rfl
    try simp only [tl]
    refine eT 1 ?_ [] rfl (by kernel_rfl) (by rfl) ?_ hS ?_
    rotate_left
    · intro wx hx
      have q0 := (hx ⟨w.heap.size + 1 + 1 + 1, 1, none⟩ (by show w.heap.size + 1 + 1 + 1 < _; omega)).trans e3
      clear hx
      go_simp
      with_reducible rfl
    try simp only [tl]
    refine eT 2 (.agg #[.int .i64 n.c, .slice A n.ks.length c]) [7, 4] rfl (by kernel_rfl) (by rfl) ?_ hS ?_
    · intro wx hx
      exact run_load_at 177 (.tmp 2) rfl ⟨w.heap.size, 0, none⟩ rfl #[.int .i64 n.c, .slice A n.ks.length c] _ (row_on r0 (by show w.heap.size < _; omega) hx) Try.underlying177 rfl nm_size
    try simp only [tl]
    refine eT 3 ?_ [7, 4] rfl (by kernel_rfl) (by rfl) ?_ hS ?_
    rotate_left; · intro wx hx; clear hx; go_simp; with_reducible rfl
    try simp only [tl]
    refine eT 5 (.agg #[.int .i64 m.c, .slice A2 m.ks.length c2]) [7] rfl (by kernel_rfl) (by rfl) ?_ hS ?_
    · intro wx hx
      exact run_load_at 177 (.tmp 3) rfl ⟨w.heap.size + 1, 0, none⟩ rfl #[.int .i64 m.c, .slice A2 m.ks.length c2] _ (row_on r1 (by show w.heap.size + 1 < _; omega) hx) Try.underlying177 rfl nm_size
    try simp only [tl]
    refine eT 6 ?_ [7] rfl (by kernel_rfl) (by rfl) ?_ hS ?_
    rotate_left; · intro wx hx; clear hx; go_simp; with_reducible rfl
    try simp only [tl]
    refine wpAnyE_one (i := 4) (by kernel_rfl) (by kernel_rfl) rfl (by rfl) fun K hK => ?_
    go_simp
    refine (nat_any n _ D j W.drew (by omega) (hD.up hu).drew (HN.out.old (hD.old hu.drew) (fun _ h => h))).mono ?_
    rintro e w4 ⟨rfl, hb4⟩
    have hu4 : Upd nob W w4 := ((Upd.refl nob W).drew).trans (Upd.of_below hb4)
    have hS := cells_of_upd hu4
    refine hK _ _ hS ?_
    clear hK K; try simp only [tl]
    refine wpAnyE_one (i := 7) (by kernel_rfl) (by kernel_rfl) rfl (by rfl) fun K hK => ?_
    go_simp
    refine (nat_any m _ D j w4 (by omega) ((hD.up hu).up hu4) (HM.out.old (hD.old (hu.trans hu4)) (fun _ h => h))).mono ?_
    rintro e w5 ⟨rfl, hb5⟩
    have hu5 : Upd nob W w5 := hu4.trans (Upd.of_below hb5)
    have hS := cells_of_upd hu5
    refine hK _ _ hS ?_
    clear hK K; try simp only [tl]
    refine eT 8 ?_ [9] rfl (by kernel_rfl) (by rfl) ?_ hS ?_
    rotate_left; · intro wx hx; clear hx; go_simp; with_reducible rfl
    try simp only [tl]
    refine wpAnyE_one (i := 9) (by kernel_rfl) (by kernel_rfl) rfl (by rfl) fun K hK => ?_
    go_simp
    have hu6 : Upd nob W (w5.alloc (.cells #[.int .i64 (max (n.at_ j) (m.at_ j))] 3)) := hu5.alloc _
    refine hK _ _ (cells_of_upd hu6) ?_
    clear hK K; try simp only [tl]
    have hc5 : Coll intR nob (w.heap.size + 1 + 1 + 1 + 1) 3 (w5.alloc (.cells #[.int .i64 (max (n.at_ j) (m.at_ j))] 3)) (.slice sA j sc) ((orK n m).take j) := hc.upd hu6 (fun _ f => f.elim) (fun _ f => f.elim)
    refine wpAnyE_z (by kernel_rfl) rfl (by rfl) fun K hK => ?_
    refine owp_collect (.tmp 24) (.tmp 32) 130 rfl _ 8 Try.underlying130 int_info (by kernel_rfl) (by decide) rfl hc5 (fun _ f => f.elim) w5.heap.size #[.int .i64 (max (n.at_ j) (m.at_ j))] rfl (Blk.new _ _ _) (max (n.at_ j) (m.at_ j)) nob rfl (fun _ f => f.elim) j HJ.out (by omega) (by omega) (by have := hu6.size; omega) ?_
    intro sA6 sc6 w6 hc6 hu7 _
    refine hK _ _ ?_
    clear hK K; try simp only [tl]
    refine wpAny_one (i := 11) (by kernel_rfl) rfl (by rfl) fun K hK => ?_
    go_simp
    refine hK _ _ ?_
    clear hK K; try simp only [tl]
    have huW6 : Upd (fun k => (Value.slice sA j sc).ownBlock = some k) W w6 := (hu6.mono (fun _ f => f.elim)).trans hu7
    have g2 : Blk w6 (w.heap.size + 1 + 1 + 1) 177 #[.int .i64 C, .slice sA j sc] := D3.out.upd huW6 (fun h => by have := (hc.lt h).1; omega)
    have G2 := Lib.hid g2
    have g2c : w6.cell? ⟨w.heap.size + 1 + 1 + 1, 1, none⟩ = some (.slice sA j sc) := g2.cell 1
    have g2f := g2.frozen 1
    clear g2
    refine wpAny_one (i := 12) (by kernel_rfl) rfl (by rfl) fun K hK => ?_
    go_simp
    refine hK _ _ ?_
    clear hK K; try simp only [tl]
    refine wpAny_done (by kernel_rfl) ?_ _
    refine NoPanic.normal ?_
    go_wp2_with fail
    case roundEnd =>
     have hfin : Upd (fun x => (Value.slice sA j sc).ownBlock = some x ∨ x = w.heap.size + 1 + 1 + 1) W (w6.setCell ⟨w.heap.size + 1 + 1 + 1, 1, none⟩ (.slice sA6 (j + 1) sc6)) :=
      (huW6.mono fun _ h => .inl h).setCell (p := ⟨w.heap.size + 1 + 1 + 1, 1, none⟩) (.inl (.inr rfl)) _
     have hnot : ∀ x, x < w.heap.size + 1 + 1 + 1 → ¬ ((Value.slice sA j sc).ownBlock = some x ∨ x = w.heap.size + 1 + 1 + 1) := fun x hx h => by
      rcases h with h | h
      · have := (hc.lt h).1; omega
      omega
     have hlt' : j < (List.range (max n.ks.length m.ks.length)).length := by rw [List.length_range, HL.out]; exact hlt
     have hmap : (orK n m).take (j + 1) = (orK n m).take j ++ [max (n.at_ j) (m.at_ j)] := by
      unfold orK; rw [take_map_succ _ _ _ hlt', List.getElem_range]
     refine ⟨⟨j + 1, by omega, by simp, .slice sA6 (j + 1) sc6, D0.out.upd hfin (hnot _ (by omega)), D1.out.upd hfin (hnot _ (by omega)), D2.out.upd hfin (hnot _ (by omega)), G2.out.set 1 _, ?_, hu.trans' hfin (fun x hx h => hnot x (by omega) h), by have := hfin.size; omega⟩, by simp [intOf]; omega⟩
     rw [hmap]
     exact hc6.upd ((Upd.refl (fun x => x = w.heap.size + 1 + 1 + 1) w6).setCell (p := ⟨w.heap.size + 1 + 1 + 1, 1, none⟩) (.inl rfl) _) (fun x hx => ⟨by omega, fun f => f⟩) (fun _ f => f.elim)
  have t2 : decide ((j : Int) < L) = false := by simp; omega
  have hje : j = L := by omega
  subst hje
  have r2 := D3.out.rowAt
  go_wp2_with (first
   | (refine wpList_at rfl 177 (.tmp 5) rfl ⟨w.heap.size + 1 + 1 + 1, 0, none⟩ rfl _ _ r2 Try.underlying177 rfl nm_size ?_)
   | (refine wpList_store_row rfl 177 (.tmp 4) (.tmp 36) rfl (w.heap.size + 1 + 1) _ rfl rfl 177 _ D2.out nm_size rfl (by simp [Value.oneCell']) ?_))
  refine bodyPost_ret (results_cell_row rfl _ _ (w.heap.size + 1 + 1) 177 _ (0, 0) _ rfl (D2.out.row _) Try.underlying177 rfl nm_size) rfl ?_
  have hfin : Upd (fun x => x = w.heap.size + 1 + 1) wr (wr.setRow (w.heap.size + 1 + 1) #[.int .i64 C, .slice sA j sc]) := (Upd.refl (fun x => x = w.heap.size + 1 + 1) wr).setRow (.inl rfl) _
  refine ⟨_, rfl, ?_, (hu.trans' hfin (fun x hx h => by omega)).below⟩
  have hc9 := hc.upd hfin (fun x hx => ⟨by omega, fun f => f⟩) (fun _ f => f.elim)
  obtain ⟨A9, c9, hv9, hcap9, hat⟩ := hc9.ints (D := fresh w (wr.setRow (w.heap.size + 1 + 1) #[.int .i64 C, .slice sA j sc])) (fun x h => ⟨by omega, h.2⟩)
  have hol : (orK n m).length = j := by simp only [orK, List.length_map, List.length_range]; exact HL.out
  have htk : (orK n m).take j = orK n m := List.take_of_length_le (by omega)
  rw [htk] at hv9 hat hcap9
  injection hv9 with q1 q2 q3
  subst q1 q3
  refine ⟨sA, sc, ?_, ⟨Nm.or_ok (by obtain ⟨_, _, _, h, _⟩ := HN.out; exact h.1) (by obtain ⟨_, _, _, h, _⟩ := HM.out; exact h.1), hcap9⟩, hat⟩
  simp only [Nm.or]
  rw [HCC.out, hol]
end Go.Proofs.Ytiampoebdmflgaa
/- slices.Max, (level.norm).short, slices.Equal over numbers. -/
namespace Go.Proofs.Ytiampoebdmflgaa
open Go.RowKit
set_option linter.unusedVariables false
set_option maxRecDepth 100000
set_option maxHeartbeats 4000000
set_option linter.unusedSimpArgs false
def lmax : List Int → Int
 | [] => 0
 | x :: xs => xs.foldl max x
theorem lmax_snoc (zs : List Int) (h : zs ≠ []) (x : Int) : lmax (zs ++ [x]) = max (lmax zs) x := by
 cases zs with
 | nil => exact absurd rfl h
 | cons y ys => simp [lmax]
theorem max_any (zs : List Int) (A : Option Addr) (c : Nat) (D : Nat → Prop) (w : World) (hne : zs ≠ []) (hlen : zs.length ≤ 1001) (hz : IntsAt D w zs A) :
    Calls Try.prog 144 #[.slice A zs.length c] w fun e w' => e = .returned (.int .i64 (lmax zs)) ∧ w' = w := by
 have h0 : 0 < zs.length := List.length_pos_iff.2 hne
 obtain ⟨a, hA, hab, hc0, _⟩ := hz 0 _ (List.getElem?_eq_getElem h0)
 have hc0' : w.cell? a = some (.int .i64 zs[0]) := by simpa [Addr.add] using hc0
 subst hA
 have t0 : decide ((zs.length : Int) < 1) = false := by simp; omega
 have h0' : (0 : Int) < zs.length := by omega
 go_enter Try.func144, Try.ntmps144
 go_wp2_with fail
 go_loop [3, 4] (fun m i => ∃ j : Nat, 1 ≤ j ∧ j ≤ zs.length ∧ i = .int .i64 j ∧ m = .int .i64 (lmax (zs.take j))) (fun _ i => zs.length - (intOf i).toNat)
 case atStart =>
  refine ⟨1, by omega, by omega, rfl, ?_⟩
  have : zs.take 1 = [zs[0]] := by rw [List.take_succ_eq_append_getElem h0]; simp
  rw [this]; rfl
 case round =>
  obtain ⟨j, hj1, hj, rfl, rfl⟩ := hrel
  rcases Nat.lt_or_ge j zs.length with hlt | hge
  · have t2 : decide ((j : Int) < zs.length) = true := by simp [hlt]
    obtain ⟨a', hA, _, hcj, _⟩ := hz j _ (List.getElem?_eq_getElem hlt)
    obtain rfl : a = a' := by simpa using hA
    have hsn : lmax (zs.take (j + 1)) = max (lmax (zs.take j)) zs[j] := by
     rw [List.take_succ_eq_append_getElem hlt]
     exact lmax_snoc _ (by intro h; have := congrArg List.length h; rw [List.length_take, List.length_nil] at this; omega) _
    have HS := Lib.hid hsn; clear hsn
    obtain ⟨M, hM⟩ : ∃ M, lmax (zs.take j) = M := ⟨_, rfl⟩
    rw [hM] at HS ⊢
    clear hM
    go_wp2_with fail
    go_round
    case rel => exact ⟨j + 1, by omega, by omega, by go_num, by rw [HS.out]⟩
    case measure => simp [intOf]; omega
  have t2 : decide ((j : Int) < zs.length) = false := by simp; omega
  have hje : zs.take j = zs := List.take_of_length_le hge
  rw [hje]
  clear hje
  go_wp2_with fail
  go_ret
  exact ⟨rfl, rfl⟩
def trimN (ks : List Int) : Nat → Nat
 | 0 => 0
 | j + 1 => if ks.getD j 0 < 0 then trimN ks j else j + 1
theorem trimN_le (ks : List Int) : ∀ j, trimN ks j ≤ j
 | 0 => Nat.le_refl _
 | j + 1 => by
  have := trimN_le ks j
  unfold trimN; split <;> omega
def Nm.short (n : Nm) : Nm := ⟨if n.ks ≠ [] ∧ n.c ≤ lmax n.ks then 0 else n.c, n.ks.take (trimN n.ks n.ks.length)⟩
theorem Nm.short_ok {n : Nm} (h : n.Ok) : n.short.Ok := by
 refine ⟨by simp only [Nm.short]; have := h.1; split <;> omega, fun x hx => h.2.1 x (List.mem_of_mem_take hx), ?_⟩
 have := trimN_le n.ks n.ks.length
 simp only [Nm.short, List.length_take]; have := h.2.2; omega
theorem nshort_any (n : Nm) (cs : Array Value) (D : Nat → Prop) (w : World) (hD : Within D w) (hn : NmIs D w n cs) :
    Calls Try.prog 128 #[.agg cs] w fun e w' => ∃ cs', e = .returned (.agg cs') ∧ NmIs D w' n.short cs' ∧ Below w.heap.size w w' := by
 have hz := nm_zero
 have hn0 := hn
 obtain ⟨A, c, rfl, ⟨hok, hcap⟩, hzs⟩ := hn
 obtain ⟨C, hC⟩ : ∃ C, (if n.ks ≠ [] ∧ n.c ≤ lmax n.ks then 0 else n.c) = C := ⟨_, rfl⟩
 have HC := Lib.hid hC; clear hC
 have hlen := hok.2.2
 have HOK := Lib.hid (Nm.short_ok hok)
 -- what is left at the end
 have fin : ∀ (k : Nat) (W' : World) (c' : Nat), k = trimN n.ks n.ks.length → k ≤ c' → Upd nob w W' →
     ∃ cs', Ending.returned (.agg #[.int .i64 C, .slice A k c']) = .returned (.agg cs') ∧ NmIs D W' n.short cs' ∧ Below w.heap.size w W' := by
  intro k W' c' hk hkc hfin
  have h2 : n.short.ks.length = k := by
   have := trimN_le n.ks n.ks.length
   simp only [Nm.short, List.length_take]; omega
  refine ⟨_, rfl, ⟨A, c', ?_, ⟨HOK.out, by rw [h2]; exact hkc⟩, ?_⟩, hfin.below⟩
  · have h1 : n.short.c = C := HC.out
    rw [h1, h2]
  intro j z hj
  refine (hzs.old (hD.old hfin) (fun _ h => h)) j z ?_
  simp only [Nm.short] at hj
  rw [List.getElem?_take] at hj
  split at hj
  · exact hj
  cases hj
 have FIN := Lib.hid fin; clear fin
 by_cases hne : n.ks = []
 · have hl0 : n.ks.length = 0 := by rw [hne]; rfl
   have hc0 : n.c = C := by have := HC.out; rwa [if_neg (by simp [hne])] at this
   rw [hl0, hc0]
   have FIN0 : Hid (∀ (W' : World) (c' : Nat), Upd nob w W' → ∃ cs', (Ending.returned (.agg #[.int .i64 C, .slice A 0 c'])) = .returned (.agg cs') ∧ NmIs D W' n.short cs' ∧ Below w.heap.size w W') := Lib.hid fun W' c' h => FIN.out 0 W' c' (by rw [hl0]; rfl) (Nat.zero_le _) h
   clear hne hc0 hl0
   go_enter Try.func128, Try.ntmps128
   go_wp2_with fail
   go_quiet (fail)
   go_wp2_with fail
   refine wp_loop_once ?_
   go_wp2_with fail
   have b1 : Blk (((w.alloc (.cells #[.int .i64 C, .slice A 0 c] 177)).alloc (.cells #[.int .i64 0, .slice none 0 0] 177)).drewN nq) (w.heap.size + 1) 177 #[.int .i64 0, .slice none 0 0] := by
    have := Blk.new (w.alloc (.cells #[.int .i64 C, .slice A 0 c] 177)) 177 #[.int .i64 0, .slice none 0 0]
    rw [World.size_alloc] at this
    exact this
   refine bodyPost_ret (results_cell_row rfl _ _ (w.heap.size + 1) 177 #[.int .i64 C, .slice A 0 c] (0, 0) _ rfl ((b1.set 0 (.int .i64 C)).set 1 (.slice A 0 c)) Try.underlying177 rfl nm_size) rfl ?_
   exact FIN0.out _ c ((((upd_drewN (((Upd.refl nob w).alloc _).alloc _) nq).setCell (p := ⟨w.heap.size + 1, 0, none⟩) (.inr (Nat.le_succ _)) _).setCell (p := ⟨w.heap.size + 1, 1, none⟩) (.inr (Nat.le_succ _)) _))
 have h0 : 0 < n.ks.length := List.length_pos_iff.2 hne
 have t0 : decide (0 < n.ks.length) = true := by simpa using h0
 obtain ⟨a, hA, hab, _⟩ := hzs 0 _ (List.getElem?_eq_getElem h0)
 subst hA
 have hMx : ∀ wx : World, Upd nob w wx → Calls Try.prog 144 #[.slice (some a) n.ks.length c] wx fun e w' => e = .returned (.int .i64 (lmax n.ks)) ∧ w' = wx :=
  fun wx hu => max_any n.ks (some a) c D wx hne hlen (hzs.old (hD.old hu) (fun _ h => h))
 have HM := Lib.hid hMx; clear hMx
 by_cases hcm : n.c ≤ lmax n.ks
 · have t1 : decide (n.c ≤ lmax n.ks) = true := by simpa using hcm
   have hCC : (0 : Int) = C := by have := HC.out; rwa [if_pos ⟨hne, hcm⟩] at this
   have HCC := Lib.hid hCC
   clear hcm hCC
   go_enter Try.func128, Try.ntmps128
   go_wp2_with fail
   go_quiet ((go_at_call 144; exact Calls.quiet_of_same (HM.out _ (upd_drewN (((Upd.refl nob w).alloc _).alloc _) _))))
   go_wp2_with fail
   obtain ⟨W1, hW1⟩ : ∃ W1, (((w.alloc (.cells #[.int .i64 n.c, .slice (some a) n.ks.length c] 177)).alloc (.cells #[.int .i64 0, .slice none 0 0] 177)).drewN nq).setCell ⟨w.heap.size, 0, none⟩ (.int .i64 0) = W1 := ⟨_, rfl⟩
   have hu1 : Upd nob w W1 := by rw [← hW1]; exact (upd_drewN (((Upd.refl nob w).alloc _).alloc _) nq).setCell (p := ⟨w.heap.size, 0, none⟩) (.inr (Nat.le_refl _)) _
   have c0 : Blk W1 w.heap.size 177 #[.int .i64 C, .slice (some a) n.ks.length c] := by
    rw [← hW1, ← HCC.out]
    exact Blk.set (w := ((w.alloc (.cells #[.int .i64 n.c, .slice (some a) n.ks.length c] 177)).alloc (.cells #[.int .i64 0, .slice none 0 0] 177)).drewN nq) (cs := #[.int .i64 n.c, .slice (some a) n.ks.length c]) ((Blk.new _ _ _).alloc _) 0 (.int .i64 0)
   have c1 : Blk W1 (w.heap.size + 1) 177 #[.int .i64 0, .slice none 0 0] := by
    rw [← hW1]
    have := Blk.new (w.alloc (.cells #[.int .i64 n.c, .slice (some a) n.ks.length c] 177)) 177 #[.int .i64 0, .slice none 0 0]
    rw [World.size_alloc] at this
    exact Blk.far (w := ((w.alloc (.cells #[.int .i64 n.c, .slice (some a) n.ks.length c] 177)).alloc (.cells #[.int .i64 0, .slice none 0 0] 177)).drewN nq) this (by show w.heap.size + 1 ≠ w.heap.size; omega) _
   rw [hW1]
   clear hW1
   go_loopg [16] n.ks.length (fun k _ wr => k ≤ n.ks.length ∧ trimN n.ks k = trimN n.ks n.ks.length ∧ Blk wr w.heap.size 177 #[.int .i64 C, .slice (some a) k c] ∧ Blk wr (w.heap.size + 1) 177 #[.int .i64 0, .slice none 0 0] ∧ Upd nob w wr)
   case atStart => exact ⟨Nat.le_refl _, rfl, c0, c1, hu1⟩
   case round =>
    clear c0 c1 hu1
    obtain ⟨hk, htr, c0, c1, hu⟩ := hrel
    have q0 : wr.cell? ⟨w.heap.size, 0, none⟩ = some (.int .i64 C) := c0.cell 0
    have q1 : wr.cell? ⟨w.heap.size, 1, none⟩ = some (.slice (some a) gk c) := c0.cell 1
    have f1 := c0.frozen 1
    have C0 := Lib.hid c0
    have C1 := Lib.hid c1
    have HT := Lib.hid htr
    have r0 := c0.rowAt
    clear c0 c1 htr
    rcases Nat.eq_zero_or_pos gk with hk0 | hk0
    · subst hk0
      go_wp2_with (first
       | ((with_reducible refine this_op (.load 177 (.tmp 1)) ?_); refine wpList_at rfl 177 (.tmp 1) rfl ⟨w.heap.size, 0, none⟩ rfl _ _ r0 Try.underlying177 rfl nm_size ?_)
       | ((with_reducible refine this_op (.store 177 (.tmp 2) (.tmp 39)) ?_); refine wpList_store_row rfl 177 (.tmp 2) (.tmp 39) rfl (w.heap.size + 1) _ rfl rfl 177 _ C1.out nm_size rfl (by simp [Value.oneCell']) ?_))
      refine bodyPost_ret (results_cell_row rfl _ _ (w.heap.size + 1) 177 _ (0, 0) _ rfl (C1.out.row _) Try.underlying177 rfl nm_size) rfl ?_
      exact FIN.out 0 _ c HT.out (Nat.zero_le _) (hu.trans' ((Upd.refl (fun x => x = w.heap.size + 1) wr).setRow (.inl rfl) _) (fun x hx h => by omega))
    obtain ⟨k', rfl⟩ : ∃ k', gk = k' + 1 := ⟨gk - 1, by omega⟩
    have hlt : k' < n.ks.length := by omega
    obtain ⟨a', hA, _, hcell, _⟩ := hzs k' _ (List.getElem?_eq_getElem hlt)
    obtain rfl : a = a' := by simpa using hA
    obtain ⟨x, hx⟩ : ∃ x, n.ks[k'] = x := ⟨_, rfl⟩
    rw [hx] at hcell
    have hcell' : wr.cell? (a.add k') = some (.int .i64 x) := ((hD.old hu).cell (by rw [Addr_add_block]; exact hab)).trans hcell
    have hgd : n.ks.getD k' 0 = x := by simp [hlt, hx]
    have htr' : trimN n.ks (k' + 1) = if x < 0 then trimN n.ks k' else k' + 1 := by rw [trimN, hgd]
    have HT' := Lib.hid htr'
    clear hcell hA hgd htr'
    have t5 : decide (0 < k' + 1) = true := by simp
    have h5 : 0 < k' + 1 := by omega
    have hint : (((k' + 1 : Nat) : Int) - 1) = (k' : Int) := by omega
    by_cases hx0 : x < 0
    · have t2 : decide (x < 0) = true := by simp [hx0]
      go_wp2_with fail
      go_roundg k'
      case measure => omega
      case rel =>
       have hst : Upd nob w (wr.setCell ⟨w.heap.size, 1, none⟩ (.slice (some a) k' c)) := hu.setCell (p := ⟨w.heap.size, 1, none⟩) (.inr (Nat.le_refl _)) _
       refine ⟨by omega, ?_, C0.out.set 1 _, C1.out.far (p := ⟨w.heap.size, 1, none⟩) (by show w.heap.size + 1 ≠ w.heap.size; omega) _, hst⟩
       rw [← HT.out, HT'.out, if_pos hx0]
    have t2 : decide (x < 0) = false := by simp; omega
    go_wp2_with (first
     | ((with_reducible refine this_op (.load 177 (.tmp 1)) ?_); refine wpList_at rfl 177 (.tmp 1) rfl ⟨w.heap.size, 0, none⟩ rfl _ _ r0 Try.underlying177 rfl nm_size ?_)
     | ((with_reducible refine this_op (.store 177 (.tmp 2) (.tmp 39)) ?_); refine wpList_store_row rfl 177 (.tmp 2) (.tmp 39) rfl (w.heap.size + 1) _ rfl rfl 177 _ C1.out nm_size rfl (by simp [Value.oneCell']) ?_))
    refine bodyPost_ret (results_cell_row rfl _ _ (w.heap.size + 1) 177 _ (0, 0) _ rfl (C1.out.row _) Try.underlying177 rfl nm_size) rfl ?_
    exact FIN.out (k' + 1) _ c (by rw [← HT.out, HT'.out, if_neg (by omega)]) (by omega) (hu.trans' ((Upd.refl (fun x => x = w.heap.size + 1) wr).setRow (.inl rfl) _) (fun x hx h => by omega))
 have t1 : decide (n.c ≤ lmax n.ks) = false := by simpa using hcm
 have hCC : n.c = C := by have := HC.out; rwa [if_neg (fun h => hcm h.2)] at this
 have HCC := Lib.hid hCC
 clear hcm hCC
 go_enter Try.func128, Try.ntmps128
 go_wp2_with fail
 go_quiet ((go_at_call 144; exact Calls.quiet_of_same (HM.out _ (upd_drewN (((Upd.refl nob w).alloc _).alloc _) _))))
 go_wp2_with fail
 obtain ⟨W1, hW1⟩ : ∃ W1, ((w.alloc (.cells #[.int .i64 n.c, .slice (some a) n.ks.length c] 177)).alloc (.cells #[.int .i64 0, .slice none 0 0] 177)).drewN nq = W1 := ⟨_, rfl⟩
 have hu1 : Upd nob w W1 := by rw [← hW1]; exact upd_drewN (((Upd.refl nob w).alloc _).alloc _) nq
 have c0 : Blk W1 w.heap.size 177 #[.int .i64 C, .slice (some a) n.ks.length c] := by
  rw [← hW1, ← HCC.out]
  exact (Blk.new w _ _).alloc _
 have c1 : Blk W1 (w.heap.size + 1) 177 #[.int .i64 0, .slice none 0 0] := by
  rw [← hW1]
  have := Blk.new (w.alloc (.cells #[.int .i64 n.c, .slice (some a) n.ks.length c] 177)) 177 #[.int .i64 0, .slice none 0 0]
  rw [World.size_alloc] at this
  exact this
 rw [hW1]
 clear hW1
 go_loopg [16] n.ks.length (fun k _ wr => k ≤ n.ks.length ∧ trimN n.ks k = trimN n.ks n.ks.length ∧ Blk wr w.heap.size 177 #[.int .i64 C, .slice (some a) k c] ∧ Blk wr (w.heap.size + 1) 177 #[.int .i64 0, .slice none 0 0] ∧ Upd nob w wr)
 case atStart => exact ⟨Nat.le_refl _, rfl, c0, c1, hu1⟩
 case round =>
  clear c0 c1 hu1
  obtain ⟨hk, htr, c0, c1, hu⟩ := hrel
  have q0 : wr.cell? ⟨w.heap.size, 0, none⟩ = some (.int .i64 C) := c0.cell 0
  have q1 : wr.cell? ⟨w.heap.size, 1, none⟩ = some (.slice (some a) gk c) := c0.cell 1
  have f1 := c0.frozen 1
  have C0 := Lib.hid c0
  have C1 := Lib.hid c1
  have HT := Lib.hid htr
  have r0 := c0.rowAt
  clear c0 c1 htr
  rcases Nat.eq_zero_or_pos gk with hk0 | hk0
  · subst hk0
    go_wp2_with (first
     | ((with_reducible refine this_op (.load 177 (.tmp 1)) ?_); refine wpList_at rfl 177 (.tmp 1) rfl ⟨w.heap.size, 0, none⟩ rfl _ _ r0 Try.underlying177 rfl nm_size ?_)
     | ((with_reducible refine this_op (.store 177 (.tmp 2) (.tmp 39)) ?_); refine wpList_store_row rfl 177 (.tmp 2) (.tmp 39) rfl (w.heap.size + 1) _ rfl rfl 177 _ C1.out nm_size rfl (by simp [Value.oneCell']) ?_))
    refine bodyPost_ret (results_cell_row rfl _ _ (w.heap.size + 1) 177 _ (0, 0) _ rfl (C1.out.row _) Try.underlying177 rfl nm_size) rfl ?_
    exact FIN.out 0 _ c HT.out (Nat.zero_le _) (hu.trans' ((Upd.refl (fun x => x = w.heap.size + 1) wr).setRow (.inl rfl) _) (fun x hx h => by omega))
  obtain ⟨k', rfl⟩ : ∃ k', gk = k' + 1 := ⟨gk - 1, by omega⟩
  have hlt : k' < n.ks.length := by omega
  obtain ⟨a', hA, _, hcell, _⟩ := hzs k' _ (List.getElem?_eq_getElem hlt)
  obtain rfl : a = a' := by simpa using hA
  obtain ⟨x, hx⟩ : ∃ x, n.ks[k'] = x := ⟨_, rfl⟩
  rw [hx] at hcell
  have hcell' : wr.cell? (a.add k') = some (.int .i64 x) := ((hD.old hu).cell (by rw [Addr_add_block]; exact hab)).trans hcell
  have hgd : n.ks.getD k' 0 = x := by simp [hlt, hx]
  have htr' : trimN n.ks (k' + 1) = if x < 0 then trimN n.ks k' else k' + 1 := by rw [trimN, hgd]
  have HT' := Lib.hid htr'
  clear hcell hA hgd htr'
  have t5 : decide (0 < k' + 1) = true := by simp
  have h5 : 0 < k' + 1 := by omega
  have hint : (((k' + 1 : Nat) : Int) - 1) = (k' : Int) := by omega
  by_cases hx0 : x < 0
  · have t2 : decide (x < 0) = true := by simp [hx0]
    go_wp2_with fail
    go_roundg k'
    case measure => omega
    case rel =>
     have hst : Upd nob w (wr.setCell ⟨w.heap.size, 1, none⟩ (.slice (some a) k' c)) := hu.setCell (p := ⟨w.heap.size, 1, none⟩) (.inr (Nat.le_refl _)) _
     refine ⟨by omega, ?_, C0.out.set 1 _, C1.out.far (p := ⟨w.heap.size, 1, none⟩) (by show w.heap.size + 1 ≠ w.heap.size; omega) _, hst⟩
     rw [← HT.out, HT'.out, if_pos hx0]
  have t2 : decide (x < 0) = false := by simp; omega
  go_wp2_with (first
   | ((with_reducible refine this_op (.load 177 (.tmp 1)) ?_); refine wpList_at rfl 177 (.tmp 1) rfl ⟨w.heap.size, 0, none⟩ rfl _ _ r0 Try.underlying177 rfl nm_size ?_)
   | ((with_reducible refine this_op (.store 177 (.tmp 2) (.tmp 39)) ?_); refine wpList_store_row rfl 177 (.tmp 2) (.tmp 39) rfl (w.heap.size + 1) _ rfl rfl 177 _ C1.out nm_size rfl (by simp [Value.oneCell']) ?_))
  refine bodyPost_ret (results_cell_row rfl _ _ (w.heap.size + 1) 177 _ (0, 0) _ rfl (C1.out.row _) Try.underlying177 rfl nm_size) rfl ?_
  exact FIN.out (k' + 1) _ c (by rw [← HT.out, HT'.out, if_neg (by omega)]) (by omega) (hu.trans' ((Upd.refl (fun x => x = w.heap.size + 1) wr).setRow (.inl rfl) _) (fun x hx h => by omega))
end Go.Proofs.Ytiampoebdmflgaa
/- slices.Equal over numbers. -/
namespace Go.Proofs.Ytiampoebdmflgaa
open Go.RowKit
set_option linter.unusedVariables false
set_option maxRecDepth 100000
set_option maxHeartbeats 4000000
set_option linter.unusedSimpArgs false
theorem eqi_any (zs ys : List Int) (A A2 : Option Addr) (c c2 : Nat) (D : Nat → Prop) (w : World) (hD : Within D w) (hlen : zs.length ≤ 1001) (hlen2 : ys.length ≤ 1001) (hz : IntsAt D w zs A) (hy : IntsAt D w ys A2) :
    Calls Try.prog 129 #[.slice A zs.length c, .slice A2 ys.length c2] w fun e w' => e = .returned (.bool (decide (zs = ys))) ∧ Below w.heap.size w w' := by
 by_cases hl : zs.length = ys.length
 case neg =>
  have t1 : ((zs.length : Int) != ys.length) = true := by simp; omega
  have hne : decide (zs = ys) = false := by simp; intro h; exact hl (by rw [h])
  rw [hne]
  clear hne
  go_enter Try.func129, Try.ntmps129
  go_wp2_with fail
  go_ret
  exact ⟨rfl, Below.refl _ _⟩
 have t1 : ((zs.length : Int) != ys.length) = false := by simp; omega
 obtain ⟨R, hR⟩ : ∃ R, decide (zs = ys) = R := ⟨_, rfl⟩
 rw [hR]
 have HR := Lib.hid hR
 have HL := Lib.hid hl
 clear hR
 rw [← hl]
 clear hl
 have t1 : ((zs.length : Int) != zs.length) = false := by simp
 go_enter Try.func129, Try.ntmps129
 go_wp2_with fail
 go_loopg [13] zs.length (fun k i wr => ∃ j : Nat, j + k = zs.length ∧ i = .int .i64 j ∧ zs.take j = ys.take j ∧ ∃ m, wr = w.drewN m)
 case atStart => exact ⟨0, by omega, rfl, rfl, 0, rfl⟩
 case round =>
  obtain ⟨j, hj, rfl, htk, m, rfl⟩ := hrel
  have HTK := Lib.hid htk; clear htk
  rcases Nat.lt_or_ge j zs.length with hlt | hge
  · have t2 : decide ((j : Int) < zs.length) = true := by simp [hlt]
    have hlt2 : j < ys.length := by have := HL.out; omega
    obtain ⟨a, hA, hab, hc, _⟩ := hz j _ (List.getElem?_eq_getElem hlt)
    obtain ⟨a2, hA2, hab2, hc2, _⟩ := hy j _ (List.getElem?_eq_getElem hlt2)
    subst hA hA2
    obtain ⟨x, hx⟩ : ∃ x, zs[j] = x := ⟨_, rfl⟩
    obtain ⟨y, hy'⟩ : ∃ y, ys[j] = y := ⟨_, rfl⟩
    rw [hx] at hc
    rw [hy'] at hc2
    have HX := Lib.hid hx
    have HY := Lib.hid hy'
    clear hx hy'
    go_wp2_with fail
    go_quiet (fail)
    have htk1 : zs.take (j + 1) = zs.take j ++ [x] := by rw [List.take_succ_eq_append_getElem hlt, HX.out]
    have htk2 : ys.take (j + 1) = ys.take j ++ [y] := by rw [List.take_succ_eq_append_getElem hlt2, HY.out]
    have H1 := Lib.hid htk1
    have H2 := Lib.hid htk2
    clear htk1 htk2
    by_cases hxy : x = y
    · have t3 : (x != y) = false := by simpa using hxy
      have HXY := Lib.hid hxy; clear hxy
      go_wp2_with fail
      go_roundg (gk - 1)
      case measure => omega
      case rel => exact ⟨j + 1, by omega, by go_num, by rw [H1.out, H2.out, HTK.out, HXY.out], m + nq, rfl⟩
    have t3 : (x != y) = true := by simpa using hxy
    have HXY := Lib.hid hxy; clear hxy
    go_wp2_with fail
    go_ret
    refine ⟨?_, below_drewN (below_drewN (Below.refl _ _) _) _⟩
    rw [← HR.out]
    have : zs ≠ ys := fun h => HXY.out (by have h1 := HX.out; have h2 := HY.out; subst h; rw [← h1, ← h2])
    simp [this]
  have t2 : decide ((j : Int) < zs.length) = false := by simp; omega
  go_wp2_with fail
  go_ret
  refine ⟨?_, below_drewN (Below.refl _ _) _⟩
  have h1 := HTK.out
  rw [List.take_of_length_le hge, List.take_of_length_le (by have := HL.out; omega)] at h1
  rw [← HR.out]
  simp [h1]
end Go.Proofs.Ytiampoebdmflgaa
/- slices.Repeat of one number. -/
namespace Go.Proofs.Ytiampoebdmflgaa
open Go.RowKit
set_option linter.unusedVariables false
set_option maxRecDepth 100000
set_option maxHeartbeats 4000000
set_option linter.unusedSimpArgs false
theorem mul64_one (m : Nat) (hm : m ≤ 2000) (w : World) : Calls Try.prog 151 #[.int .u64 1, .int .u64 m] w fun e w' => e = .returned (.tuple #[.int .u64 0, .int .u64 m]) ∧ w = w' := by
 have b1 : bits BinOp.and IntKind.u64 1 4294967295 = 1 := by kernel_rfl
 have b0 : bits BinOp.and IntKind.u64 0 4294967295 = 0 := by kernel_rfl
 have bm : bits BinOp.and IntKind.u64 (m : Int) 4294967295 = m := by rw [and_low32 _ (by omega) (by omega)]; omega
 have hd : (m : Int) / 4294967296 = 0 := by omega
 go_enter Try.func151, Try.ntmps151
 go_wp2
 go_ret2
 exact ⟨rfl, rfl⟩
theorem mul_one_any (m : Nat) (hm : m ≤ 2000) (w : World) : Calls Try.prog 148 #[.int .u64 1, .int .u64 m] w fun e w' => e = .returned (.tuple #[.int .u64 0, .int .u64 m]) ∧ w = w' := by
 go_enter Try.func148, Try.ntmps148
 go_wp2_with ((go_at_call 151; refine (mul64_one m hm _).mono ?_; rintro e w' ⟨rfl, rfl⟩))
 go_ret2
 exact ⟨rfl, rfl⟩
theorem owp_copy {P : Program} {o : Oper} {a : Act} {w : World} {K : Act → World → Prop} {Q : Exit → Act → World → Prop} (hgd : o.guard = none) (d s : Operand) (dT sT : TypeId)
    (ho : o.op = .call { callee := .builtin .copy, args := #[d, s], argTypes := #[dT, sT] }) (elem : TypeId) (hu : P.underlying dT = some (.slice elem)) (hsz : (P.info? elem).map (·.size) = some 1)
    (dp sp : Option Addr) (dLen dCap sLen sCap : Nat) (hd : a.eval d = .slice dp dLen dCap) (hs : a.eval s = .slice sp sLen sCap)
    (g off : Nat) (cur : List Value) (t : TypeId) (hg : w.heap[g]? = some (.cells cur.toArray t (0, 0))) (cs : List Value) (hn : cs.length = Nat.min sLen dLen)
    (hpos : 0 < cs.length → dp = some ⟨g, off, none⟩ ∧ ∃ ad, sp = some ad ∧ ∀ j v, cs[j]? = some v → w.cell? (ad.add j) = some v)
    (hfit : off + cs.length ≤ cur.length) (h1 : ∀ v ∈ cs, v.oneCell' = true) (B : Nat) (w0 : World) (hb : Below B w0 w) (hBg : B ≤ g)
    (h : ∀ w', Hid (w'.heap[g]? = some (.cells (splice cur off cs).toArray t (0, 0))) → Below B w0 w' → K (a.put o.dst (goInt cs.length)) w') : o.wp P a w K Q := by
 have h := step_copy_splice (P := P) (ops := #[]) (Q := Q) (E := True) hgd d s dT sT ho elem hu hsz dp sp dLen dCap sLen sCap hd hs g off cur t hg cs hn hpos hfit h1 B w0 hb hBg h
 rwa [if_pos (by simp [Region.wanted, hgd])] at h
theorem rep_any (z : Int) (m b : Nat) (w : World) (hm1 : 1 ≤ m) (hm : m ≤ 1001) (hb : Blk w b 3 #[.int .i64 z]) :
    Calls Try.prog 143 #[.slice (some ⟨b, 0, none⟩) 1 1, .int .i64 m] w fun e w' => ∃ g, e = .returned (.slice (some ⟨g, 0, none⟩) m m) ∧ Blk w' g 3 (List.replicate m (.int .i64 z)).toArray ∧ w.heap.size ≤ g ∧ Below w.heap.size w w' := by
 have c0 : w.cell? ⟨b, 0, none⟩ = some (.int .i64 z) := hb.cell 0
 obtain ⟨i0, hi0, hiz, his, hib⟩ := info_split int_info
 have hmk : ∀ wx : World, (Instr.makeSlice 130 (.int .i64 m) (.int .i64 m)).run Try.prog wx = .ok (.slice (some ⟨wx.heap.size, 0, none⟩) m m) (wx.alloc (.cells (madeCells #[.int .i64 0] m) 3)) := fun wx => by
  have := Go.run_makeSlice (P := Try.prog) (w := wx) 130 3 i0 _ Try.underlying130 hi0 hiz .i64 .i64 m m (by omega) (by omega) (by rw [his]; omega) (by rw [hib]; omega) (by omega)
  rw [his] at this
  simpa [Value.cells] using this
 clear hi0 hiz his hib
 go_enter Try.func143, Try.ntmps143
 have hbl := hb.lt
 have hmc : (madeCells #[.int .i64 0] m).size = m := size_madeCells _ _
 go_wp2_with (first
  | (go_at_call 148; refine (mul_one_any m (by omega) _).mono ?_; rintro e w' ⟨rfl, rfl⟩)
  | (with_reducible refine wpList_copy_splice rfl (.tmp 31) (.tmp 32) 130 130 rfl 3 Try.underlying130 int_size (some ⟨w.heap.size, 0, none⟩) (some ⟨b, 0, none⟩) m m 1 1 rfl rfl w.heap.size 0 (madeCells #[.int .i64 0] m).toList 3 ?cg [.int .i64 z] ?cn ?cp ?cf ?c1 w.heap.size w ?cb (Nat.le_refl _) ?_))
 case cg => have := Blk.new w 3 (madeCells #[.int .i64 0] m); simpa [Blk] using this
 case cn => show 1 = min 1 m; omega
 case cp =>
  intro j v hv
  have := hb.rowAt j v (by simpa using hv)
  have e : (Addr.add ⟨b, 0, none⟩ j) = ⟨b, j, none⟩ := by unfold Addr.add; split <;> simp_all
  rwa [e] at this
 case cf => simp only [Array.length_toList, hmc, List.length_singleton]; omega
 case c1 => intro v hv; rw [List.mem_singleton.1 hv]; simp [Value.oneCell']
 case cb => exact (Below.refl _ _).alloc (Nat.le_refl _) _
 intro w1 hg1 hb1
 have hsp : splice (madeCells #[.int .i64 0] m).toList 0 [.int .i64 z] = List.replicate 1 (Value.int .i64 z) ++ (madeCells #[.int .i64 0] m).toList.drop 1 := by simp [splice]
 have b1 : Blk w1 w.heap.size 3 (List.replicate 1 (Value.int .i64 z) ++ (madeCells #[.int .i64 0] m).toList.drop 1).toArray := by rw [← hsp]; exact hg1.out
 have hdl : ((madeCells #[.int .i64 0] m).toList.drop 1).length = m - 1 := by rw [List.length_drop, Array.length_toList, hmc]
 obtain ⟨rest0, hr0⟩ : ∃ r, (madeCells #[.int .i64 0] m).toList.drop 1 = r := ⟨_, rfl⟩
 rw [hr0] at b1 hdl
 clear hr0 hsp hg1 hmk hmc
 have HB1 := Lib.hid b1
 have HDL := Lib.hid hdl
 clear b1 hdl
 go_wp2_with fail
 go_loopg [8] (m - 1) (fun k v wr => ∃ (j : Nat) (rest : List Value), j + k = m ∧ 1 ≤ j ∧ v = .int .i64 j ∧ rest.length = k ∧ Blk wr w.heap.size 3 (List.replicate j (Value.int .i64 z) ++ rest).toArray ∧ Below w.heap.size w wr)
 case atStart => exact ⟨1, rest0, by omega, Nat.le_refl _, rfl, HDL.out, HB1.out, hb1⟩
 case round =>
  obtain ⟨j, rest, hj, hj1, rfl, hrl, hbk, hbel⟩ := hrel
  have HB := Lib.hid hbk
  have HJ := Lib.hid hj
  have HRL := Lib.hid hrl
  clear hbk hrl
  rcases Nat.eq_zero_or_pos gk with hk0 | hk0
  · have hjm : j = m := by omega
    have HK := Lib.hid hk0
    subst hjm
    clear hj hk0
    go_wp2_with fail
    go_ret
    refine ⟨w.heap.size, rfl, ?_, Nat.le_refl _, hbel⟩
    have h1 : rest = [] := List.eq_nil_of_length_eq_zero (by rw [HRL.out, HK.out])
    have := HB.out
    rwa [h1, List.append_nil] at this
  have t1 : decide ((j : Int) < m) = true := by simp; omega
  have hjm : ¬ m = j := by omega
  have hjm2 : j < m := by omega
  have hjm3 : j ≤ m := by omega
  clear hj
  go_wp2_with fail
  refine wp_region_P (by kernel_rfl) ?_
  refine wpAny_of_E (fun _ : World => True) 9 _ _ _ _ ?_
  have hS : True := trivial
  refine eT 0 ?_ [] rfl (by kernel_rfl) (by rfl) ?_ hS ?_
  rotate_left; · intro wx hx; clear hx; go_simp; with_reducible rfl
  try simp only [tl]
  refine eT 1 ?_ [] rfl (by kernel_rfl) (by rfl) ?_ hS ?_
  rotate_left; · intro wx hx; clear hx; go_simp; with_reducible rfl
  try simp only [tl]
  refine eT 2 ?_ [] rfl (by kernel_rfl) (by rfl) ?_ hS ?_
  rotate_left; · intro wx hx; clear hx; go_simp; with_reducible rfl
  try simp only [tl]
  have hif : (if m = j then (some ⟨w.heap.size, 0, none⟩ : Option Addr) else some (Addr.add ⟨w.heap.size, 0, none⟩ j)) = some ⟨w.heap.size, j, none⟩ := by rw [if_neg hjm]; unfold Addr.add; rw [if_neg (by omega)]; simp
  refine eT 3 ?_ [] rfl (by kernel_rfl) (by rfl) ?_ hS ?_
  rotate_left; · intro wx hx; clear hx; go_simp; with_reducible rfl
  try simp only [tl]
  refine eT 4 ?_ [] rfl (by kernel_rfl) (by rfl) ?_ hS ?_
  rotate_left; · intro wx hx; clear hx; go_simp; with_reducible rfl
  try simp only [tl]
  refine eT 5 ?_ [] rfl (by kernel_rfl) (by rfl) ?_ hS ?_
  rotate_left; · intro wx hx; clear hx; go_simp; with_reducible rfl
  try simp only [tl]
  refine eT 6 ?_ [] rfl (by kernel_rfl) (by rfl) ?_ hS ?_
  rotate_left; · intro wx hx; clear hx; go_simp; with_reducible rfl
  try simp only [tl]
  refine wpAnyE_one (i := 7) (by kernel_rfl) (by kernel_rfl) rfl (by rfl) fun K hK => ?_
  refine owp_copy rfl (.tmp 41) (.tmp 44) 130 130 rfl 3 Try.underlying130 int_size (some ⟨w.heap.size, j, none⟩) (some ⟨w.heap.size, 0, none⟩) (m - j) (m - j) j m rfl rfl w.heap.size j (List.replicate j (Value.int .i64 z) ++ rest) 3 HB.out (List.replicate (min j (m - j)) (.int .i64 z)) ?_ ?_ ?_ ?_ w.heap.size w hbel.drew (Nat.le_refl _) ?_
  · rw [List.length_replicate]
  · intro _
    refine ⟨rfl, _, rfl, fun i v hv => ?_⟩
    have hi := (List.getElem?_eq_some_iff.1 hv).1
    rw [List.length_replicate] at hi
    have hv2 : v = .int .i64 z := by
     have := List.mem_of_getElem? hv
     exact (List.mem_replicate.1 this).2
    refine HB.out.rowAt i v ?_
    simp only [List.getElem?_toArray]
    rw [List.getElem?_append_left (by simp; omega), List.getElem?_replicate_of_lt (by omega), hv2]
  · rw [List.length_append, List.length_replicate, List.length_replicate, HRL.out]; have := HJ.out; omega
  · intro v hv; rw [(List.mem_replicate.1 hv).2]; rfl
  intro w2 hg2 hb2
  have hlr : (List.replicate (min j (m - j)) (Value.int .i64 z)).length = min j (m - j) := List.length_replicate
  rw [hlr]
  have hgo : goInt ((min j (m - j) : Nat) : Int) = .int .i64 ((min j (m - j) : Nat) : Int) := rfl
  rw [hgo]
  refine hK _ _ trivial ?_
  clear hK K; try simp only [tl]
  have hw : IntKind.i64.wrap ((j : Int) + ((min j (m - j) : Nat) : Int)) = ((j + min j (m - j) : Nat) : Int) := by rw [IntWalk.i64_in _ (by omega)]; omega
  refine eT 8 (.int .i64 ((j + min j (m - j) : Nat) : Int)) [] rfl (by kernel_rfl) (by rfl) ?_ hS ?_
  · intro wx hx
    clear hx
    go_simp
  try simp only [tl]
  refine wpAnyE_z (by kernel_rfl) rfl (by rfl) fun K hK => ?_
  go_simp
  refine hK _ _ ?_
  clear hK K; try simp only [tl]
  refine wpAny_done (by kernel_rfl) ?_ _
  refine NoPanic.normal ?_
  go_wp2_with fail
  go_roundg (gk - min j (m - j))
  case measure => have := HJ.out; omega
  case rel =>
   refine ⟨j + min j (m - j), rest.drop (min j (m - j)), by have := HJ.out; omega, by omega, ?_, by rw [List.length_drop, HRL.out], ?_, hb2⟩
   · simp
   have h := hg2.out
   have hsp : splice (List.replicate j (Value.int .i64 z) ++ rest) j (List.replicate (min j (m - j)) (Value.int .i64 z)) = List.replicate (j + min j (m - j)) (Value.int .i64 z) ++ rest.drop (min j (m - j)) := by
    unfold splice
    rw [List.take_append_of_le_length (by simp), List.take_of_length_le (by simp), List.length_replicate, List.drop_append, List.drop_eq_nil_of_le (by simp), List.nil_append, List.length_replicate, ← List.append_assoc, List.replicate_append_replicate]
    congr 2
    omega
   rw [hsp] at h
   exact h
end Go.Proofs.Ytiampoebdmflgaa
/- level.of: the sum of a sound level. -/
namespace Go.Proofs.Ytiampoebdmflgaa
open Go.RowKit
set_option linter.unusedVariables false
set_option maxRecDepth 100000
set_option maxHeartbeats 4000000
set_option linter.unusedSimpArgs false
mutual
def LOk : Lv → Prop
 | .mk k n ks => lright 1099511627776 1000 k n ks.length = true ∧ LOks ks
def LOks : List Lv → Prop
 | [] => True
 | l :: ls => LOk l ∧ LOks ls
end
theorem LOks.mem : ∀ {ks : List Lv}, LOks ks → ∀ l ∈ ks, LOk l
 | [], _, _, h => by cases h
 | x :: ks, h, l, hl => by
  simp only [LOks] at h
  rcases List.mem_cons.1 hl with rfl | hl
  · exact h.1
  exact LOks.mem h.2 l hl
theorem snd_step0 {s d : Int} {l : Lv} (h : (sndStep s l d).1 = 0) : lright 1099511627776 1000 l.k l.n l.ks.length = true := by
 unfold sndStep at h
 by_cases hn : 1000 < wrap64 (s + 1) ∨ 256 < d ∨ lright 1099511627776 1000 l.k l.n l.ks.length = false
 · simp only [if_pos hn] at h; cases h
 cases hr : lright 1099511627776 1000 l.k l.n l.ks.length with
 | true => rfl
 | false => exact absurd (.inr (.inr hr)) hn
mutual
theorem lok_of_walk : ∀ (l : Lv) (d s : Int), (lwalk sndStep l d s).1 = 0 → LOk l
 | .mk k n ks, d, s, h => by
  simp only [lwalk] at h
  simp only [LOk]
  split at h
  · rename_i h0
    exact ⟨snd_step0 h0, loks_of_walk ks _ _ h⟩
  rename_i h0; exact absurd h h0
theorem loks_of_walk : ∀ (ks : List Lv) (d s : Int), (lwalks sndStep ks d s).1 = 0 → LOks ks
 | [], _, _, _ => by simp only [LOks]
 | l :: ls, d, s, h => by
  simp only [lwalks] at h
  simp only [LOks]
  split at h
  · rename_i h0
    exact ⟨lok_of_walk l d s h0, loks_of_walk ls _ _ h⟩
  rename_i h0; exact absurd h h0
end
theorem lok_of_snd {l : Lv} (h : lsnd l = true) : LOk l := lok_of_walk l 1 0 (by unfold lsnd at h; simpa using h)
mutual
def lof (vs : List Nm) : Lv → Nm
 | .mk k n ks =>
  if k = 1 then ⟨n, []⟩ else if k = 3 then (lofs vs ks 0).plus n else if k = 4 then (lofs vs ks 0).or (lofs vs ks 1)
  else match vs[n.toNat]? with
   | some x => x
   | none => ⟨0, List.replicate n.toNat (-1) ++ [0]⟩
def lofs (vs : List Nm) : List Lv → Nat → Nm
 | [], _ => ⟨0, []⟩
 | l :: _, 0 => lof vs l
 | _ :: ls, i + 1 => lofs vs ls i
end
theorem lofs_get (vs : List Nm) : ∀ (ks : List Lv) (i : Nat) (h : i < ks.length), lofs vs ks i = lof vs ks[i]
 | [], _, h => absurd h (by simp)
 | l :: ls, 0, _ => by simp [lofs]
 | l :: ls, i + 1, h => by simp only [lofs, List.getElem_cons_succ]; exact lofs_get vs ls i (by simpa using h)
theorem lright_cases {k n : Int} {m : Nat} (h : lright 1099511627776 1000 k n m = true) :
    (k = 1 ∧ m = 0 ∧ 0 ≤ n ∧ n ≤ 1099511627776) ∨ (k = 2 ∧ m = 0 ∧ 0 ≤ n ∧ n ≤ 1000) ∨ (k = 3 ∧ m = 1 ∧ 1 ≤ n ∧ n ≤ 1099511627776) ∨ (k = 4 ∧ m = 2) := by
 unfold lright lar at h
 by_cases h1 : k = 1
 · subst h1; simp at h; omega
 by_cases h2 : k = 2
 · subst h2; simp at h; omega
 by_cases h3 : k = 3
 · subst h3; simp at h; omega
 by_cases h4 : k = 4
 · subst h4; simp at h; omega
 simp [h1, h2, h3, h4] at h
def NmsAt (D : Nat → Prop) (w : World) (vs : List Nm) (A : Option Addr) : Prop := ∀ (j : Nat) n, vs[j]? = some n → ∃ a cs, A = some a ∧ D a.block ∧ rowAt w (a.add (j * 2)) cs ∧ NmIs D w n cs
theorem NmsAt.old {D D' : Nat → Prop} {w w' : World} {vs : List Nm} {A : Option Addr} (h : NmsAt D w vs A) (ho : Old D w w') (hD : ∀ k, D k → D' k) : NmsAt D' w' vs A := fun j n hj => by
 obtain ⟨a, cs, h1, h2, h3, h4⟩ := h j n hj
 exact ⟨a, cs, h1, hD _ h2, h3.old ho (by rw [Addr_add_block]; exact h2), h4.old ho hD⟩
theorem NmsAt.drew {D : Nat → Prop} {w : World} {vs : List Nm} {A : Option Addr} (h : NmsAt D w vs A) : NmsAt D w.drew vs A := NmsAt.old (w := w) (w' := w.drew) h (fun _ _ => rfl) (fun _ h => h)
theorem lof_any (vs : List Nm) (Av : Option Addr) (cv : Nat) (hvl : vs.length ≤ 3518437208780) (l : Lv) : ∀ (cs : Array Value) (D : Nat → Prop) (w : World), LOk l → Within D w → LvIs D w l cs → NmsAt D w vs Av →
    Calls Try.prog 127 #[.agg cs, .slice Av vs.length cv] w fun e w' => ∃ cs', e = .returned (.agg cs') ∧ NmIs (grow D w w') w' (lof vs l) cs' ∧ Below w.heap.size w w' := by
 induction l using Lv.ind with
 | h k n ks ih =>
  intro cs D w hok hD hl hvs
  have hz := nm_zero
  have hl0 := Lib.hid hl
  simp only [LvIs] at hl
  obtain ⟨A, c, rfl, hk, hn, ⟨hlen, hcap⟩, hks⟩ := hl
  simp only [LOk] at hok
  obtain ⟨hr, hoks⟩ := hok
  have hcase := lright_cases hr
  have HO := Lib.hid hoks
  clear hr hoks
  obtain ⟨W1, hW1⟩ : ∃ W1, (w.alloc (.cells #[.int .i64 k, .int .i64 n, .slice A ks.length c] 24)).alloc (.cells #[.int .i64 0, .slice none 0 0] 177) = W1 := ⟨_, rfl⟩
  have hu1 : Upd nob w W1 := by rw [← hW1]; exact ((Upd.refl nob w).alloc _).alloc _
  have hs1 : W1.heap.size = w.heap.size + 2 := by rw [← hW1]; simp
  have b0 : Blk W1 w.heap.size 24 #[.int .i64 k, .int .i64 n, .slice A ks.length c] := by
   rw [← hW1]; exact (Blk.new _ _ _).alloc _
  have b1 : Blk W1 (w.heap.size + 1) 177 #[.int .i64 0, .slice none 0 0] := by
   rw [← hW1]
   have := Blk.new (w.alloc (.cells #[.int .i64 k, .int .i64 n, .slice A ks.length c] 24)) 177 #[.int .i64 0, .slice none 0 0]
   rwa [World.size_alloc] at this
  have HW1 := Lib.hid hW1
  have HS1 := Lib.hid hs1
  have B0 := Lib.hid b0
  have B1 := Lib.hid b1
  clear hW1 hs1 b0 b1
  -- how each way ends: a sum is stored in block 1
  have fin : ∀ (w3 : World) (x : Nm) (cs3 : Array Value) (D3 : Nat → Prop), Upd nob W1 w3 → NmIs D3 w3 x cs3 → (∀ y, D3 y → D y ∨ (W1.heap.size ≤ y ∧ y < w3.heap.size)) →
      NmIs (grow D w (w3.setRow (w.heap.size + 1) cs3)) (w3.setRow (w.heap.size + 1) cs3) x cs3 ∧ Below w.heap.size w (w3.setRow (w.heap.size + 1) cs3) ∧ Blk (w3.setRow (w.heap.size + 1) cs3) (w.heap.size + 1) 177 cs3 := by
   intro w3 x cs3 D3 hu3 hx hD3
   have hs1 := HS1.out
   have hs3 := hu3.size
   have hfin : Upd (fun y => y = w.heap.size + 1) w3 (w3.setRow (w.heap.size + 1) cs3) := (Upd.refl (fun y => y = w.heap.size + 1) w3).setRow (.inl rfl) _
   have hs9 : (w3.setRow (w.heap.size + 1) cs3).heap.size = w3.heap.size := by simp
   refine ⟨hx.old (Old.of_upd hfin fun y hy => ?_) (fun y hy => ?_), ((hu1.trans hu3).trans' hfin (fun x hx h => by omega)).below, (B1.out.upd hu3 (fun f => f)).row _⟩
   · rcases hD3 y hy with h | h
     · have := hD y h
       exact ⟨by omega, by omega⟩
     exact ⟨by omega, h.2⟩
   rcases hD3 y hy with h | h
   · exact .inl h
   exact .inr ⟨by omega, by omega⟩
  have FIN := Lib.hid fin; clear fin
  rcases hcase with ⟨rfl, hm, hn0, hn1⟩ | ⟨rfl, hm, hn0, hn1⟩ | ⟨rfl, hm, hn0, hn1⟩ | ⟨rfl, hm⟩
  · -- a number
    have HM := Lib.hid hm; clear hm
    have b9 := Blk.new (w.alloc (.cells #[.int .i64 1, .int .i64 n, .slice A ks.length c] 24)) 177 #[.int .i64 n, .slice none 0 0]
    rw [World.size_alloc] at b9
    have B9 := Lib.hid b9; clear b9
    go_enter Try.func127, Try.ntmps127
    go_wp2_with fail
    refine bodyPost_ret (results_cell_row rfl _ _ (w.heap.size + 1) 177 _ (0, 0) _ rfl B9.out Try.underlying177 rfl nm_size) rfl ?_
    refine ⟨_, rfl, ?_, ((Below.refl _ _).alloc (Nat.le_refl _) _).alloc (by simp) _⟩
    refine ⟨none, 0, ?_, ⟨?_, ?_⟩, ?_⟩
    · simp [lof]
    · simp only [lof, if_pos]; exact ⟨⟨hn0, hn1⟩, by simp, by simp⟩
    · simp [lof]
    intro j z hj; simp [lof] at hj
  · -- a variable
    have HM := Lib.hid hm; clear hm
    have hlv : lof vs (.mk 2 n ks) = match vs[n.toNat]? with | some x => x | none => ⟨0, List.replicate n.toNat (-1) ++ [0]⟩ := by simp [lof]
    rw [hlv]
    clear hlv
    rcases Nat.lt_or_ge n.toNat vs.length with hlt | hge
    · obtain ⟨x, hx⟩ : ∃ x, vs[n.toNat]? = some x := ⟨_, List.getElem?_eq_getElem hlt⟩
      rw [hx]
      obtain ⟨a, cs3, hA, hab, hrow, hnm⟩ := hvs _ _ hx
      have t1 : decide (n < vs.length) = true := by simp; omega
      have hrow1 := hrow.old (hD.old hu1) (by rw [Addr_add_block]; exact hab)
      have hnm1 := hnm.old (hD.old hu1) (fun _ h => h)
      obtain ⟨i, rfl⟩ : ∃ i : Nat, n = i := ⟨n.toNat, by omega⟩
      have hlt' : i < vs.length := by simpa using hlt
      simp only [Int.toNat_natCast] at hrow1
      have hsz := hnm1.cells
      have hsi : (Try.prog.info? 177).map (·.size) = some cs3.size := by rw [hsz.1]; exact nm_size
      have HA := Lib.hid hA
      have HX := Lib.hid hx
      clear hA hx hrow
      rw [← HW1.out] at hrow1
      go_enter Try.func127, Try.ntmps127
      go_wp2_with (first
       | ((with_reducible refine this_op (.indexAddr 188 (.tmp 44) (.tmp 46)) ?_); refine wpList_index_at rfl 188 (.tmp 44) (.tmp 46) rfl _ a _ _ rfl HA.out i rfl hlt' 177 Try.underlying188 2 nm_size ?_)
       | ((with_reducible refine this_op (.load 177 (.tmp 47)) ?_); refine wpList_at rfl 177 (.tmp 47) rfl (a.add (i * 2)) rfl _ _ hrow1 Try.underlying177 rfl hsi ?_)
       | ((with_reducible refine this_op (.store 177 (.tmp 4) (.tmp 48)) ?_); refine wpList_store_row rfl 177 (.tmp 4) (.tmp 48) rfl (w.heap.size + 1) _ rfl rfl 177 _ (by rw [HW1.out]; exact B1.out) hsi (by rw [hsz.1]; rfl) hsz.2 ?_))
      have hf := FIN.out W1 x cs3 D (Upd.refl nob W1) hnm1 (fun y h => .inl h)
      refine bodyPost_ret (results_cell_row rfl _ _ (w.heap.size + 1) 177 cs3 (0, 0) _ rfl (by rw [HW1.out]; exact hf.2.2) Try.underlying177 rfl hsi) rfl ?_
      rw [HW1.out]
      exact ⟨cs3, rfl, hf.1, hf.2.1⟩
    have hno : vs[n.toNat]? = none := List.getElem?_eq_none hge
    rw [hno]
    clear hno
    obtain ⟨i, rfl⟩ : ∃ i : Nat, n = i := ⟨n.toNat, by omega⟩
    have t1 : decide (i < vs.length) = false := by simpa using hge
    simp only [Int.toNat_natCast]
    have hi : i ≤ 1000 := by omega
    clear hge hn0 hn1
    go_enter Try.func127, Try.ntmps127
    go_wp2_with fail
    rw [HW1.out]
    have hcast : ((i : Int) + 1) = ((i + 1 : Nat) : Int) := by omega
    rw [hcast]
    have b9 : Blk (W1.alloc (.cells #[.int .i64 (-1)] 3)) (w.heap.size + 1 + 1) 3 #[.int .i64 (-1)] := by have := Blk.new W1 3 #[.int .i64 (-1)]; rwa [HS1.out] at this
    refine (rep_any (-1) (i + 1) (w.heap.size + 1 + 1) (W1.alloc (.cells #[.int .i64 (-1)] 3)) (by omega) (by omega) b9).mono ?_
    clear b9
    rintro e w3 ⟨g, rfl, hg, hgs, hb3⟩
    have hu3 : Upd nob W1 w3 := ((Upd.refl nob W1).alloc _).trans (Upd.of_below hb3)
    have hgl := hg.lt
    rw [World.size_alloc] at hgs
    have q0 : w3.cell? ⟨w.heap.size, 1, none⟩ = some (.int .i64 i) := (B0.out.upd hu3 (fun f => f)).cell 1
    have C1 := Lib.hid (B1.out.upd hu3 (fun f => f))
    have hgi : w3.cell? ⟨g, i, none⟩ = some (.int .i64 (-1)) := by
     rw [hg.cell]; simp only [List.getElem?_toArray]; rw [List.getElem?_replicate_of_lt (by omega)]
    have fgi := hg.frozen i
    have hadd : (Addr.add ⟨g, 0, none⟩ i) = ⟨g, i, none⟩ := by unfold Addr.add; split <;> simp_all
    have HG := Lib.hid hg
    have hlt : (i : Int) < ((i + 1 : Nat) : Int) := by omega
    clear hg hcast
    have hs1 := HS1.out
    have hne : w.heap.size + 1 ≠ g := by omega
    have C2 := Lib.hid (C1.out.far (p := ⟨g, i, none⟩) hne (.int .i64 0))
    go_wp2_with (first
     | ((with_reducible refine this_op (.store 177 (.tmp 4) (.tmp 59)) ?_); refine wpList_store_row rfl 177 (.tmp 4) (.tmp 59) rfl (w.heap.size + 1) _ rfl rfl 177 _ C2.out nm_size rfl (by simp [Value.oneCell']) ?_))
    have hg2 := HG.out.set i (.int .i64 0)
    have hu4 : Upd nob W1 (w3.setCell ⟨g, i, none⟩ (.int .i64 0)) := hu3.setCell (p := ⟨g, i, none⟩) (.inr (by show W1.heap.size ≤ g; omega)) _
    have hlr : (List.replicate i (-1 : Int) ++ [0]).length = i + 1 := by simp
    have hnm : NmIs (fun y => y = g) (w3.setCell ⟨g, i, none⟩ (.int .i64 0)) ⟨0, List.replicate i (-1) ++ [0]⟩ #[.int .i64 0, .slice (some ⟨g, 0, none⟩) (i + 1) (i + 1)] := by
     refine ⟨some ⟨g, 0, none⟩, i + 1, by rw [hlr], ⟨⟨⟨by show (0 : Int) ≤ 0; omega, by show (0 : Int) ≤ 1099511627776; omega⟩, ?_, by rw [hlr]; omega⟩, by rw [hlr]; exact Nat.le_refl _⟩, ?_⟩
     · intro x hx
       rcases List.mem_append.1 hx with hx | hx
       · rw [(List.mem_replicate.1 hx).2]; omega
       rw [List.mem_singleton.1 hx]; omega
     intro j z hj
     have hjl := (List.getElem?_eq_some_iff.1 hj).1
     rw [hlr] at hjl
     refine ⟨⟨g, 0, none⟩, rfl, rfl, ?_, _, _, hg2⟩
     have e : (Addr.add ⟨g, 0, none⟩ j) = ⟨g, j, none⟩ := by unfold Addr.add; split <;> simp_all
     rw [e, hg2.cell]
     by_cases hji : j = i
     · subst hji
       rw [List.getElem?_append_right (by simp)] at hj
       simp at hj
       subst hj
       simp
     rw [List.getElem?_append_left (by simp; omega), List.getElem?_replicate_of_lt (by omega)] at hj
     injection hj with hj
     subst hj
     rw [Array.getElem?_setIfInBounds_ne (by omega)]
     simp only [List.getElem?_toArray]
     rw [List.getElem?_replicate_of_lt (by omega)]
    have hf := FIN.out _ _ _ _ hu4 hnm (fun y h => .inr ⟨by subst h; omega, by subst h; simpa using hgl⟩)
    refine bodyPost_ret (results_cell_row rfl _ _ (w.heap.size + 1) 177 _ (0, 0) _ rfl hf.2.2 Try.underlying177 rfl nm_size) rfl ?_
    exact ⟨_, rfl, hf.1, hf.2.1⟩
  · -- so many more
    have h0 : 0 < ks.length := by omega
    obtain ⟨a, cs1, hA, hab, hrow, hl1⟩ := hks.at_ (List.getElem?_eq_getElem h0)
    have hmem : ks[0] ∈ ks := List.getElem_mem h0
    have hlo := HO.out.mem _ hmem
    have hlv : lof vs (.mk 3 n ks) = (lof vs ks[0]).plus n := by simp only [lof]; rw [if_neg (by decide), if_pos trivial, lofs_get vs ks 0 h0]
    rw [hlv]
    clear hlv
    have hrow1 := hrow.old (hD.old hu1) (by rw [Addr_add_block]; exact hab)
    have hl1' := hl1.old (hD.old hu1) (fun _ h => h)
    have hvs1 := hvs.old (hD.old hu1) (fun _ h => h)
    have hsz1 := hl1.oneCell
    have hsi1 : (Try.prog.info? 24).map (·.size) = some cs1.size := by rw [hsz1.1]; exact lv_size
    have habl := (hD.up hu1) _ hab
    have HM := Lib.hid hm
    have HA := Lib.hid hA
    have IH := Lib.hid (ih ks[0] hmem)
    clear hm hA hrow hl1 ih
    go_enter Try.func127, Try.ntmps127
    go_wp2_with fail
    rw [HW1.out]
    have e2 : W1.cell? ⟨w.heap.size, 2, none⟩ = some (.slice A ks.length c) := B0.out.cell 2
    have e1 : W1.cell? ⟨w.heap.size, 1, none⟩ = some (.int .i64 n) := B0.out.cell 1
    have hlW : w.heap.size < W1.heap.size := by have := HS1.out; omega
    refine wp_region_P (by kernel_rfl) ?_
    refine wpAny_of_E (fun X : World => ∀ p : Addr, p.block < W1.heap.size → X.cell? p = W1.cell? p) 8 _ _ _ _ ?_
    have hS : ∀ p : Addr, p.block < W1.heap.size → W1.drew.cell? p = W1.cell? p := fun _ _ => rfl
    refine eT 0 ?_ [5, 3, 2, 1] rfl (by kernel_rfl) (by rfl) ?_ hS ?_
    rotate_left; · intro wx hx; clear hx; go_simp; with_reducible rfl
    try simp only [tl]
    refine eT 1 ?_ [5, 3, 2] rfl (by kernel_rfl) (by rfl) ?_ hS ?_
    rotate_left
    · intro wx hx
      have q0 := (hx ⟨w.heap.size, 2, none⟩ hlW).trans e2
      clear hx
      go_simp
      with_reducible rfl
    try simp only [tl]
    refine eT 2 (.pointer (some (Addr.add a (0 * 3)))) [5, 3] rfl (by kernel_rfl) (by rfl) ?_ hS ?_
    · intro wx hx
      exact run_index_at 22 (.tmp 16) (.const (.int .i64 0)) rfl _ a _ _ rfl HA.out 0 rfl h0 24 Try.underlying22 3 lv_size
    try simp only [tl]
    refine eT 3 (.agg cs1) [5] rfl (by kernel_rfl) (by rfl) ?_ hS ?_
    · intro wx hx
      exact run_load_at 24 (.tmp 17) rfl (a.add (0 * 3)) rfl cs1 _ (row_on hrow1 (by rw [Addr_add_block]; exact habl) hx) Try.underlying24 rfl hsi1
    try simp only [tl]
    refine eT 4 ?_ [5] rfl (by kernel_rfl) (by rfl) ?_ hS ?_
    rotate_left; · intro wx hx; clear hx; go_simp; with_reducible rfl
    try simp only [tl]
    refine eT 6 ?_ [7] rfl (by kernel_rfl) (by rfl) ?_ hS ?_
    rotate_left; · intro wx hx; clear hx; go_simp; with_reducible rfl
    try simp only [tl]
    refine eT 7 ?_ [] rfl (by kernel_rfl) (by rfl) ?_ hS ?_
    rotate_left
    · intro wx hx
      have q0 := (hx ⟨w.heap.size, 1, none⟩ hlW).trans e1
      clear hx
      go_simp
      with_reducible rfl
    try simp only [tl]
    refine wpAnyE_one (i := 5) (by kernel_rfl) (by kernel_rfl) rfl (by rfl) fun K hK => ?_
    go_simp
    refine (IH.out cs1 D W1.drew hlo (hD.up hu1).drew hl1'.drew hvs1.drew).mono ?_
    rintro e w3 ⟨cs3, rfl, hn3, hb3⟩
    have hu3 : Upd nob W1 w3 := ((Upd.refl nob W1).drew).trans (Upd.of_below hb3)
    have hS := cells_of_upd hu3
    refine hK _ _ hS ?_
    clear hK K; try simp only [tl]
    refine wpAnyE_z (by kernel_rfl) rfl (by rfl) fun K hK => ?_
    go_simp
    refine (nplus_any _ n cs3 (grow D W1 w3) w3 (by omega) hn1 ((hD.up hu1).grow hu3.size) hn3).mono ?_
    rintro e w4 ⟨cs4, rfl, hn4, hb4⟩
    have hu4 : Upd nob W1 w4 := hu3.trans (Upd.of_below hb4)
    refine hK _ _ ?_
    clear hK K; try simp only [tl]
    have hf := FIN.out w4 _ cs4 _ hu4 hn4 (fun y hy => .inr ⟨by have := hy.1; have := hu3.size; omega, hy.2⟩)
    have hsz4 := hn4.cells
    have hsi4 : (Try.prog.info? 177).map (·.size) = some cs4.size := by rw [hsz4.1]; exact nm_size
    refine wpAny_one (i := 9) (by kernel_rfl) rfl (by rfl) fun K hK => ?_
    refine owp_store_blk 177 (.tmp 4) (.tmp 23) rfl rfl (w.heap.size + 1) cs4 rfl rfl 177 _ (B1.out.upd hu4 (fun f => f)) hsi4 (by rw [hsz4.1]; rfl) hsz4.2 ?_
    refine hK _ _ ?_
    clear hK K; try simp only [tl]
    refine wpAny_done (by kernel_rfl) ?_ _
    refine NoPanic.normal ?_
    go_wp2_with fail
    refine bodyPost_ret (results_cell_row rfl _ _ (w.heap.size + 1) 177 cs4 (0, 0) _ rfl hf.2.2 Try.underlying177 rfl hsi4) rfl ?_
    exact ⟨_, rfl, hf.1, hf.2.1⟩
  -- the greater one
  have h0 : 0 < ks.length := by omega
  have h1 : 1 < ks.length := by omega
  obtain ⟨a, cs1, hA, hab, hrow, hl1⟩ := hks.at_ (List.getElem?_eq_getElem h0)
  obtain ⟨a2, cs2, hA2, hab2, hrow2, hl2⟩ := hks.at_ (List.getElem?_eq_getElem h1)
  obtain rfl : a = a2 := by rw [hA] at hA2; injection hA2
  have hmem : ks[0] ∈ ks := List.getElem_mem h0
  have hmem2 : ks[1] ∈ ks := List.getElem_mem h1
  have hlo := HO.out.mem _ hmem
  have hlo2 := HO.out.mem _ hmem2
  have hlv : lof vs (.mk 4 n ks) = (lof vs ks[0]).or (lof vs ks[1]) := by simp only [lof]; rw [if_neg (by decide), if_neg (by decide), if_pos trivial, lofs_get vs ks 0 h0, lofs_get vs ks 1 h1]
  rw [hlv]
  clear hlv
  have hrow1 := hrow.old (hD.old hu1) (by rw [Addr_add_block]; exact hab)
  have hrow2' := hrow2.old (hD.old hu1) (by rw [Addr_add_block]; exact hab)
  have hl1' := hl1.old (hD.old hu1) (fun _ h => h)
  have hl2' := hl2.old (hD.old hu1) (fun _ h => h)
  have hvs1 := hvs.old (hD.old hu1) (fun _ h => h)
  have hsz1 := hl1.oneCell
  have hsi1 : (Try.prog.info? 24).map (·.size) = some cs1.size := by rw [hsz1.1]; exact lv_size
  have hsz2 := hl2.oneCell
  have hsi2 : (Try.prog.info? 24).map (·.size) = some cs2.size := by rw [hsz2.1]; exact lv_size
  have habl := (hD.up hu1) _ hab
  have HM := Lib.hid hm
  have HA := Lib.hid hA
  have IH := Lib.hid (ih ks[0] hmem)
  have IH2 := Lib.hid (ih ks[1] hmem2)
  clear hm hA hA2 hrow hrow2 hl1 hl2 ih
  go_enter Try.func127, Try.ntmps127
  go_wp2_with fail
  rw [HW1.out]
  have e2 : W1.cell? ⟨w.heap.size, 2, none⟩ = some (.slice A ks.length c) := B0.out.cell 2
  have hlW : w.heap.size < W1.heap.size := by have := HS1.out; omega
  refine wp_region_P (by kernel_rfl) ?_
  refine wpAny_of_E (fun X : World => ∀ p : Addr, p.block < W1.heap.size → X.cell? p = W1.cell? p) 12 _ _ _ _ ?_
  have hS : ∀ p : Addr, p.block < W1.heap.size → W1.drew.cell? p = W1.cell? p := fun _ _ => rfl
  refine eT 0 ?_ [5, 3, 2, 1] rfl (by kernel_rfl) (by rfl) ?_ hS ?_
  rotate_left; · intro wx hx; clear hx; go_simp; with_reducible rfl
  try simp only [tl]
  refine eT 1 ?_ [5, 3, 2] rfl (by kernel_rfl) (by rfl) ?_ hS ?_
  rotate_left
  · intro wx hx
    have q0 := (hx ⟨w.heap.size, 2, none⟩ hlW).trans e2
    clear hx
    go_simp
    with_reducible rfl
  try simp only [tl]
  refine eT 2 (.pointer (some (Addr.add a (0 * 3)))) [5, 3] rfl (by kernel_rfl) (by rfl) ?_ hS ?_
  · intro wx hx
    exact run_index_at 22 (.tmp 27) (.const (.int .i64 0)) rfl _ a _ _ rfl HA.out 0 rfl h0 24 Try.underlying22 3 lv_size
  try simp only [tl]
  refine eT 3 (.agg cs1) [5] rfl (by kernel_rfl) (by rfl) ?_ hS ?_
  · intro wx hx
    exact run_load_at 24 (.tmp 28) rfl (a.add (0 * 3)) rfl cs1 _ (row_on hrow1 (by rw [Addr_add_block]; exact habl) hx) Try.underlying24 rfl hsi1
  try simp only [tl]
  refine eT 4 ?_ [5] rfl (by kernel_rfl) (by rfl) ?_ hS ?_
  rotate_left; · intro wx hx; clear hx; go_simp; with_reducible rfl
  try simp only [tl]
  refine eT 6 ?_ [11, 9, 8, 7] rfl (by kernel_rfl) (by rfl) ?_ hS ?_
  rotate_left; · intro wx hx; clear hx; go_simp; with_reducible rfl
  try simp only [tl]
  refine eT 7 ?_ [11, 9, 8] rfl (by kernel_rfl) (by rfl) ?_ hS ?_
  rotate_left
  · intro wx hx
    have q0 := (hx ⟨w.heap.size, 2, none⟩ hlW).trans e2
    clear hx
    go_simp
    with_reducible rfl
  try simp only [tl]
  refine eT 8 (.pointer (some (Addr.add a (1 * 3)))) [11, 9] rfl (by kernel_rfl) (by rfl) ?_ hS ?_
  · intro wx hx
    exact run_index_at 22 (.tmp 33) (.const (.int .i64 1)) rfl _ a _ _ rfl HA.out 1 rfl h1 24 Try.underlying22 3 lv_size
  try simp only [tl]
  refine eT 9 (.agg cs2) [11] rfl (by kernel_rfl) (by rfl) ?_ hS ?_
  · intro wx hx
    exact run_load_at 24 (.tmp 34) rfl (a.add (1 * 3)) rfl cs2 _ (row_on hrow2' (by rw [Addr_add_block]; exact habl) hx) Try.underlying24 rfl hsi2
  try simp only [tl]
  refine eT 10 ?_ [11] rfl (by kernel_rfl) (by rfl) ?_ hS ?_
  rotate_left; · intro wx hx; clear hx; go_simp; with_reducible rfl
  try simp only [tl]
  refine wpAnyE_one (i := 5) (by kernel_rfl) (by kernel_rfl) rfl (by rfl) fun K hK => ?_
  go_simp
  refine (IH.out cs1 D W1.drew hlo (hD.up hu1).drew hl1'.drew hvs1.drew).mono ?_
  rintro e w3 ⟨cs3, rfl, hn3, hb3⟩
  have hu3 : Upd nob W1 w3 := ((Upd.refl nob W1).drew).trans (Upd.of_below hb3)
  have hS := cells_of_upd hu3
  refine hK _ _ hS ?_
  clear hK K; try simp only [tl]
  refine wpAnyE_one (i := 11) (by kernel_rfl) (by kernel_rfl) rfl (by rfl) fun K hK => ?_
  go_simp
  refine (IH2.out cs2 D w3 hlo2 ((hD.up hu1).up hu3) (hl2'.old ((hD.up hu1).old hu3) (fun _ h => h)) (hvs1.old ((hD.up hu1).old hu3) (fun _ h => h))).mono ?_
  rintro e w4 ⟨cs4, rfl, hn4, hb4⟩
  have hu34 : Upd nob w3 w4 := Upd.of_below hb4
  have hu4 : Upd nob W1 w4 := hu3.trans hu34
  have hS := cells_of_upd hu4
  refine hK _ _ hS ?_
  clear hK K; try simp only [tl]
  refine wpAnyE_z (by kernel_rfl) rfl (by rfl) fun K hK => ?_
  go_simp
  have hin : Within (grow D W1 w4) w4 := (hD.up hu1).grow hu4.size
  have hn3' : NmIs (grow D W1 w4) w4 (lof vs ks[0]) cs3 := hn3.old (((hD.up hu1).grow hu3.size).old hu34) (fun y hy => hy.imp id fun h => ⟨h.1, by have := hu34.size; have := h.2; omega⟩)
  have hn4' : NmIs (grow D W1 w4) w4 (lof vs ks[1]) cs4 := hn4.old (Old.refl _ _) (fun y hy => hy.imp id fun h => ⟨by have := hu3.size; have := h.1; omega, h.2⟩)
  refine (nor_any _ _ cs3 cs4 (grow D W1 w4) w4 hin hn3' hn4').mono ?_
  rintro e w5 ⟨cs5, rfl, hn5, hb5⟩
  have hu5 : Upd nob W1 w5 := hu4.trans (Upd.of_below hb5)
  refine hK _ _ ?_
  clear hK K; try simp only [tl]
  have hf := FIN.out w5 _ cs5 _ hu5 hn5 (fun y hy => .inr ⟨by have := hy.1; have := hu4.size; omega, hy.2⟩)
  have hsz5 := hn5.cells
  have hsi5 : (Try.prog.info? 177).map (·.size) = some cs5.size := by rw [hsz5.1]; exact nm_size
  refine wpAny_one (i := 13) (by kernel_rfl) rfl (by rfl) fun K hK => ?_
  refine owp_store_blk 177 (.tmp 4) (.tmp 38) rfl rfl (w.heap.size + 1) cs5 rfl rfl 177 _ (B1.out.upd hu5 (fun f => f)) hsi5 (by rw [hsz5.1]; rfl) hsz5.2 ?_
  refine hK _ _ ?_
  clear hK K; try simp only [tl]
  refine wpAny_done (by kernel_rfl) ?_ _
  refine NoPanic.normal ?_
  go_wp2_with fail
  refine bodyPost_ret (results_cell_row rfl _ _ (w.heap.size + 1) 177 cs5 (0, 0) _ rfl hf.2.2 Try.underlying177 rfl hsi5) rfl ?_
  exact ⟨_, rfl, hf.1, hf.2.1⟩
end Go.Proofs.Ytiampoebdmflgaa
/- A region that draws its order, whatever order: each operation's outcome is told by a predicate that what comes later does not mind. For regions whose operations lay new memory in an open order. Over any program. -/
namespace Go.Proofs.Ytiampoebdmflgaa
open Go.RowKit
set_option linter.unusedVariables false
variable {P : Program} {ops : Array Oper} {Q : Exit → Act → World → Prop} {md : Region.Mode}
def distinct (ops : Array Oper) : Bool := (List.range ops.size).all fun i => (List.range ops.size).all fun j => i == j || match ops[i]?, ops[j]? with
 | some o, some p => match o.dst, p.dst with | some d, some e => !(d == e) | _, _ => true
 | _, _ => true
theorem distinct_spec (h : distinct ops = true) {i j : Nat} {o p : Oper} {d : Tmp} (hi : ops[i]? = some o) (hj : ops[j]? = some p) (hd : o.dst = some d) (he : p.dst = some d) : i = j := by
 have hil := (Array.getElem?_eq_some_iff.1 hi).1
 have hjl := (Array.getElem?_eq_some_iff.1 hj).1
 have h1 := (List.all_eq_true.1 h) i (by simpa using hil)
 have h2 := (List.all_eq_true.1 h1) j (by simpa using hjl)
 rw [hi, hj] at h2
 simp only [hd, he, beq_self_eq_true, Bool.not_true, Bool.or_false, beq_iff_eq] at h2
 exact h2
structure RInv (ops : Array Oper) (Φ : Nat → Value → World → Prop) (Θ : Nat → Nat → Value → Value → Prop) (W : World) (a0 : Act) (listed : Array Bool) (a : Act) (w : World) : Prop where
 upd : Upd nob W w
 size : a.tmps.size = a0.tmps.size
 defers : a.defers = a0.defers
 off : ∀ t, (∀ (i : Nat) o, ops[i]? = some o → o.dst ≠ some t) → a.tmps.getD t undef = a0.tmps.getD t undef
 on : ∀ (i : Nat) o d, ops[i]? = some o → listed.getD i false = true → o.dst = some d → Φ i (a.tmps.getD d undef) w
 rel : ∀ (i j : Nat) o p d e, ops[i]? = some o → ops[j]? = some p → i ≠ j → listed.getD i false = true → listed.getD j false = true → o.dst = some d → p.dst = some e → Θ i j (a.tmps.getD d undef) (a.tmps.getD e undef)
def stepOk (P : Program) (Q : Exit → Act → World → Prop) (o : Oper) (Φ : Nat → Value → World → Prop) (Θ : Nat → Nat → Value → Value → Prop) (i : Nat) (a : Act) (w : World) : Prop :=
 o.wp P a w (fun a' w' => ∃ x, a' = a.put o.dst x ∧ Φ i x w' ∧ Upd nob w w' ∧ ∀ j v, j ≠ i → Φ j v w → Θ i j x v) Q
theorem put_getD {a : Act} {d t : Tmp} {x : Value} (hd : d < a.tmps.size) : (a.put (some d) x).tmps.getD t undef = if t = d then x else a.tmps.getD t undef := by
 simp only [Act.put]
 by_cases h : t = d
 · subst h
   rw [if_pos rfl]
   simp [Array.getD_eq_getD_getElem?, hd]
 rw [if_neg h]
 simp [Array.getD_eq_getD_getElem?, Array.getElem?_setIfInBounds_ne (Ne.symm h)]
theorem RInv.step {Φ : Nat → Value → World → Prop} {Θ : Nat → Nat → Value → Value → Prop} {W : World} {a0 : Act} {listed : Array Bool} {a : Act} {w w' : World} {i : Nat} {o : Oper} {d : Tmp} {x : Value} (h : RInv ops Φ Θ W a0 listed a w)
    (hst : ∀ i x w w', Φ i x w → Upd nob w w' → Φ i x w') (hdist : distinct ops = true) (hi : ops[i]? = some o) (hd : o.dst = some d) (hds : d < a0.tmps.size) (hx : Φ i x w') (hu : Upd nob w w') (hsym : ∀ i j x y, Θ i j x y → Θ j i y x) (hrel : ∀ j v, j ≠ i → Φ j v w → Θ i j x v) :
    RInv ops Φ Θ W a0 (listed.setIfInBounds i true) (a.put o.dst x) w' := by
 rw [hd]
 refine ⟨h.upd.trans hu, by simp [Act.put, h.size], by simp [Act.put, h.defers], fun t ht => ?_, fun j p e hj hl he => ?_, fun j k p q e f hj hk hjk hlj hlk he hf => ?_⟩
 · rw [put_getD (by rw [h.size]; exact hds), if_neg (fun e => ht i o hi (by rw [e]; exact hd))]
   exact h.off t ht
 · rw [put_getD (by rw [h.size]; exact hds)]
   by_cases hji : j = i
   · subst hji
     rw [hi] at hj
     cases hj
     rw [hd] at he
     cases he
     rw [if_pos rfl]
     exact hx
   rw [if_neg (fun e' => hji (distinct_spec hdist hj hi he (by rw [e']; exact hd)))]
   refine hst _ _ _ _ (h.on j p e hj ?_ he) hu
   rwa [getD_set_ne false (Ne.symm hji)] at hl
 have other : ∀ {j : Nat} {p : Oper} {e : Tmp}, ops[j]? = some p → p.dst = some e → j ≠ i → e ≠ d := fun hj he hji e' => hji (distinct_spec hdist hj hi he (by rw [e']; exact hd))
 rw [put_getD (by rw [h.size]; exact hds), put_getD (by rw [h.size]; exact hds)]
 by_cases hji : j = i
 · subst hji
   rw [hi] at hj
   cases hj
   rw [hd] at he
   cases he
   rw [if_pos rfl, if_neg (other hk hf (Ne.symm hjk))]
   refine hrel k _ (Ne.symm hjk) (h.on k q f hk ?_ hf)
   rwa [getD_set_ne false hjk] at hlk
 rw [getD_set_ne false (Ne.symm hji)] at hlj
 rw [if_neg (other hj he hji)]
 by_cases hki : k = i
 · subst hki
   rw [hi] at hk
   cases hk
   rw [hd] at hf
   cases hf
   rw [if_pos rfl]
   exact hsym _ _ _ _ (hrel j _ hjk (h.on j p e hj hlj he))
 rw [getD_set_ne false (Ne.symm hki)] at hlk
 rw [if_neg (other hk hf hki)]
 exact h.rel j k p q e f hj hk hjk hlj hlk he hf
def left (listed : Array Bool) : Nat := listed.toList.count false
theorem left_set {listed : Array Bool} {i : Nat} (hi : i < listed.size) (h : listed.getD i true = false) : left (listed.setIfInBounds i true) + 1 = left listed := by
 have hl : i < listed.toList.length := by rw [Array.length_toList]; exact hi
 have hv : listed.toList[i] = false := by simpa [Array.getD, hi] using h
 have hpos : 0 < List.count false listed.toList := List.count_pos_iff.2 (hv ▸ List.getElem_mem hl)
 have hc := List.count_set (b := false) (a := true) hl
 rw [hv] at hc
 unfold left
 rw [Array.toList_setIfInBounds, hc]
 simp only [beq_self_eq_true, if_true]
 have : ((true == false) = true) ↔ False := by simp
 rw [if_neg (by simp)]
 omega
def ordered (md : Region.Mode) (ops : Array Oper) : Bool := (List.range ops.size).all fun i => match ops[i]? with | some o => o.after.all fun e => !Region.binds md e || decide (e.on < i) | none => true
def reach (md : Region.Mode) (ops : Array Oper) : Nat → Nat → Nat → Bool
 | 0, _, _ => false
 | f + 1, z, j => match ops[z]? with
  | some o => o.after.any fun e => Region.binds md e && (e.on == j || reach md ops f e.on j)
  | none => false
theorem reach_listed {listed : Array Bool} (hc : Closed md ops listed) {j : Nat} : ∀ (f z : Nat), reach md ops f z j = true → (∀ o, ops[z]? = some o → ∀ e ∈ o.after, Region.binds md e = true → listed.getD e.on false = true) → listed.getD j false = true
 | 0, _, h, _ => by simp [reach] at h
 | f + 1, z, h, ha => by
  unfold reach at h
  split at h
  · rename_i o ho
    obtain ⟨n, hn, h1⟩ := Array.any_eq_true.1 h
    simp only [Bool.and_eq_true, Bool.or_eq_true, beq_iff_eq] at h1
    have h2 := ha o ho _ (Array.getElem_mem hn) h1.1
    rcases h1.2 with h3 | h3
    · rw [← h3]; exact h2
    exact reach_listed hc f _ h3 fun p hp => hc _ p hp h2
  cases h
def tails (md : Region.Mode) (ops : Array Oper) (T : Nat → Bool) : Bool := (List.range ops.size).all fun i => if T i then (List.range ops.size).all fun j => T j || reach md ops 8 i j else true
def slots (ops : Array Oper) (T : Nat → Bool) (n : Nat) : Bool := (List.range ops.size).all fun i => match ops[i]? with
 | some o => T i || match o.dst with | some d => decide (d < n) | none => false
 | none => true
def lst (ops : Array Oper) (T : Nat → Bool) : Array Bool := ((List.range ops.size).map fun j => !T j).toArray
theorem ready_ne {listed : Array Bool} (hord : ordered md ops = true) (hs : listed.size = ops.size) (hex : ∃ j, j < ops.size ∧ listed.getD j true = false) : Region.ready md ops listed ≠ [] := by
 obtain ⟨j, hj, hmin⟩ : ∃ j, (j < ops.size ∧ listed.getD j true = false) ∧ ∀ k, k < j → ¬ (k < ops.size ∧ listed.getD k true = false) := by
  obtain ⟨j, hj⟩ := hex
  induction j using Nat.strongRecOn with
  | _ j ih =>
   by_cases h : ∃ k, k < j ∧ (k < ops.size ∧ listed.getD k true = false)
   · obtain ⟨k, hk, hk2⟩ := h
     exact ih k hk hk2
   exact ⟨j, hj, fun k hk hk2 => h ⟨k, hk, hk2⟩⟩
 have : j ∈ Region.ready md ops listed := by
  refine mem_ready.2 ⟨hj.2, ops[j]'hj.1, Array.getElem?_eq_getElem hj.1, fun e he hb => ?_⟩
  have h1 := (List.all_eq_true.1 hord) j (by simpa using hj.1)
  rw [Array.getElem?_eq_getElem hj.1] at h1
  obtain ⟨n, hn, hne⟩ := Array.getElem_of_mem he
  have h2 := (Array.all_eq_true.1 h1) n hn
  rw [hne] at h2
  simp only [hb, Bool.not_true, Bool.false_or, decide_eq_true_eq] at h2
  have h3 := hmin e.on h2
  have h4 : e.on < listed.size := by rw [hs]; omega
  have h5 : ¬ listed.getD e.on true = false := fun h => h3 ⟨by omega, h⟩
  simp [Array.getD, h4] at h5 ⊢
  exact h5
 intro h
 rw [h] at this
 cases this
theorem tails_spec {T : Nat → Bool} (h : tails md ops T = true) {i : Nat} (hi : i < ops.size) (hT : T i = true) {j : Nat} (hj : j < ops.size) (hTj : T j = false) : reach md ops 8 i j = true := by
 have h1 := (List.all_eq_true.1 h) i (by simpa using hi)
 simp only [hT, if_true] at h1
 have h2 := (List.all_eq_true.1 h1) j (by simpa using hj)
 rwa [hTj, Bool.false_or] at h2
theorem slots_spec {T : Nat → Bool} {n : Nat} (h : slots ops T n = true) {i : Nat} {o : Oper} (hi : ops[i]? = some o) (hT : T i = false) : ∃ d, o.dst = some d ∧ d < n := by
 have h1 := (List.all_eq_true.1 h) i (by simpa using (Array.getElem?_eq_some_iff.1 hi).1)
 rw [hi] at h1
 simp only [hT, Bool.false_or] at h1
 split at h1
 · rename_i d hd
   exact ⟨d, hd, by simpa using h1⟩
 cases h1
theorem wpAny_inv {Φ : Nat → Value → World → Prop} {Θ : Nat → Nat → Value → Value → Prop} {W : World} {a0 : Act} (T : Nat → Bool) (hst : ∀ i x w w', Φ i x w → Upd nob w w' → Φ i x w') (hsym : ∀ i j x y, Θ i j x y → Θ j i y x)
    (hchk : (distinct ops && ordered md ops && tails md ops T && slots ops T a0.tmps.size) = true) (hTex : ∃ i, i < ops.size ∧ T i = true)
    (hstep : ∀ (i : Nat) o listed a w, ops[i]? = some o → T i = false → RInv ops Φ Θ W a0 listed a w → (∀ e ∈ o.after, Region.binds md e = true → listed.getD e.on false = true) → Region.wanted o (yielded ops a.tmps) = true ∧ stepOk P Q o Φ Θ i a w)
    (htail : ∀ a w fuel, RInv ops Φ Θ W a0 (lst ops T) a w → wpAny P md ops Q (fuel + left (lst ops T)) (lst ops T) a w) :
    ∀ (fuel : Nat) (listed : Array Bool) (a : Act) (w : World), listed.size = ops.size → (∀ j, j < ops.size → T j = true → listed.getD j false = false) → left listed ≤ fuel → Closed md ops listed → RInv ops Φ Θ W a0 listed a w → wpAny P md ops Q fuel listed a w := by
 simp only [Bool.and_eq_true] at hchk
 obtain ⟨⟨⟨hdist, hord⟩, hTw⟩, hslot⟩ := hchk
 intro fuel
 have hnow : ∀ listed : Array Bool, listed.size = ops.size → (∀ j, j < ops.size → listed.getD j false = !T j) → listed = lst ops T := fun listed hs hall => by
  apply Array.ext
  · simp [lst, hs]
  intro j h1 h2
  have := hall j (by omega)
  simp [Array.getD, h1] at this
  simp [lst, this]
 induction fuel with
 | zero =>
  intro listed a w hs hTl hleft _ _
  obtain ⟨i, hi, hTi⟩ := hTex
  have h1 := hTl i hi hTi
  have hl : i < listed.toList.length := by rw [Array.length_toList, hs]; exact hi
  have hv : listed.toList[i] = false := by
   have h2 : i < listed.size := by omega
   simpa [Array.getD, h2] using h1
  have : 0 < left listed := List.count_pos_iff.2 (hv ▸ List.getElem_mem hl)
  omega
 | succ fuel ih =>
  intro listed a w hs hTl hleft hcl hJ
  by_cases hall : ∀ j, j < ops.size → listed.getD j false = !T j
  · have hl := hnow listed hs hall
    subst hl
    obtain ⟨f, hf⟩ : ∃ f, fuel + 1 = f + left (lst ops T) := ⟨fuel + 1 - left (lst ops T), by omega⟩
    rw [hf]
    exact htail a w f hJ
  refine ⟨fun h => ?_, fun i hi => ?_⟩
  · obtain ⟨i, hi, hTi⟩ := hTex
    refine (ready_ne hord hs ⟨i, hi, ?_⟩ h).elim
    have := hTl i hi hTi
    have h2 : i < listed.size := by omega
    simp [Array.getD, h2] at this ⊢
    exact this
  obtain ⟨hun, o, ho, hdeps⟩ := mem_ready.1 hi
  have hil := (Array.getElem?_eq_some_iff.1 ho).1
  cases hTi : T i with
  | true =>
   exfalso
   refine hall fun j hj => ?_
   cases hTj : T j with
   | true => simpa using hTl j hj hTj
   | false =>
    have := reach_listed hcl 8 i (tails_spec hTw hil hTi hj hTj) (fun p hp => by rw [ho] at hp; cases hp; exact hdeps)
    simpa using this
  | false =>
   obtain ⟨hw, hok⟩ := hstep i o listed a w ho hTi hJ hdeps
   obtain ⟨d, hd, hds⟩ := slots_spec hslot ho hTi
   unfold wpOp
   rw [ho]
   simp only [hw, if_true]
   refine .inl (Oper.wp_mono ?_ hok)
   rintro a' w' ⟨x, rfl, hx, hu, hrel⟩
   refine ih _ _ w' (by simpa using hs) (fun j hj hTj => ?_) ?_ (closed_set hcl hi) (hJ.step hst hdist ho hd hds hx hu hsym hrel)
   · have hne : i ≠ j := by rintro rfl; rw [hTi] at hTj; cases hTj
     rw [getD_set_ne false hne]; exact hTl j hj hTj
   have := left_set (by rw [hs]; exact hil) hun
   omega
theorem RInv.start {Φ : Nat → Value → World → Prop} {Θ : Nat → Nat → Value → Value → Prop} {W : World} {a0 : Act} : RInv ops Φ Θ W a0 (Array.replicate ops.size false) a0 W :=
 ⟨Upd.refl _ _, rfl, rfl, fun _ _ => rfl, fun i o d hi hl => by
  have hil := (Array.getElem?_eq_some_iff.1 hi).1
  simp [Array.getD, hil] at hl, fun i j o p d e hi hj _ hl => by
  have hil := (Array.getElem?_eq_some_iff.1 hi).1
  simp [Array.getD, hil] at hl⟩
theorem wp_region_inv {Φ : Nat → Value → World → Prop} {Θ : Nat → Nat → Value → Value → Prop} {id : Nat} {a0 : Act} {w : World} (T : Nat → Bool) (hm : P.follows .mixedOrders = true) (hst : ∀ i x w w', Φ i x w → Upd nob w w' → Φ i x w') (hsym : ∀ i j x y, Θ i j x y → Θ j i y x)
    (hchk : (distinct ops && ordered .any ops && tails .any ops T && slots ops T a0.tmps.size) = true) (hTex : ∃ i, i < ops.size ∧ T i = true)
    (hstep : ∀ (i : Nat) o listed a w', ops[i]? = some o → T i = false → RInv ops Φ Θ w.drew a0 listed a w' → (∀ e ∈ o.after, Region.binds .any e = true → listed.getD e.on false = true) → Region.wanted o (yielded ops a.tmps) = true ∧ stepOk P (NoPanic Q) o Φ Θ i a w')
    (htail : ∀ a w' fuel, RInv ops Φ Θ w.drew a0 (lst ops T) a w' → wpAny P .any ops (NoPanic Q) (fuel + left (lst ops T)) (lst ops T) a w') :
    (Code.region id ops true).wp P Q a0 w := by
 refine wp_region_P hm ?_
 refine wpAny_inv T hst hsym hchk hTex hstep htail ops.size _ _ _ (by simp) (fun j hj _ => by simp [Array.getD, hj]) ?_ ?_ RInv.start
 · simp [left]
 intro k o hk hl
 have hil := (Array.getElem?_eq_some_iff.1 hk).1
 simp [Array.getD, hil] at hl
def noDst (ops : Array Oper) (t : Tmp) : Bool := ops.all fun o => match o.dst with | some d => !(d == t) | none => true
theorem RInv.slot {Φ : Nat → Value → World → Prop} {Θ : Nat → Nat → Value → Value → Prop} {W : World} {a0 : Act} {listed : Array Bool} {a : Act} {w : World} (h : RInv ops Φ Θ W a0 listed a w) {t : Tmp} (hn : noDst ops t = true) : a.eval (.tmp t) = a0.tmps.getD t undef := by
 refine h.off t fun i o hi hd => ?_
 obtain ⟨hil, hv⟩ := Array.getElem?_eq_some_iff.1 hi
 have := (Array.all_eq_true.1 hn) i hil
 rw [hv] at this
 simp [hd] at this
theorem RInv.dep {Φ : Nat → Value → World → Prop} {Θ : Nat → Nat → Value → Value → Prop} {W : World} {a0 : Act} {listed : Array Bool} {a : Act} {w : World} {o : Oper} (h : RInv ops Φ Θ W a0 listed a w) (hdeps : ∀ e ∈ o.after, Region.binds md e = true → listed.getD e.on false = true)
    (j : Nat) {p : Oper} (hj : ops[j]? = some p) {d : Tmp} (hd : p.dst = some d) (hb : (o.after.any fun e => Region.binds md e && e.on == j) = true) : Φ j (a.eval (.tmp d)) w := by
 obtain ⟨n, hn, h1⟩ := Array.any_eq_true.1 hb
 simp only [Bool.and_eq_true, beq_iff_eq] at h1
 exact h.on j p d hj (by have := hdeps _ (Array.getElem_mem hn) h1.1; rwa [h1.2] at this) hd
def agree (t : Array Value) : List Value → Nat → Prop
 | [], _ => True
 | x :: xs, k => t.getD k undef = x ∧ agree t xs (k + 1)
theorem agree_at {t : Array Value} : ∀ {l : List Value} {k : Nat}, agree t l k → ∀ i x, l[i]? = some x → t.getD (k + i) undef = x
 | [], _, _, _, _, h => by simp at h
 | y :: ys, k, h, 0, x, hx => by simp at hx; subst hx; exact h.1
 | y :: ys, k, h, i + 1, x, hx => by
  have := agree_at h.2 i x (by simpa using hx)
  rwa [show k + 1 + i = k + (i + 1) by omega] at this
theorem arr_lit {t : Array Value} {l : List Value} (hs : t.size = l.length) (h : agree t l 0) : t = l.toArray := by
 apply Array.ext
 · simpa using hs
 intro i h1 h2
 have h3 : i < l.length := by omega
 have := agree_at h i l[i] (List.getElem?_eq_getElem h3)
 rw [Nat.zero_add] at this
 simp [Array.getD, h1] at this
 simpa using this
theorem wpAny_two {n fuel : Nat} {listed : Array Bool} {a : Act} {w : World} (h : n = 2) (k : wpAny P md ops Q (fuel + 1 + 1) listed a w) : wpAny P md ops Q (fuel + n) listed a w := by subst h; exact k
end Go.Proofs.Ytiampoebdmflgaa
