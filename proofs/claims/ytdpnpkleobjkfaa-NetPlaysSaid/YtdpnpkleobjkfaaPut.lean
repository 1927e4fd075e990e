/- assizeref24's network: put. -/
import Derived.Test.YtdpnpkleobjkfaaSend
import Derived.Test.YtdpnpkleobjkfaaIs
namespace Go.Proofs.Ytdpnpkleobjkfaa
open Go.RowKit Go.Shelf
attribute [local go_sem] Oper.semAt_some
set_option maxRecDepth 100000
set_option maxHeartbeats 4000000
set_option linter.unusedSimpArgs false

/-- The reference's network in block nb. -/
structure RefS (W : World) (nb n : Nat) (sv : Value) (m : Nat) (xs : List Value) : Prop where
  blk : Blk W nb 28 #[.int .i64 n, sv]
  row : W.ownsRow 0 56 74 sv m xs

theorem RefS.ne {W : World} {nb n : Nat} {sv : Value} {m : Nat} {xs : List Value} (h : RefS W nb n sv m xs) : sv.ownBlock ≠ some nb := own_ne h.row h.blk (by decide)
theorem RefS.lt {W : World} {nb n : Nat} {sv : Value} {m : Nat} {xs : List Value} (h : RefS W nb n sv m xs) : ∀ k, netB nb sv k → k < W.heap.size := by
  rintro k (rfl | hk)
  · exact h.blk.lt
  · exact (h.row.lt k hk).2
theorem RefS.upd {S : Nat → Prop} {W W' : World} {nb n : Nat} {sv : Value} {m : Nat} {xs : List Value} (h : RefS W nb n sv m xs) (hu : Upd S W W') (hs : ∀ k, netB nb sv k → ¬ S k) : RefS W' nb n sv m xs := by
  refine ⟨h.blk.upd hu (hs nb (.inl rfl)), h.row.1, ?_⟩
  rcases h.row.2 with h2 | ⟨g, cap, cur, hv, hg, hh, r⟩
  · exact .inl h2
  · exact .inr ⟨g, cap, cur, hv, hg, (hu.block g (Array.getElem?_eq_some_iff.1 hh).1 (hs g (.inr (by rw [hv]; rfl)))).trans hh, r⟩
theorem RefS.form {W : World} {nb n : Nat} {sv : Value} {m : Nat} {xs : List Value} (h : RefS W nb n sv m xs) : ∃ a c, sv = .slice a m c := own_form h.row

theorem built_rmail0 (parts : List (Nat × Value)) : Try.prog.built 56 parts = Instr.fill (fun i => #[(0, 1), (1, 73)][i]?) zout parts := by kernel_rfl
theorem built_rmailz (z : Int) (cs : Array Value) (h : cs.size = 73) : Try.prog.built 56 [(0, .int .i64 z), (1, .agg cs)] = some (#[.int .i64 z] ++ cs) := by
  rw [built_rmail0, ← built_mail0]; exact built_mail z cs h
theorem rmail_info : (Try.prog.info? 56).map (fun i => (i.zero, i.size, i.bytes)) = some (some (.agg zout), 74, 208) := by kernel_rfl

theorem wp_region_D {ops : Array Oper} {P : Program} {Q : Exit → Act → World → Prop} {S : World → Prop} {id : Nat} {a : Act} {w : World} (z : Nat) (hm : P.follows .mixedOrders = true)
    (h : wpAnyD P .any ops (NoPanic Q) S z ops.size (Array.replicate ops.size false) a { w with drawn := w.drawn + 1 }) : (Code.region id ops true).wp P Q a w :=
  wp_region_noPanic (wp_region_any hm (wpAny_of_D _ _ _ _ h))

/-- 'put' that does not put. -/
theorem put_no (nb n : Nat) (src to : Int) (sv : Value) (m : Nat) (xs : List Value) (cs : Array Value) (w : World) (hR : RefS w nb n sv m xs)
    (hno : ¬ (0 ≤ to ∧ to < n ∧ to ≠ src ∧ m < 4000)) :
    Calls Try.prog 23 #[.pointer (some ⟨nb, 0, none⟩), .int .i64 src, .int .i64 to, .agg cs] w fun e w' => e = .returned (.tuple #[]) ∧ Upd nob w w' := by
  obtain ⟨sa, sc, rfl⟩ := hR.form
  have c0 : w.cell? ⟨nb, 0, none⟩ = some (.int .i64 n) := hR.blk.cell 0
  have c1 : w.cell? ⟨nb, 1, none⟩ = some (.slice sa m sc) := hR.blk.cell 1
  have hl := hR.blk.lt
  clear hR
  by_cases a1 : 0 ≤ to
  · have d1 : decide (0 ≤ to) = true := by simp [a1]
    by_cases a2 : to < n
    · have d2 : decide (to < (n : Int)) = true := by simp [a2]
      by_cases a3 : to = src
      · subst a3
        go_enter Try.func23, Try.ntmps23
        go_wp2
        all_goals (go_end0; exact ⟨rfl, (Upd.refl _ _).alloc _⟩)
      · have d3 : (to != src) = true := by simp [a3]
        have d4 : decide ((m : Int) < 4000) = false := by
          simp only [decide_eq_false_iff_not]
          intro h
          exact hno ⟨a1, a2, a3, by omega⟩
        go_enter Try.func23, Try.ntmps23
        go_wp2
        all_goals (go_end0; exact ⟨rfl, (Upd.refl _ _).alloc _⟩)
    · have d2 : decide (to < (n : Int)) = false := by simpa using a2
      go_enter Try.func23, Try.ntmps23
      go_wp2
      all_goals (go_end0; exact ⟨rfl, (Upd.refl _ _).alloc _⟩)
  · have d1 : decide (0 ≤ to) = false := by simpa using a1
    go_enter Try.func23, Try.ntmps23
    go_wp2
    all_goals (go_end0; exact ⟨rfl, (Upd.refl _ _).alloc _⟩)

theorem put_alloc {S : Nat → Prop} {W4 W : World} {mb nb : Nat} {v : Value} {L : List Value} (h : W.cell? ⟨nb, 1, none⟩ = some v ∧ W.rangeAt mb 0 L ∧ Upd S W4 W) (ms : Array Value) (t : TypeId) :
    (W.alloc (.cells ms t)).cell? ⟨nb, 1, none⟩ = some v ∧ (W.alloc (.cells ms t)).rangeAt mb 0 L ∧ Upd S W4 (W.alloc (.cells ms t)) := by
  obtain ⟨a2, a3, a4⟩ := h
  exact ⟨(World.cell?_alloc_lt _ _ _ (block_lt_of_cell a2)).trans a2, fun j x hx => (World.cell?_alloc_lt _ _ _ (block_lt_of_cell (a3 j x hx))).trans (a3 j x hx), a4.alloc _⟩

theorem put_grown {W4 W W' : World} {mb nb : Nat} {v : Value} {L : List Value} {row : Option Nat} (h : W.cell? ⟨nb, 1, none⟩ = some v ∧ W.rangeAt mb 0 L ∧ Upd (fun k => row = some k) W4 W)
    (hg : W.grownBy W' row) (h2 : row ≠ some nb) (h3 : row ≠ some mb) :
    W'.cell? ⟨nb, 1, none⟩ = some v ∧ W'.rangeAt mb 0 L ∧ Upd (fun k => row = some k) W4 W' := by
  obtain ⟨a2, a3, a4⟩ := h
  refine ⟨?_, fun j x hx => ?_, a4.grown hg (fun k hk => .inl hk)⟩
  · exact (World.cell?_of_block (w := W) (a := ⟨nb, 1, none⟩) (hg.block nb (block_lt_of_cell a2) (Ne.symm h2))).trans a2
  · exact (World.cell?_of_block (w := W) (a := ⟨mb, 0 + j, none⟩) (hg.block mb (block_lt_of_cell (a3 j x hx)) (Ne.symm h3))).trans (a3 j x hx)

/-- 'put' that puts. -/
theorem put_yes (nb n : Nat) (src to : Int) (sv : Value) (m : Nat) (xs : List Value) (cs : Array Value) (w : World) (hR : RefS w nb n sv m xs) (hp : Plain cs)
    (a1 : 0 ≤ to) (a2 : to < n) (a3 : to ≠ src) (a4 : m < 4000) :
    Calls Try.prog 23 #[.pointer (some ⟨nb, 0, none⟩), .int .i64 src, .int .i64 to, .agg cs] w fun e w' => ∃ sv', e = .returned (.tuple #[]) ∧
      RefS w' nb n sv' (m + 1) (xs ++ .int .i64 to :: cs.toList) ∧ (sv'.ownBlock = sv.ownBlock ∨ ∃ k, sv'.ownBlock = some k ∧ w.heap.size ≤ k) ∧ Upd (netB nb sv) w w' := by
  obtain ⟨sa, sc, rfl⟩ := hR.form
  have c0 : w.cell? ⟨nb, 0, none⟩ = some (.int .i64 n) := hR.blk.cell 0
  have c1 : w.cell? ⟨nb, 1, none⟩ = some (.slice sa m sc) := hR.blk.cell 1
  have hl := hR.blk.lt
  have d1 : decide (0 ≤ to) = true := by simp [a1]
  have d2 : decide (to < (n : Int)) = true := by simp [a2]
  have d3 : (to != src) = true := by simp [a3]
  have d4 : decide ((m : Int) < 4000) = true := by simp; omega
  have hcl := hp.size
  have HR := Lib.hid hR
  have HP := Lib.hid hp
  have A := Lib.hid (And.intro a1 (And.intro a2 (And.intro a3 a4)))
  clear hR hp a1 a2 a3 a4
  go_enter Try.func23, Try.ntmps23
  go_wp2_with fail
  have hR1 : RefS (w.alloc (.cells cs 38)) nb n (.slice sa m sc) m xs := HR.out.upd ((Upd.refl nob w).alloc _) (fun _ _ f => f)
  have bm : Blk (w.alloc (.cells cs 38)) w.heap.size 38 cs := Blk.new _ _ _
  obtain ⟨W', hW'⟩ : ∃ W', w.alloc (.cells cs 38) = W' := ⟨_, rfl⟩
  have hu0 : Upd nob w W' := by rw [← hW']; exact (Upd.refl nob w).alloc _
  rw [hW'] at hR1 bm ⊢
  clear hW' c0 c1
  have c1 : W'.cell? ⟨nb, 1, none⟩ = some (.slice sa m sc) := hR1.blk.cell 1
  have r5 := bm.range1
  refine wp_region_D (S := fun X => X.cell? ⟨nb, 1, none⟩ = some (.slice sa m sc) ∧ X.rangeAt w.heap.size 0 cs.toList ∧ Upd (fun k => (Value.slice sa m sc).ownBlock = some k) W' X) 12 (by kernel_rfl) ?_
  have hS : W'.drew.cell? ⟨nb, 1, none⟩ = some (.slice sa m sc) ∧ W'.drew.rangeAt w.heap.size 0 cs.toList ∧ Upd (fun k => (Value.slice sa m sc).ownBlock = some k) W' W'.drew := ⟨c1, r5, (Upd.refl _ _).drew⟩
  have K1 := Lib.hid hR1
  have K5 := Lib.hid bm
  clear c1 r5 hR1 bm
  refine wpAnyD_take (i := 0) (v := ?_) rfl (by kernel_rfl) (by kernel_rfl) (by kernel_rfl) (by kernel_rfl) (fun _ _ _ h => h) (Or.inl ⟨by rfl, ?_⟩) hS ?_
  rotate_left
  · rintro wx ⟨s2, s3, s4⟩
    go_simp
    with_reducible rfl
  try simp only [Act.put, List.setIfInBounds_toArray, List.set_cons_zero, List.set_cons_succ]
  refine wpAnyD_take (i := 1) (v := ?_) rfl (by kernel_rfl) (by kernel_rfl) (by kernel_rfl) (by kernel_rfl) (fun _ _ _ h => h) (Or.inl ⟨by rfl, ?_⟩) hS ?_
  rotate_left
  · rintro wx ⟨s2, s3, s4⟩
    go_simp
    with_reducible rfl
  try simp only [Act.put, List.setIfInBounds_toArray, List.set_cons_zero, List.set_cons_succ]
  refine wpAnyD_take (i := 2) (v := ?_) rfl (by kernel_rfl) (by kernel_rfl) (by kernel_rfl) (by kernel_rfl) (fun _ _ _ h => h) (Or.inl ⟨by rfl, ?_⟩) hS ?_
  rotate_left
  · rintro wx ⟨s2, s3, s4⟩
    go_simp
    with_reducible rfl
  try simp only [Act.put, List.setIfInBounds_toArray, List.set_cons_zero, List.set_cons_succ]
  refine wpAnyD_take (i := 3) (v := ?_) rfl (by kernel_rfl) (by kernel_rfl) (by kernel_rfl) (by kernel_rfl) (fun _ _ _ h => h) (Or.inl ⟨by rfl, ?_⟩) hS ?_
  rotate_left
  · rintro wx ⟨s2, s3, s4⟩
    go_simp
    with_reducible rfl
  try simp only [Act.put, List.setIfInBounds_toArray, List.set_cons_zero, List.set_cons_succ]
  refine wpAnyD_take (i := 4) (v := ?_) rfl (by kernel_rfl) (by kernel_rfl) (by kernel_rfl) (by kernel_rfl) (fun _ _ _ h => h) (Or.inl ⟨by rfl, ?_⟩) hS ?_
  rotate_left
  · rintro wx ⟨s2, s3, s4⟩
    go_simp
    with_reducible rfl
  try simp only [Act.put, List.setIfInBounds_toArray, List.set_cons_zero, List.set_cons_succ]
  refine wpAnyD_take (i := 5) (v := ?_) rfl (by kernel_rfl) (by kernel_rfl) (by kernel_rfl) (by kernel_rfl) (fun _ _ _ h => h) (Or.inl ⟨by rfl, ?_⟩) hS ?_
  rotate_left
  · rintro wx ⟨s2, s3, s4⟩
    go_simp
    with_reducible rfl
  try simp only [Act.put, List.setIfInBounds_toArray, List.set_cons_zero, List.set_cons_succ]
  refine wpAnyD_take (i := 6) (v := (.agg cs)) rfl (by kernel_rfl) (by kernel_rfl) (by kernel_rfl) (by kernel_rfl) (fun _ _ _ h => h) (Or.inl ⟨by rfl, ?_⟩) hS ?_
  · rintro wx ⟨s2, s3, s4⟩
    refine run_load_mid 38 (.tmp 7) ?_ w.heap.size 0 ?_ cs _ s3 Try.underlying38 ?_ ?_
    · rfl
    · rfl
    · rfl
    · rw [hcl]; exact info_msg
  try simp only [Act.put, List.setIfInBounds_toArray, List.set_cons_zero, List.set_cons_succ]
  refine wpAnyD_take (i := 7) (v := (.agg (#[.int .i64 to] ++ cs))) rfl (by kernel_rfl) (by kernel_rfl) (by kernel_rfl) (by kernel_rfl) (fun _ _ _ h => h) (Or.inl ⟨by rfl, ?_⟩) hS ?_
  · rintro wx ⟨s2, s3, s4⟩
    refine run_build_op 56 #[(0, .tmp 36), (1, .tmp 37)] ?_ (#[.int .i64 to] ++ cs) ?_
    · rfl
    · refine (congrArg (fun l => Try.prog.built 56 l) ?_).trans (built_rmailz to cs hcl)
      simp [Act.eval]
  try simp only [Act.put, List.setIfInBounds_toArray, List.set_cons_zero, List.set_cons_succ]
  obtain ⟨ie, hie, hiz, his, hib⟩ := info_parts rmail_info
  have hml : (#[Value.int .i64 to] ++ cs).size = 74 := by rw [Array.size_append, hcl]; rfl
  refine wpAnyD_one (i := 8) (by kernel_rfl) rfl rfl fun K hK => ?_
  refine wp_buildSlice 26 56 1 #[(0, .tmp 38)] rfl (#[.int .i64 to] ++ cs) ie (.agg zout) Try.underlying26 hie hiz (by rw [his]; decide) (by rw [his]; decide) ?_ ?_
  · rw [his]
    refine Eq.trans (congrArg (Instr.fill _ _) (a₂ := [(0, .agg (#[.int .i64 to] ++ cs))]) ?_) (fill_one (n := 74) ?_ hml)
    · simp [Act.eval]
    · rw [Array.size_map, Array.size_range]
  have hS8 : _ ∧ _ ∧ _ := put_alloc hS (#[.int .i64 to] ++ cs) 56
  refine hK _ _ (fun _ => hS8) ?_
  clear hK K
  try simp only [Act.put, List.setIfInBounds_toArray, List.set_cons_zero, List.set_cons_succ]
  refine wpAnyD_one (i := 9) (by kernel_rfl) rfl rfl fun K hK => ?_
  have hrow : (W'.drew.alloc (.cells (#[.int .i64 to] ++ cs) 56)).ownsRow 0 56 74 (.slice sa m sc) m xs := (World.ownsRow.drew K1.out.row).alloc _
  have a4 : m < 4000 := A.out.2.2.2
  refine wp_append_at (.tmp 35) (.tmp 39) 26 rfl 0 56 ie (.agg zout) 74 208 Try.underlying26 hie hiz his hib zout_size (by decide) (.slice sa m sc) m _ ?hs hrow ⟨W'.drew.heap.size, 0, none⟩ 1 1 (.int .i64 to :: cs.toList) ?hx ?hl ?hnews ?h1 ?b1 ?b2 (Nat.zero_le _) ?hk
  case hl => simp [hcl]
  case hnews =>
    intro j u hu
    have := (Blk.new W'.drew 56 (#[.int .i64 to] ++ cs)).range1 j u (by simpa using hu)
    rw [Addr.add_mid]
    exact this
  case h1 =>
    intro u hu
    rcases List.mem_cons.1 hu with rfl | hu
    · rfl
    · exact (Array.all_eq_true_iff_forall_mem.1 HP.out.one) u (by simpa using hu)
  case b1 => unfold maxLen; omega
  case b2 => omega
  case hs => simp [Act.eval]
  case hx => simp [Act.eval]
  case hk =>
    intro v' w9 hown9 hg9 hb9
    have n1 : (Value.slice sa m sc).ownBlock ≠ some nb := K1.out.ne
    have n3 : (Value.slice sa m sc).ownBlock ≠ some w.heap.size := own_ne K1.out.row K5.out (by decide)
    have hS9 := put_grown hS8 hg9 n1 n3
    refine hK _ _ (fun _ => hS9) ?_
    clear hK K
    have hu9 : Upd (fun k => (Value.slice sa m sc).ownBlock = some k) W' w9 := hS9.2.2
    have hbn : Blk w9 nb 28 #[.int .i64 n, .slice sa m sc] := K1.out.blk.upd hu9 n1
    have hw1 : w9.cell? ⟨nb, 1, none⟩ = some (.slice sa m sc) := hbn.cell 1
    have hw2 : w9.frozen? ⟨nb, 1, none⟩ = false := hbn.frozen 1
    obtain ⟨a9, c9, hv9⟩ : ∃ a c, v' = .slice a (m + 1) c := own_form hown9
    subst hv9
    refine wpAnyD_one (i := 10) (by kernel_rfl) rfl rfl fun K hK => ?_
    go_simp
    refine hK _ _ (fun _ => hS9) ?_
    clear hK K
    refine wpAnyD_one (i := 11) (by kernel_rfl) rfl rfl fun K hK => ?_
    go_simp
    refine hK _ _ (fun _ => hS9) ?_
    clear hK K
    refine wpAnyD_one (i := 12) (by kernel_rfl) rfl rfl fun K hK => ?_
    go_simp
    refine hK _ _ (fun h => absurd rfl h) ?_
    clear hK K
    refine wpAnyD_done (by kernel_rfl) ?_ _
    refine NoPanic.normal ?_
    go_wp2
    go_end0
    have hw : w.heap.size ≤ W'.heap.size := hu0.size
    have huF : Upd (netB nb (.slice sa m sc)) W' (w9.setCell ⟨nb, 1, none⟩ (.slice a9 (m + 1) c9)) := (hu9.mono fun k h => .inr h).setCell (.inl (.inl rfl)) _
    have hnv : (Value.slice a9 (m + 1) c9).ownBlock ≠ some nb := by
      rcases hb9 with h | h
      · rw [h]; exact n1
      · rw [h]
        intro e
        injection e with e
        have : nb < W'.heap.size := K1.out.blk.lt
        have e' : W'.heap.size + 1 = nb := by simpa using e
        omega
    refine ⟨.slice a9 (m + 1) c9, rfl, ⟨hbn.set 1 _, ?_⟩, ?_, ?_⟩
    · have h := ownsRow_setCell_other hown9 (a := ⟨nb, 1, none⟩) hnv (.slice a9 (m + 1) c9)
      simpa [Nat.add_assoc] using h
    · rcases hb9 with h | h
      · exact .inl h
      · exact .inr ⟨_, h, by simp; omega⟩
    · exact (hu0.mono fun _ h => h.elim).trans huF
end Go.Proofs.Ytdpnpkleobjkfaa
