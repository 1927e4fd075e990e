/- Double: of the program, of the reference. -/
import Derived.Test.YtdpnpkleobjkfaaAt
namespace Go.Proofs.Ytdpnpkleobjkfaa
open Go.RowKit Go.Shelf
attribute [local go_sem] Oper.semAt_some
set_option maxRecDepth 100000
set_option maxHeartbeats 4000000
set_option linter.unusedSimpArgs false

theorem pmail_info : (Try.prog.info? 49).map (fun i => (i.zero, i.size, i.bytes)) = some (some (.agg zout), 74, 208) := by kernel_rfl

def dblOk (ms : List (Int × Array Value)) (i : Int) : Bool := inR ms i && decide (ms.length < 4000)
def dbl (ms : List (Int × Array Value)) (i : Int) : List (Int × Array Value) := if dblOk ms i then ms ++ (ms[i.toNat]?).toList else ms

theorem inR_lt {ms : List (Int × Array Value)} {i : Int} (h : inR ms i = true) : 0 ≤ i ∧ i.toNat < ms.length := by
  simp [inR] at h; omega
theorem atR_row {ms : List (Int × Array Value)} (hp : PlainL ms) (i : Int) : (atR ms i).size = 74 ∧ (atR ms i).all (·.oneCell') = true := by
  cases h : inR ms i with
  | false => rw [atR_out h]; exact ⟨zout_size, zout_one⟩
  | true =>
    obtain ⟨h0, h1⟩ := inR_lt h
    rw [atR_in h0 h1]
    exact mail_row (hp _ (List.getElem_mem h1)) _
theorem dbl_in {ms : List (Int × Array Value)} {i : Int} (h : dblOk ms i = true) : dbl ms i = ms ++ [ms[i.toNat]'(inR_lt (by simp [dblOk] at h; exact h.1)).2] := by
  unfold dbl
  rw [if_pos h, List.getElem?_eq_getElem (inR_lt (by simp [dblOk] at h; exact h.1)).2]; rfl
theorem dbl_cells {ms : List (Int × Array Value)} {i : Int} (h : dblOk ms i = true) : mcells (dbl ms i) = mcells ms ++ (atR ms i).toList := by
  rw [dbl_in h, mcells_app]
  obtain ⟨h0, h1⟩ := inR_lt (ms := ms) (i := i) (by simp [dblOk] at h; exact h.1)
  rw [atR_in h0 h1]; simp [mcells]
theorem dbl_len {ms : List (Int × Array Value)} {i : Int} (h : dblOk ms i = true) : (dbl ms i).length = ms.length + 1 := by rw [dbl_in h]; simp
theorem dbl_out {ms : List (Int × Array Value)} {i : Int} (h : dblOk ms i = false) : dbl ms i = ms := by unfold dbl; rw [if_neg (by simp [h])]
theorem dbl_plain {ms : List (Int × Array Value)} (hp : PlainL ms) (i : Int) : PlainL (dbl ms i) := by
  cases h : dblOk ms i with
  | false => rw [dbl_out h]; exact hp
  | true =>
    rw [dbl_in h]
    intro p hq
    rcases List.mem_append.1 hq with h | h
    · exact hp p h
    · rw [List.mem_singleton.1 h]; exact hp _ (List.getElem_mem _)

theorem info_mails {P : Program} {t : TypeId} (h : (P.info? t).map (fun i => (i.zero, i.size, i.bytes)) = some (some (.agg zout), 74, 208)) : (P.info? t).map (·.size) = some 74 := by
  cases hi : P.info? t with
  | none => rw [hi] at h; cases h
  | some i => rw [hi] at h; simp at h; simp [h.2.1]

theorem put_alloc' {S : Nat → Prop} {W4 W : World} {mb o nb : Nat} {v : Value} {L : List Value} (h : W.cell? ⟨nb, 1, none⟩ = some v ∧ W.rangeAt mb o L ∧ Upd S W4 W) (ms : Array Value) (t : TypeId) :
    (W.alloc (.cells ms t)).cell? ⟨nb, 1, none⟩ = some v ∧ (W.alloc (.cells ms t)).rangeAt mb o L ∧ Upd S W4 (W.alloc (.cells ms t)) := by
  obtain ⟨a2, a3, a4⟩ := h
  exact ⟨(World.cell?_alloc_lt _ _ _ (block_lt_of_cell a2)).trans a2, fun j x hx => (World.cell?_alloc_lt _ _ _ (block_lt_of_cell (a3 j x hx))).trans (a3 j x hx), a4.alloc _⟩

/-- 'Double' of a network. -/
theorem double_any (nb n : Nat) (sv : Value) (ms : List (Int × Array Value)) (i : Int) (w : World) (hN : NetS w nb n sv ms.length (mcells ms)) (hp : PlainL ms) :
    Calls Try.prog 11 #[.pointer (some ⟨nb, 0, none⟩), .int .i64 i] w fun e w' => ∃ sv', e = .returned (.bool (dblOk ms i)) ∧ NetS w' nb n sv' (dbl ms i).length (mcells (dbl ms i)) ∧
      (sv'.ownBlock = sv.ownBlock ∨ ∃ k, sv'.ownBlock = some k ∧ w.heap.size ≤ k) ∧ Upd (netB nb sv) w w' := by
  have hz := zero_mail
  obtain ⟨sa, sc, rfl⟩ := svi_form hN
  have HN := Lib.hid hN
  obtain ⟨hr1, hr2⟩ := atR_row hp i
  have hri : (Try.prog.info? 49).map (·.size) = some (atR ms i).size := by rw [hr1]; exact info_mails pmail_info
  have hri2 : zout.size = (atR ms i).size := by rw [hr1]; exact zout_size
  go_enter Try.func11, Try.ntmps11
  go_wp2_with fail
  refine (at_any nb n _ ms i _ hN hp).mono ?_
  clear hN
  rintro e w1 ⟨rfl, hb1⟩
  have hu1 : Upd nob w w1 := Upd.of_below hb1
  have hblk := Blk.new w1 49 zout
  have b5 := hblk.row (atR ms i)
  have hu2 : Upd nob w ((w1.alloc (.cells zout 49)).setRow w1.heap.size (atR ms i)) := (hu1.alloc _).setRow (.inr hu1.size) _
  have hN2 := HN.out.upd hu2 (fun _ _ f => f)
  have c1 : ((w1.alloc (.cells zout 49)).setRow w1.heap.size (atR ms i)).cell? ⟨nb, 1, none⟩ = some (.slice sa ms.length sc) := hN2.blk.cell 1
  cases hin : inR ms i with
  | false =>
    have hok : dblOk ms i = false := by simp [dblOk, hin]
    go_wp2_with (first
      | (refine wpList_store_row rfl 49 (.tmp 5) (.tmp 11) rfl w1.heap.size (atR ms i) rfl rfl 49 zout hblk hri hri2 hr2 ?_))
    go_ret
    rw [hok, dbl_out hok]
    exact ⟨_, rfl, hN2, .inl rfl, hu2.mono (fun _ h => h.elim)⟩
  | true =>
    by_cases hm : ms.length < 4000
    · have hok : dblOk ms i = true := by simp [dblOk, hin, hm]
      have d4 : decide (4000 ≤ (ms.length : Int)) = false := by simp; omega
      go_wp2_with (first
        | (refine wpList_store_row rfl 49 (.tmp 5) (.tmp 11) rfl w1.heap.size (atR ms i) rfl rfl 49 zout hblk hri hri2 hr2 ?_))
      obtain ⟨W', hW'⟩ : ∃ W', (w1.alloc (.cells zout 49)).setRow w1.heap.size (atR ms i) = W' := ⟨_, rfl⟩
      rw [hW'] at hN2 b5 hu2 c1 ⊢
      clear hW' hblk
      have r5 := b5.range1
      refine wp_region_D (S := fun X => X.cell? ⟨nb, 1, none⟩ = some (.slice sa ms.length sc) ∧ X.rangeAt w1.heap.size 0 (atR ms i).toList ∧ Upd (fun k => (Value.slice sa ms.length sc).ownBlock = some k) W' X) 10 (by kernel_rfl) ?_
      have hS : W'.drew.cell? ⟨nb, 1, none⟩ = some (.slice sa ms.length sc) ∧ W'.drew.rangeAt w1.heap.size 0 (atR ms i).toList ∧ Upd (fun k => (Value.slice sa ms.length sc).ownBlock = some k) W' W'.drew := ⟨c1, r5, (Upd.refl _ _).drew⟩
      have K1 := Lib.hid hN2
      have K5 := Lib.hid b5
      obtain ⟨R, hR⟩ : ∃ R, atR ms i = R := ⟨_, rfl⟩
      rw [hR] at hr1 hr2 hri hri2 hS K5 ⊢
      clear c1 r5 hN2 b5
      refine wpAnyD_take (i := 0) (v := ?_) rfl (by kernel_rfl) (by kernel_rfl) (by kernel_rfl) (by kernel_rfl) (fun _ _ _ h => h) (Or.inl ⟨by rfl, ?_⟩) hS ?_
      rotate_left
      · rintro wx ⟨s1, s2, s3⟩
        go_simp
        with_reducible rfl
      try simp only [List.getElem_toArray, List.getElem_cons_succ, List.getElem_cons_zero, Act.put, List.setIfInBounds_toArray, List.set_cons_zero, List.set_cons_succ]
      refine wpAnyD_take (i := 1) (v := ?_) rfl (by kernel_rfl) (by kernel_rfl) (by kernel_rfl) (by kernel_rfl) (fun _ _ _ h => h) (Or.inl ⟨by rfl, ?_⟩) hS ?_
      rotate_left
      · rintro wx ⟨s1, s2, s3⟩
        go_simp
        with_reducible rfl
      try simp only [List.getElem_toArray, List.getElem_cons_succ, List.getElem_cons_zero, Act.put, List.setIfInBounds_toArray, List.set_cons_zero, List.set_cons_succ]
      refine wpAnyD_take (i := 2) (v := ?_) rfl (by kernel_rfl) (by kernel_rfl) (by kernel_rfl) (by kernel_rfl) (fun _ _ _ h => h) (Or.inl ⟨by rfl, ?_⟩) hS ?_
      rotate_left
      · rintro wx ⟨s1, s2, s3⟩
        go_simp
        with_reducible rfl
      try simp only [List.getElem_toArray, List.getElem_cons_succ, List.getElem_cons_zero, Act.put, List.setIfInBounds_toArray, List.set_cons_zero, List.set_cons_succ]
      refine wpAnyD_take (i := 3) (v := ?_) rfl (by kernel_rfl) (by kernel_rfl) (by kernel_rfl) (by kernel_rfl) (fun _ _ _ h => h) (Or.inl ⟨by rfl, ?_⟩) hS ?_
      rotate_left
      · rintro wx ⟨s1, s2, s3⟩
        go_simp
        with_reducible rfl
      try simp only [List.getElem_toArray, List.getElem_cons_succ, List.getElem_cons_zero, Act.put, List.setIfInBounds_toArray, List.set_cons_zero, List.set_cons_succ]
      refine wpAnyD_take (i := 4) (v := ?_) rfl (by kernel_rfl) (by kernel_rfl) (by kernel_rfl) (by kernel_rfl) (fun _ _ _ h => h) (Or.inl ⟨by rfl, ?_⟩) hS ?_
      rotate_left
      · rintro wx ⟨s1, s2, s3⟩
        go_simp
        with_reducible rfl
      try simp only [List.getElem_toArray, List.getElem_cons_succ, List.getElem_cons_zero, Act.put, List.setIfInBounds_toArray, List.set_cons_zero, List.set_cons_succ]
      refine wpAnyD_take (i := 5) (v := (.agg R)) rfl (by kernel_rfl) (by kernel_rfl) (by kernel_rfl) (by kernel_rfl) (fun _ _ _ h => h) (Or.inl ⟨by rfl, ?_⟩) hS ?_
      · rintro wx ⟨s1, s2, s3⟩
        refine run_load_mid 49 (.tmp 5) ?_ w1.heap.size 0 ?_ _ _ s2 Try.underlying49 ?_ ?_
        · rfl
        · rfl
        · rfl
        · exact hri
      try simp only [List.getElem_toArray, List.getElem_cons_succ, List.getElem_cons_zero, Act.put, List.setIfInBounds_toArray, List.set_cons_zero, List.set_cons_succ]
      obtain ⟨ie, hie, hiz, his, hib⟩ := info_parts pmail_info
      refine wpAnyD_one (i := 6) (by kernel_rfl) rfl rfl fun K hK => ?_
      refine wp_buildSlice 60 49 1 #[(0, .tmp 28)] rfl R ie (.agg zout) Try.underlying60 hie hiz (by rw [his]; decide) (by rw [his]; decide) ?_ ?_
      · rw [his]
        refine Eq.trans (congrArg (Instr.fill _ _) (a₂ := [(0, .agg R)]) ?_) (fill_one (n := 74) ?_ hr1)
        · simp [Act.eval]
        · rw [Array.size_map, Array.size_range]
      have hS6 : _ ∧ _ ∧ _ := put_alloc hS R 49
      refine hK _ _ (fun _ => hS6) ?_
      clear hK K
      try simp only [List.getElem_toArray, List.getElem_cons_succ, List.getElem_cons_zero, Act.put, List.setIfInBounds_toArray, List.set_cons_zero, List.set_cons_succ]
      refine wpAnyD_one (i := 7) (by kernel_rfl) rfl rfl fun K hK => ?_
      have hrow : (W'.drew.alloc (.cells R 49)).ownsRow 0 49 74 (.slice sa ms.length sc) ms.length (mcells ms) := (World.ownsRow.drew K1.out.row).alloc _
      refine wp_append_at (.tmp 27) (.tmp 29) 60 rfl 0 49 ie (.agg zout) 74 208 Try.underlying60 hie hiz his hib zout_size (by decide) (.slice sa ms.length sc) ms.length _ ?hs hrow ⟨W'.drew.heap.size, 0, none⟩ 1 1 R.toList ?hx ?hl ?hnews ?h1 ?b1 ?b2 (Nat.zero_le _) ?hk
      case hl => simp [hr1]
      case hnews =>
        intro j u hu
        have := (Blk.new W'.drew 49 R).range1 j u hu
        rw [Addr.add_mid]
        exact this
      case h1 => exact fun u hu => (Array.all_eq_true_iff_forall_mem.1 hr2) u (by simpa using hu)
      case b1 => unfold maxLen; omega
      case b2 => omega
      case hs => simp [Act.eval]
      case hx => simp [Act.eval]
      case hk =>
        intro v' w9 hown9 hg9 hb9
        have n1 : (Value.slice sa ms.length sc).ownBlock ≠ some nb := K1.out.ne
        have n3 : (Value.slice sa ms.length sc).ownBlock ≠ some w1.heap.size := by
          intro h
          have := (HN.out.row.lt _ h).2
          have := hu1.size
          omega
        have hS9 := put_grown hS6 hg9 n1 n3
        refine hK _ _ (fun _ => hS9) ?_
        clear hK K
        have hu9 : Upd (fun k => (Value.slice sa ms.length sc).ownBlock = some k) W' w9 := hS9.2.2
        have hbn : Blk w9 nb 67 #[.int .i64 n, .slice sa ms.length sc] := K1.out.blk.upd hu9 n1
        have hw1 : w9.cell? ⟨nb, 1, none⟩ = some (.slice sa ms.length sc) := hbn.cell 1
        have hw2 : w9.frozen? ⟨nb, 1, none⟩ = false := hbn.frozen 1
        obtain ⟨a9, c9, hv9⟩ : ∃ a c, v' = .slice a (ms.length + 1) c := own_form hown9
        subst hv9
        refine wpAnyD_one (i := 8) (by kernel_rfl) rfl rfl fun K hK => ?_
        go_simp
        refine hK _ _ (fun _ => hS9) ?_
        clear hK K
        refine wpAnyD_one (i := 9) (by kernel_rfl) rfl rfl fun K hK => ?_
        go_simp
        refine hK _ _ (fun _ => hS9) ?_
        clear hK K
        refine wpAnyD_one (i := 10) (by kernel_rfl) rfl rfl fun K hK => ?_
        go_simp
        refine hK _ _ (fun h => absurd rfl h) ?_
        clear hK K
        refine wpAnyD_done (by kernel_rfl) ?_ _
        refine NoPanic.normal ?_
        go_wp2_with fail
        go_ret
        rw [hok, dbl_len hok, dbl_cells hok, hR]
        have hnv : (Value.slice a9 (ms.length + 1) c9).ownBlock ≠ some nb := by
          rcases hb9 with h | h
          · rw [h]; exact n1
          · rw [h]
            intro e
            injection e with e
            have : nb < W'.heap.size := K1.out.blk.lt
            have e' : W'.heap.size + 1 = nb := by simpa using e
            omega
        have hsz := hu2.size
        refine ⟨.slice a9 (ms.length + 1) c9, rfl, ⟨hbn.set 1 _, ?_⟩, ?_, ?_⟩
        · exact ownsRow_setCell_other hown9 (a := ⟨nb, 1, none⟩) hnv (.slice a9 (ms.length + 1) c9)
        · rcases hb9 with h | h
          · exact .inl h
          · exact .inr ⟨_, h, by simp; omega⟩
        · exact (hu2.mono fun _ h => h.elim).trans ((hu9.mono fun k h => .inr h).setCell (.inl (.inl rfl)) _)
    · have hok : dblOk ms i = false := by simp [dblOk, hin, hm]
      have d4 : decide (4000 ≤ (ms.length : Int)) = true := by simp; omega
      go_wp2_with (first
        | (refine wpList_store_row rfl 49 (.tmp 5) (.tmp 11) rfl w1.heap.size (atR ms i) rfl rfl 49 zout hblk hri hri2 hr2 ?_))
      go_ret
      rw [hok, dbl_out hok]
      exact ⟨_, rfl, hN2, .inl rfl, hu2.mono (fun _ h => h.elim)⟩

/-- append onto a row of one's own: what lay there lies there still. -/
theorem run_append_keep {P : Program} (w : World) (base : Nat) (t ty e : TypeId) (i : TypeInfo) (z : Value) (size bytes : Nat) (ht : P.underlying t = some (.slice e)) (hi : P.info? e = some i) (hz : i.zero = some z)
    (hsize : i.size = size) (hby : i.bytes = bytes) (hzs : z.cells.size = size) (hsz : 0 < size)
    (g n cap0 : Nat) (xs : List Value) (hown : w.ownsRow base e size (.slice (some ⟨g, 0, none⟩) n cap0) n xs)
    (a : Addr) (m c : Nat) (news : List Value) (hl : news.length = m * size) (hnews : ∀ j u, news[j]? = some u → w.cell? (a.add j) = some u) (h1 : ∀ u ∈ news, u.oneCell' = true)
    (h63 : n + m ≤ maxLen) (hbytes : (n + m) * bytes ≤ 140737488355328) (hbase : base ≤ w.heap.size) :
    ∃ v' w', (Builtin.append_ #[t, t] ty #[.slice (some ⟨g, 0, none⟩) n cap0, .slice (some a) m c]).run P w = .ok v' w' ∧ w'.ownsRow base e size v' (n + m) (xs ++ news) ∧ w.grownBy w' (some g) ∧
      (v'.ownBlock = some g ∨ v'.ownBlock = some w.heap.size) ∧ w'.rangeAt g 0 xs := by
  obtain ⟨v', w', hrun, h2, h3, _, h5⟩ := run_append_own_at (P := P) w base t ty e i z size bytes ht hi hz hsize hby hzs hsz _ n xs hown a m c news hl hnews h1 h63 hbytes hbase
  refine ⟨v', w', hrun, h2, h3, h5, ?_⟩
  subst hsize
  subst hby
  have holds := hown.cells (g := g) rfl
  rcases hown.2 with ⟨hv, _⟩ | ⟨g', cap, cur, hv, hbg, hg, hnc, hcm, hcs, htake⟩
  · cases hv
  · injection hv with e1 e2 e3
    injection e1 with e1
    injection e1 with e1
    subst e1
    subst e3
    simp only [maxLen] at h63
    by_cases hroom : n + m ≤ cap0
    · have hfit : n * i.size + news.length ≤ cur.size := by rw [hl, hcs, ← Nat.add_mul]; exact Nat.mul_le_mul_right _ hroom
      have hr := run_append_room (P := P) w t ty e i ht hi g n cap0 cur hg a m c news hl hnews h1 hroom hfit
      rw [hr] at hrun
      injection hrun with e4 e5
      subst e4
      have hc := h2.cells (g := g) rfl
      intro j u hu
      have := hc j u (by rw [List.getElem?_append_left (List.getElem?_eq_some_iff.1 hu).1]; exact hu)
      rw [Addr.add_mid] at this
      exact this
    · have hr := run_append_grow (P := P) w t ty e i z ht hi hz ⟨g, 0, none⟩ n cap0 xs hown.1 holds a m c news hl hnews (by omega) (by omega) (growslice_fits (by omega) hbytes)
      rw [hr] at hrun
      injection hrun with e4 e5
      subst e5
      intro j u hu
      have := holds j u hu
      rw [Addr.add_mid] at this
      exact (World.cell?_alloc_lt w.drew _ _ (block_lt_of_cell this)).trans this

theorem wp_append_keep {P : Program} {o : Oper} {a : Act} {w : World} {K : Act → World → Prop} {Q : Exit → Act → World → Prop} (s x : Operand) (t : TypeId)
    (ho : o.op = .call { callee := .builtin .append, args := #[s, x], argTypes := #[t, t] })
    (base : Nat) (e : TypeId) (i : TypeInfo) (z : Value) (size bytes : Nat) (ht : P.underlying t = some (.slice e)) (hi : P.info? e = some i) (hz : i.zero = some z)
    (hsize : i.size = size) (hby : i.bytes = bytes) (hzs : z.cells.size = size) (hsz : 0 < size)
    (g n cap0 : Nat) (xs : List Value) (hs : a.eval s = .slice (some ⟨g, 0, none⟩) n cap0) (hown : w.ownsRow base e size (.slice (some ⟨g, 0, none⟩) n cap0) n xs)
    (ad : Addr) (m c : Nat) (news : List Value) (hx : a.eval x = .slice (some ad) m c) (hl : news.length = m * size) (hnews : ∀ j u, news[j]? = some u → w.cell? (ad.add j) = some u) (h1 : ∀ u ∈ news, u.oneCell' = true)
    (h63 : n + m ≤ maxLen) (hbytes : (n + m) * bytes ≤ 140737488355328) (hbase : base ≤ w.heap.size)
    (h : ∀ v' w', w'.ownsRow base e size v' (n + m) (xs ++ news) → w.grownBy w' (some g) → (v'.ownBlock = some g ∨ v'.ownBlock = some w.heap.size) → w'.rangeAt g 0 xs → K (a.put o.dst v') w') : o.wp P a w K Q := by
  obtain ⟨v', w', hrun, h2, h3, h4, h5⟩ := run_append_keep (P := P) w base t o.type e i z size bytes ht hi hz hsize hby hzs hsz g n cap0 xs hown ad m c news hl hnews h1 h63 hbytes hbase
  unfold Oper.wp execOp
  simp only [ho, resolve, invoke, builtin, Sem.run_bind, Sem.run_pure, Result.andThen_ok, List.map_toArray, List.map_cons, List.map_nil, hs, hx, hrun]
  exact h v' w' h2 h3 h4 h5

theorem range_sub {W : World} {g : Nat} {ms : List (Int × Array Value)} (hp : PlainL ms) (h : W.rangeAt g 0 (mcells ms)) {j : Nat} (hj : j < ms.length) : W.rangeAt g (j * 74) (#[Value.int .i64 ms[j].1] ++ ms[j].2).toList := by
  intro i x hx
  have := h _ x (mcells_get ms hp j hj i x hx)
  rwa [Nat.zero_add] at this

theorem own_range {W : World} {e : TypeId} {sv : Value} {ms : List (Int × Array Value)} (h : W.ownsRow 0 e 74 sv ms.length (mcells ms)) (hm : 0 < ms.length) :
    ∃ g cap, sv = .slice (some ⟨g, 0, none⟩) ms.length cap ∧ ms.length ≤ cap ∧ W.rangeAt g 0 (mcells ms) := by
  rcases h.2 with ⟨_, h0⟩ | ⟨g, cap, cur, hv, _, hh, hcap, _, hcs, htk⟩
  · omega
  · refine ⟨g, cap, hv, hcap, ?_⟩
    intro i x hx
    have := h.cells (g := g) (by rw [hv]; rfl) i x hx
    rwa [Addr.add_mid] at this

theorem keep_alloc {S : Nat → Prop} {W4 W : World} {g nb : Nat} {v : Value} {L : List Value} (h : W.cell? ⟨nb, 1, none⟩ = some v ∧ W.rangeAt g 0 L ∧ Upd S W4 W) (ms : Array Value) (t : TypeId) :
    (W.alloc (.cells ms t)).cell? ⟨nb, 1, none⟩ = some v ∧ (W.alloc (.cells ms t)).rangeAt g 0 L ∧ Upd S W4 (W.alloc (.cells ms t)) := put_alloc h ms t
/-- 'Double' of the reference. -/
theorem rdouble_any (nb n : Nat) (sv : Value) (ms : List (Int × Array Value)) (i : Int) (w : World) (hN : RefS w nb n sv ms.length (mcells ms)) (hp : PlainL ms) :
    Calls Try.prog 12 #[.pointer (some ⟨nb, 0, none⟩), .int .i64 i] w fun e w' => ∃ sv', e = .returned (.bool (dblOk ms i)) ∧ RefS w' nb n sv' (dbl ms i).length (mcells (dbl ms i)) ∧
      (sv'.ownBlock = sv.ownBlock ∨ ∃ k, sv'.ownBlock = some k ∧ w.heap.size ≤ k) ∧ Upd (netB nb sv) w w' := by
  obtain ⟨sa, sc, rfl⟩ := hN.form
  have c1 : w.cell? ⟨nb, 1, none⟩ = some (.slice sa ms.length sc) := hN.blk.cell 1
  obtain ⟨hr1, hr2⟩ := atR_row hp i
  by_cases h0 : 0 ≤ i
  · have d0 : decide (i < 0) = false := by simp; omega
    by_cases h1 : i < ms.length
    · have d1 : decide ((ms.length : Int) ≤ i) = false := by simp; omega
      have hin : inR ms i = true := by simp [inR, h0, h1]
      by_cases hm : ms.length < 4000
      · have hok : dblOk ms i = true := by simp [dblOk, hin, hm]
        have d4 : decide (4000 ≤ (ms.length : Int)) = false := by simp; omega
        have hlt : i.toNat < ms.length := by omega
        obtain ⟨g, cap, hsv, hcap, hrow⟩ := own_range hN.row (by omega)
        injection hsv with e1 e2 e3
        subst e1
        subst e3
        obtain ⟨k, rfl⟩ : ∃ k : Nat, i = k := ⟨i.toNat, by omega⟩
        have hlt : k < ms.length := hlt
        have hat : ∀ X : World, X.rangeAt g 0 (mcells ms) → X.rangeAt g (k * 74) (atR ms k).toList := fun X h => by
          rw [atR_in h0 (by omega)]; exact range_sub hp h hlt
        have d5 : decide (0 ≤ (k : Int)) = true := by simp
        have d6 : decide ((k : Int) < ms.length) = true := by simp; omega
        have hri : (Try.prog.info? 56).map (·.size) = some (atR ms k).size := by rw [hr1]; exact info_mails rmail_info
        go_enter Try.func12, Try.ntmps12
        go_wp2_with fail
        refine wp_region_D (S := fun X => X.cell? ⟨nb, 1, none⟩ = some (.slice (some ⟨g, 0, none⟩) ms.length sc) ∧ X.rangeAt g 0 (mcells ms) ∧ Upd (fun k => some g = some k) w X) 16 (by kernel_rfl) ?_
        have hS : w.drew.cell? ⟨nb, 1, none⟩ = some (.slice (some ⟨g, 0, none⟩) ms.length sc) ∧ w.drew.rangeAt g 0 (mcells ms) ∧ Upd (fun k => some g = some k) w w.drew := ⟨c1, hrow, (Upd.refl _ _).drew⟩
        have K1 := Lib.hid hN
        obtain ⟨R, hR⟩ : ∃ R, atR ms k = R := ⟨_, rfl⟩
        rw [hR] at hr1 hr2 hri hat
        clear c1 hN hrow
        refine wpAnyD_take (i := 0) (v := ?_) rfl (by kernel_rfl) (by kernel_rfl) (by kernel_rfl) (by kernel_rfl) (fun _ _ _ h => h) (Or.inl ⟨by rfl, ?_⟩) hS ?_
        rotate_left
        · rintro wx ⟨s1, s2, s3⟩
          go_simp
          with_reducible rfl
        try simp only [List.getElem_toArray, List.getElem_cons_succ, List.getElem_cons_zero, Act.put, List.setIfInBounds_toArray, List.set_cons_zero, List.set_cons_succ]
        refine wpAnyD_take (i := 1) (v := ?_) rfl (by kernel_rfl) (by kernel_rfl) (by kernel_rfl) (by kernel_rfl) (fun _ _ _ h => h) (Or.inl ⟨by rfl, ?_⟩) hS ?_
        rotate_left
        · rintro wx ⟨s1, s2, s3⟩
          go_simp
          with_reducible rfl
        try simp only [List.getElem_toArray, List.getElem_cons_succ, List.getElem_cons_zero, Act.put, List.setIfInBounds_toArray, List.set_cons_zero, List.set_cons_succ]
        refine wpAnyD_take (i := 2) (v := ?_) rfl (by kernel_rfl) (by kernel_rfl) (by kernel_rfl) (by kernel_rfl) (fun _ _ _ h => h) (Or.inl ⟨by rfl, ?_⟩) hS ?_
        rotate_left
        · rintro wx ⟨s1, s2, s3⟩
          go_simp
          with_reducible rfl
        try simp only [List.getElem_toArray, List.getElem_cons_succ, List.getElem_cons_zero, Act.put, List.setIfInBounds_toArray, List.set_cons_zero, List.set_cons_succ]
        refine wpAnyD_take (i := 3) (v := ?_) rfl (by kernel_rfl) (by kernel_rfl) (by kernel_rfl) (by kernel_rfl) (fun _ _ _ h => h) (Or.inl ⟨by rfl, ?_⟩) hS ?_
        rotate_left
        · rintro wx ⟨s1, s2, s3⟩
          go_simp
          with_reducible rfl
        try simp only [List.getElem_toArray, List.getElem_cons_succ, List.getElem_cons_zero, Act.put, List.setIfInBounds_toArray, List.set_cons_zero, List.set_cons_succ]
        refine wpAnyD_take (i := 4) (v := ?_) rfl (by kernel_rfl) (by kernel_rfl) (by kernel_rfl) (by kernel_rfl) (fun _ _ _ h => h) (Or.inl ⟨by rfl, ?_⟩) hS ?_
        rotate_left
        · rintro wx ⟨s1, s2, s3⟩
          go_simp
          with_reducible rfl
        try simp only [List.getElem_toArray, List.getElem_cons_succ, List.getElem_cons_zero, Act.put, List.setIfInBounds_toArray, List.set_cons_zero, List.set_cons_succ]
        refine wpAnyD_take (i := 5) (v := ?_) rfl (by kernel_rfl) (by kernel_rfl) (by kernel_rfl) (by kernel_rfl) (fun _ _ _ h => h) (Or.inl ⟨by rfl, ?_⟩) hS ?_
        rotate_left
        · rintro wx ⟨s1, s2, s3⟩
          go_simp
          with_reducible rfl
        try simp only [List.getElem_toArray, List.getElem_cons_succ, List.getElem_cons_zero, Act.put, List.setIfInBounds_toArray, List.set_cons_zero, List.set_cons_succ]
        refine wpAnyD_take (i := 6) (v := ?_) rfl (by kernel_rfl) (by kernel_rfl) (by kernel_rfl) (by kernel_rfl) (fun _ _ _ h => h) (Or.inl ⟨by rfl, ?_⟩) hS ?_
        rotate_left
        · rintro wx ⟨s1, s2, s3⟩
          go_simp
          with_reducible rfl
        try simp only [List.getElem_toArray, List.getElem_cons_succ, List.getElem_cons_zero, Act.put, List.setIfInBounds_toArray, List.set_cons_zero, List.set_cons_succ]
        refine wpAnyD_take (i := 7) (v := ?_) rfl (by kernel_rfl) (by kernel_rfl) (by kernel_rfl) (by kernel_rfl) (fun _ _ _ h => h) (Or.inl ⟨by rfl, ?_⟩) hS ?_
        rotate_left
        · rintro wx ⟨s1, s2, s3⟩
          go_simp
          with_reducible rfl
        try simp only [List.getElem_toArray, List.getElem_cons_succ, List.getElem_cons_zero, Act.put, List.setIfInBounds_toArray, List.set_cons_zero, List.set_cons_succ]
        refine wpAnyD_take (i := 8) (v := ?_) rfl (by kernel_rfl) (by kernel_rfl) (by kernel_rfl) (by kernel_rfl) (fun _ _ _ h => h) (Or.inl ⟨by rfl, ?_⟩) hS ?_
        rotate_left
        · rintro wx ⟨s1, s2, s3⟩
          go_simp
          with_reducible rfl
        try simp only [List.getElem_toArray, List.getElem_cons_succ, List.getElem_cons_zero, Act.put, List.setIfInBounds_toArray, List.set_cons_zero, List.set_cons_succ]
        refine wpAnyD_take (i := 9) (v := ?_) rfl (by kernel_rfl) (by kernel_rfl) (by kernel_rfl) (by kernel_rfl) (fun _ _ _ h => h) (Or.inl ⟨by rfl, ?_⟩) hS ?_
        rotate_left
        · rintro wx ⟨s1, s2, s3⟩
          go_simp
          with_reducible rfl
        try simp only [List.getElem_toArray, List.getElem_cons_succ, List.getElem_cons_zero, Act.put, List.setIfInBounds_toArray, List.set_cons_zero, List.set_cons_succ]
        refine wpAnyD_take (i := 10) (v := ?_) rfl (by kernel_rfl) (by kernel_rfl) (by kernel_rfl) (by kernel_rfl) (fun _ _ _ h => h) (Or.inl ⟨by rfl, ?_⟩) hS ?_
        rotate_left
        · rintro wx ⟨s1, s2, s3⟩
          go_simp
          with_reducible rfl
        try simp only [List.getElem_toArray, List.getElem_cons_succ, List.getElem_cons_zero, Act.put, List.setIfInBounds_toArray, List.set_cons_zero, List.set_cons_succ]
        refine wpAnyD_take (i := 11) (v := (.agg R)) rfl (by kernel_rfl) (by kernel_rfl) (by kernel_rfl) (by kernel_rfl) (fun _ _ _ h => h) (Or.inl ⟨by rfl, ?_⟩) hS ?_
        · rintro wx ⟨s1, s2, s3⟩
          refine run_load_mid 56 (.tmp 34) ?_ g (k * 74) ?_ _ _ (hat _ s2) Try.underlying56 ?_ ?_
          · rfl
          · rfl
          · rfl
          · exact hri
        try simp only [List.getElem_toArray, List.getElem_cons_succ, List.getElem_cons_zero, Act.put, List.setIfInBounds_toArray, List.set_cons_zero, List.set_cons_succ]
        obtain ⟨ie, hie, hiz, his, hib⟩ := info_parts rmail_info
        refine wpAnyD_one (i := 12) (by kernel_rfl) rfl rfl fun K hK => ?_
        refine wp_buildSlice 26 56 1 #[(0, .tmp 35)] rfl R ie (.agg zout) Try.underlying26 hie hiz (by rw [his]; decide) (by rw [his]; decide) ?_ ?_
        · rw [his]
          refine Eq.trans (congrArg (Instr.fill _ _) (a₂ := [(0, .agg R)]) ?_) (fill_one (n := 74) ?_ hr1)
          · simp [Act.eval]
          · rw [Array.size_map, Array.size_range]
        have hS12 : _ ∧ _ ∧ _ := put_alloc hS R 56
        refine hK _ _ (fun _ => hS12) ?_
        clear hK K
        try simp only [List.getElem_toArray, List.getElem_cons_succ, List.getElem_cons_zero, Act.put, List.setIfInBounds_toArray, List.set_cons_zero, List.set_cons_succ]
        refine wpAnyD_one (i := 13) (by kernel_rfl) rfl rfl fun K hK => ?_
        have hrow : (w.drew.alloc (.cells R 56)).ownsRow 0 56 74 (.slice (some ⟨g, 0, none⟩) ms.length sc) ms.length (mcells ms) := (World.ownsRow.drew K1.out.row).alloc _
        refine wp_append_keep (.tmp 28) (.tmp 36) 26 rfl 0 56 ie (.agg zout) 74 208 Try.underlying26 hie hiz his hib zout_size (by decide) g ms.length sc _ ?hs hrow ⟨w.drew.heap.size, 0, none⟩ 1 1 R.toList ?hx ?hl ?hnews ?h1 ?b1 ?b2 (Nat.zero_le _) ?hk
        case hl => simp [hr1]
        case hnews =>
          intro j u hu
          have := (Blk.new w.drew 56 R).range1 j u hu
          rw [Addr.add_mid]
          exact this
        case h1 => exact fun u hu => (Array.all_eq_true_iff_forall_mem.1 hr2) u (by simpa using hu)
        case b1 => unfold maxLen; omega
        case b2 => omega
        case hs => simp [Act.eval]
        case hx => simp [Act.eval]
        case hk =>
          intro v' w9 hown9 hg9 hb9 hk9
          have n1 : (Value.slice (some ⟨g, 0, none⟩) ms.length sc).ownBlock ≠ some nb := K1.out.ne
          have hu9 : Upd (fun k => some g = some k) w w9 := hS12.2.2.grown hg9 (fun k hk => .inl hk)
          have hbn : Blk w9 nb 28 #[.int .i64 n, .slice (some ⟨g, 0, none⟩) ms.length sc] := K1.out.blk.upd hu9 n1
          have hS9 : w9.cell? ⟨nb, 1, none⟩ = some (.slice (some ⟨g, 0, none⟩) ms.length sc) ∧ w9.rangeAt g 0 (mcells ms) ∧ Upd (fun k => some g = some k) w w9 := ⟨hbn.cell 1, hk9, hu9⟩
          refine hK _ _ (fun _ => hS9) ?_
          clear hK K
          have hw1 : w9.cell? ⟨nb, 1, none⟩ = some (.slice (some ⟨g, 0, none⟩) ms.length sc) := hbn.cell 1
          have hw2 : w9.frozen? ⟨nb, 1, none⟩ = false := hbn.frozen 1
          obtain ⟨a9, c9, hv9⟩ : ∃ a c, v' = .slice a (ms.length + 1) c := own_form hown9
          subst hv9
          refine wpAnyD_one (i := 14) (by kernel_rfl) rfl rfl fun K hK => ?_
          go_simp
          refine hK _ _ (fun _ => hS9) ?_
          clear hK K
          refine wpAnyD_one (i := 15) (by kernel_rfl) rfl rfl fun K hK => ?_
          go_simp
          refine hK _ _ (fun _ => hS9) ?_
          clear hK K
          refine wpAnyD_one (i := 16) (by kernel_rfl) rfl rfl fun K hK => ?_
          go_simp
          refine hK _ _ (fun h => absurd rfl h) ?_
          clear hK K
          refine wpAnyD_done (by kernel_rfl) ?_ _
          refine NoPanic.normal ?_
          go_wp2_with fail
          go_ret
          rw [hok, dbl_len hok, dbl_cells hok, hR]
          have hnv : (Value.slice a9 (ms.length + 1) c9).ownBlock ≠ some nb := by
            rcases hb9 with h | h
            · rw [h]; exact n1
            · rw [h]
              intro e
              injection e with e
              have : nb < w.heap.size := K1.out.blk.lt
              have e' : w.heap.size + 1 = nb := by simpa using e
              omega
          refine ⟨.slice a9 (ms.length + 1) c9, rfl, ⟨hbn.set 1 _, ?_⟩, ?_, ?_⟩
          · exact ownsRow_setCell_other hown9 (a := ⟨nb, 1, none⟩) hnv (.slice a9 (ms.length + 1) c9)
          · rcases hb9 with h | h
            · exact .inl h
            · exact .inr ⟨_, h, by simp⟩
          · exact (hu9.mono fun k h => .inr h).setCell (.inl (.inl rfl)) _
      · have hok : dblOk ms i = false := by simp [dblOk, hin, hm]
        have d4 : decide (4000 ≤ (ms.length : Int)) = true := by simp; omega
        go_enter Try.func12, Try.ntmps12
        go_wp2_with fail
        go_ret
        first
          | (rw [hok, dbl_out hok]; exact ⟨_, rfl, hN, .inl rfl, Upd.refl _ _⟩)
          | (rw [dbl_out hok]; exact ⟨rfl, _, hN, .inl rfl, Upd.refl _ _⟩)
    · have d1 : decide ((ms.length : Int) ≤ i) = true := by simp; omega
      have hok : dblOk ms i = false := by simp [dblOk, inR]; omega
      go_enter Try.func12, Try.ntmps12
      go_wp2_with fail
      go_ret
      first
        | (rw [hok, dbl_out hok]; exact ⟨_, rfl, hN, .inl rfl, Upd.refl _ _⟩)
        | (rw [dbl_out hok]; exact ⟨rfl, _, hN, .inl rfl, Upd.refl _ _⟩)
  · have d0 : decide (i < 0) = true := by simp; omega
    have hok : dblOk ms i = false := by simp [dblOk, inR]; omega
    go_enter Try.func12, Try.ntmps12
    go_wp2_with fail
    go_ret
    first
      | (rw [hok, dbl_out hok]; exact ⟨_, rfl, hN, .inl rfl, Upd.refl _ _⟩)
      | (rw [dbl_out hok]; exact ⟨rfl, _, hN, .inl rfl, Upd.refl _ _⟩)
end Go.Proofs.Ytdpnpkleobjkfaa
