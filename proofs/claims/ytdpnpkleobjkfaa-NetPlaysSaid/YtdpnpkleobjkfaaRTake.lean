/- Take of the reference. -/
import Derived.Test.YtdpnpkleobjkfaaTake
import Derived.Test.YtdpnpkleobjkfaaTwo
import Derived.Test.YtdpnpkleobjkfaaPath
namespace Go.Proofs.Ytdpnpkleobjkfaa
open Go.RowKit Go.Shelf
attribute [local go_sem] Oper.semAt_some
set_option maxRecDepth 100000
set_option maxHeartbeats 4000000
set_option linter.unusedSimpArgs false

/-- Whose blocks a network is, behind a method: some that it had, or new ones. -/
def Grew2 (w : World) (sv sv' : Value) : Prop := ∀ k, sv'.ownBlock = some k → sv.ownBlock = some k ∨ w.heap.size ≤ k
theorem Grew.two {w : World} {sv sv' : Value} (h : Grew w sv sv') : Grew2 w sv sv' := fun k hk => by
  rcases h with h | ⟨j, h, hj⟩
  · exact .inl (h.symm.trans hk)
  · rw [h] at hk; injection hk with hk; exact .inr (by omega)

theorem rmail_size' {cs : Array Value} (hp : cs.size = 74) : (Try.prog.info? 56).map (·.size) = some cs.size := by rw [hp]; exact info_mails rmail_info

theorem step_i64 (k : Nat) (h : k ≤ 9223372036854775806) : IntKind.i64.wrap ((k : Int) + 1) = (k : Int) + 1 := IntWalk.i64_in _ (by omega)

theorem part_one {ms : List (Int × Array Value)} (hp : PlainL ms) : ∀ u ∈ mcells ms, u.oneCell' = true := by
  intro u hu
  obtain ⟨p, hq, hm⟩ := List.mem_flatMap.1 hu
  rcases List.mem_cons.1 hm with rfl | hm
  · rfl
  · exact (Array.all_eq_true_iff_forall_mem.1 (hp p hq).one) u (by simpa using hm)

/-- 'Take' of the reference. -/
theorem rtakeM (nb n : Nat) (sv : Value) (ms : List (Int × Array Value)) (i : Int) (w : World) (hN : RefS w nb n sv ms.length (mcells ms)) (hp : PlainL ms) (hm : ms.length ≤ 4000) :
    Calls Try.prog 15 #[.pointer (some ⟨nb, 0, none⟩), .int .i64 i] w fun e w' => ∃ sv', e = .returned (.tuple #[.agg (atR ms i), .bool (inR ms i)]) ∧ RefS w' nb n sv' (tk ms i).length (mcells (tk ms i)) ∧
      Grew2 w sv sv' ∧ Upd (netB nb sv) w w' := by
  have hz := zero_rmail
  obtain ⟨hr1, hr2⟩ := atR_row hp i
  have hri := rmail_size' hr1
  have hri2 : zout.size = (atR ms i).size := by rw [hr1]; exact zout_size
  have hrz : (Try.prog.info? 56).map (·.size) = some zout.size := rmail_size' zout_size
  obtain ⟨sa, sc, rfl⟩ := hN.form
  have hu1 : Upd nob w (w.alloc (.cells zout 56)) := (Upd.refl nob w).alloc _
  have hN1 := hN.upd hu1 (fun _ _ f => f)
  have c1 : (w.alloc (.cells zout 56)).cell? ⟨nb, 1, none⟩ = some (.slice sa ms.length sc) := hN1.blk.cell 1
  have b4 := Blk.new w 56 zout
  have hl := hN.blk.lt
  have HN := Lib.hid hN
  clear hN
  cases hin : inR ms i with
  | false =>
    have htk : tk ms i = ms := by unfold tk; rw [hin]; rfl
    have hor : i < 0 ∨ (0 ≤ i ∧ (ms.length : Int) ≤ i) := by simp [inR] at hin; omega
    rw [htk, atR_out hin]
    have hb4 := b4.row zout
    have hu2 := hu1.setRow (.inr (Nat.le_refl w.heap.size)) zout
    rcases hor with h0 | ⟨h0, h1⟩
    · have d1 : decide (i < 0) = true := by simp [h0]
      go_enter Try.func15, Try.ntmps15
      go_wp2_with (first
        | (refine wpList_store_row rfl 56 (.tmp 4) (.tmp 18) rfl w.heap.size zout rfl rfl 56 zout b4 hrz rfl zout_one ?_))
      refine bodyPost_ret (results_blk_tmp rfl _ _ w.heap.size 56 zout _ rfl hb4 Try.underlying56 rfl hrz) rfl ?_
      exact ⟨_, rfl, HN.out.upd hu2 (fun _ _ f => f), fun k h => .inl h, hu2.mono (fun _ h => h.elim)⟩
    · have d1 : decide (i < 0) = false := by simp [h0]
      have d2 : decide ((ms.length : Int) ≤ i) = true := by simp [h1]
      go_enter Try.func15, Try.ntmps15
      go_wp2_with (first
        | (refine wpList_store_row rfl 56 (.tmp 4) (.tmp 18) rfl w.heap.size zout rfl rfl 56 zout b4 hrz rfl zout_one ?_))
      refine bodyPost_ret (results_blk_tmp rfl _ _ w.heap.size 56 zout _ rfl hb4 Try.underlying56 rfl hrz) rfl ?_
      exact ⟨_, rfl, HN.out.upd hu2 (fun _ _ f => f), fun k h => .inl h, hu2.mono (fun _ h => h.elim)⟩
  | true =>
    obtain ⟨h0, hlt⟩ := inR_lt hin
    obtain ⟨k, rfl⟩ : ∃ k : Nat, i = k := ⟨i.toNat, by omega⟩
    simp only [Int.toNat_natCast] at hlt
    have htk : tk ms k = ms.eraseIdx k := by unfold tk; rw [hin]; rfl
    have hle : (ms.eraseIdx k).length = ms.length - 1 := by rw [List.length_eraseIdx, if_pos hlt]
    rw [htk]
    have d1 : decide ((k : Int) < 0) = false := by simp
    have d2 : decide ((ms.length : Int) ≤ k) = false := by simp; omega
    have d3 : decide (0 ≤ (k : Int)) = true := by simp
    have d4 : decide ((k : Int) < ms.length) = true := by simp; omega
    obtain ⟨g, cap, hsv, hcap, hrg⟩ := own_range hN1.row (by omega)
    injection hsv with e1 e2 e3
    subst e1
    subst e3
    have hgl : g < w.heap.size := HN.out.lt g (.inr rfl)
    have hrow : (w.alloc (.cells zout 56)).rangeAt g (k * 74) (atR ms k).toList := by
      rw [atR_in h0 (by simpa using hlt)]; exact range_sub hp hrg hlt
    have hblk : Blk ((w.alloc (.cells zout 56)).alloc (.cells zout 56)) (w.heap.size + 1) 56 zout := by
      have := Blk.new (w.alloc (.cells zout 56)) 56 zout
      rwa [World.size_alloc] at this
    have b6 := hblk.row (atR ms k)
    have b4' := (b4.alloc (.cells zout 56)).rowFar (k := w.heap.size + 1) (by omega) (atR ms k)
    have hu2 := (hu1.alloc (.cells zout 56)).setRow (g := w.heap.size + 1) (.inr (by omega)) (atR ms k)
    have hN2 := HN.out.upd hu2 (fun _ _ f => f)
    have hsz2 : (((w.alloc (.cells zout 56)).alloc (.cells zout 56)).setRow (w.heap.size + 1) (atR ms k)).heap.size = w.heap.size + 2 := by simp
    clear hN1
    go_enter Try.func15, Try.ntmps15
    go_wp2_with (first
      | (refine wpList_mid rfl 56 (.tmp 24) rfl g (k * 74) rfl _ _ hrow Try.underlying56 rfl hri ?_)
      | (refine wpList_store_row rfl 56 (.tmp 6) (.tmp 25) rfl (w.heap.size + 1) (atR ms k) rfl rfl 56 zout hblk hri hri2 hr2 ?_))
    obtain ⟨W, hW⟩ : ∃ W, ((w.alloc (.cells zout 56)).alloc (.cells zout 56)).setRow (w.heap.size + 1) (atR ms k) = W := ⟨_, rfl⟩
    rw [hW] at b6 b4' hu2 hN2 hsz2 ⊢
    clear hW hblk c1 hrow hrg b4 hu1
    obtain ⟨g2, cap2, hsv2, _, hrg2⟩ := own_range hN2.row (by omega)
    injection hsv2 with e4 e5 e6
    injection e4 with e4
    injection e4 with e4
    subst e4
    clear e6 e5
    obtain ⟨M, hM⟩ : ∃ M, ms.length = M := ⟨_, rfl⟩
    have c2 : W.cell? ⟨nb, 1, none⟩ = some (.slice (some ⟨g, 0, none⟩) M sc) := by rw [← hM]; exact hN2.blk.cell 1
    obtain ⟨A, hA, hsrc⟩ : ∃ A : Addr, (if sc = k + 1 then some (⟨g, 0, none⟩ : Addr) else some ⟨g, (k + 1) * 74, none⟩) = some A ∧
        (∀ X : World, X.rangeAt g 0 (mcells ms) → ∀ t u, (mcells (ms.drop (k + 1)))[t]? = some u → X.cell? (A.add t) = some u) := by
      by_cases h : sc = k + 1
      · refine ⟨⟨g, 0, none⟩, by simp [h], fun X hX t u hu => ?_⟩
        have h0 : ms.drop (k + 1) = [] := List.drop_eq_nil_of_le (by omega)
        rw [h0] at hu
        simp [mcells] at hu
      · refine ⟨⟨g, (k + 1) * 74, none⟩, by simp [h], fun X hX t u hu => ?_⟩
        rw [← (mcells_take hp (k + 1) (by omega)).2, List.getElem?_drop] at hu
        rw [Addr.add_mid]
        have := hX _ u hu
        rwa [Nat.zero_add] at this
    have hsrc1 : ∀ X : World, X.rangeAt g 0 (mcells ms) → ∀ t u, (mcells (ms.take k))[t]? = some u → X.cell? ((⟨g, 0, none⟩ : Addr).add t) = some u := fun X hX t u hu => by
      rw [← (mcells_take hp k (by omega)).1, List.getElem?_take] at hu
      split at hu
      · rw [Addr.add_mid]; exact hX _ u hu
      · cases hu
    have hpt : PlainL (ms.take k) := fun p hq => hp p (List.mem_of_mem_take hq)
    have hpd : PlainL (ms.drop (k + 1)) := fun p hq => hp p (List.mem_of_mem_drop hq)
    have hlt1 : (mcells (ms.take k)).length = k * 74 := by rw [mcells_len _ hpt, List.length_take]; congr 1; omega
    have hld1 : (mcells (ms.drop (k + 1))).length = (M - (k + 1)) * 74 := by rw [mcells_len _ hpd, List.length_drop, hM]
    have hkM : k < M := by omega
    have hMc : M ≤ sc := by omega
    have hM4 : M ≤ 4000 := by omega
    obtain ⟨ie, hie, hiz, his, hib⟩ := info_parts rmail_info
    obtain ⟨R, hR⟩ : ∃ R, atR ms k = R := ⟨_, rfl⟩
    rw [hR] at hr1 hr2 hri hri2 b6 ⊢
    refine wp_region_P (by kernel_rfl) ?_
    refine wpAny_of_E (fun X => X.cell? ⟨nb, 1, none⟩ = some (.slice (some ⟨g, 0, none⟩) M sc) ∧ X.rangeAt g 0 (mcells ms) ∧ Upd nob W X) 18 _ _ _ _ ?_
    have hS : W.drew.cell? ⟨nb, 1, none⟩ = some (.slice (some ⟨g, 0, none⟩) M sc) ∧ W.drew.rangeAt g 0 (mcells ms) ∧ Upd nob W W.drew := ⟨c2, hrg2, (Upd.refl _ _).drew⟩
    have hic : k ≤ sc := by omega
    have hjc : k + 1 ≤ sc := by omega
    have hkw := step_i64 k (by omega)
    refine wpAnyE_take (i := 0) (v := ?_) [] rfl (by kernel_rfl) (fun _ _ _ h => h) (Or.inl ⟨by rfl, ?_⟩) hS ?_
    rotate_left
    · rintro wx ⟨s1, s2, s3⟩
      go_simp
      with_reducible rfl
    try simp only [List.getElem_toArray, List.getElem_cons_succ, List.getElem_cons_zero, Act.put, List.setIfInBounds_toArray, List.set_cons_zero, List.set_cons_succ]
    refine wpAnyE_take (i := 1) (v := ?_) [] rfl (by kernel_rfl) (fun _ _ _ h => h) (Or.inl ⟨by rfl, ?_⟩) hS ?_
    rotate_left
    · rintro wx ⟨s1, s2, s3⟩
      go_simp
      with_reducible rfl
    try simp only [List.getElem_toArray, List.getElem_cons_succ, List.getElem_cons_zero, Act.put, List.setIfInBounds_toArray, List.set_cons_zero, List.set_cons_succ]
    refine wpAnyE_take (i := 2) (v := ?_) [] rfl (by kernel_rfl) (fun _ _ _ h => h) (Or.inl ⟨by rfl, ?_⟩) hS ?_
    rotate_left
    · rintro wx ⟨s1, s2, s3⟩
      go_simp
      with_reducible rfl
    try simp only [List.getElem_toArray, List.getElem_cons_succ, List.getElem_cons_zero, Act.put, List.setIfInBounds_toArray, List.set_cons_zero, List.set_cons_succ]
    refine wpAnyE_take (i := 3) (v := ?_) [] rfl (by kernel_rfl) (fun _ _ _ h => h) (Or.inl ⟨by rfl, ?_⟩) hS ?_
    rotate_left
    · rintro wx ⟨s1, s2, s3⟩
      go_simp
      with_reducible rfl
    try simp only [List.getElem_toArray, List.getElem_cons_succ, List.getElem_cons_zero, Act.put, List.setIfInBounds_toArray, List.set_cons_zero, List.set_cons_succ]
    refine wpAnyE_take (i := 4) (v := ?_) [] rfl (by kernel_rfl) (fun _ _ _ h => h) (Or.inl ⟨by rfl, ?_⟩) hS ?_
    rotate_left
    · rintro wx ⟨s1, s2, s3⟩
      go_simp
      with_reducible rfl
    try simp only [List.getElem_toArray, List.getElem_cons_succ, List.getElem_cons_zero, Act.put, List.setIfInBounds_toArray, List.set_cons_zero, List.set_cons_succ]
    refine wpAnyE_take (i := 5) (v := ?_) [] rfl (by kernel_rfl) (fun _ _ _ h => h) (Or.inl ⟨by rfl, ?_⟩) hS ?_
    rotate_left
    · rintro wx ⟨s1, s2, s3⟩
      go_simp
      with_reducible rfl
    try simp only [List.getElem_toArray, List.getElem_cons_succ, List.getElem_cons_zero, Act.put, List.setIfInBounds_toArray, List.set_cons_zero, List.set_cons_succ]
    refine wpAnyE_take (i := 6) (v := ?_) [] rfl (by kernel_rfl) (fun _ _ _ h => h) (Or.inl ⟨by rfl, ?_⟩) hS ?_
    rotate_left
    · rintro wx ⟨s1, s2, s3⟩
      go_simp
      with_reducible rfl
    try simp only [List.getElem_toArray, List.getElem_cons_succ, List.getElem_cons_zero, Act.put, List.setIfInBounds_toArray, List.set_cons_zero, List.set_cons_succ]
    refine wpAnyE_take (i := 8) (v := ?_) [] rfl (by kernel_rfl) (fun _ _ _ h => h) (Or.inl ⟨by rfl, ?_⟩) hS ?_
    rotate_left
    · rintro wx ⟨s1, s2, s3⟩
      go_simp
      with_reducible rfl
    try simp only [List.getElem_toArray, List.getElem_cons_succ, List.getElem_cons_zero, Act.put, List.setIfInBounds_toArray, List.set_cons_zero, List.set_cons_succ]
    refine wpAnyE_take (i := 9) (v := ?_) [] rfl (by kernel_rfl) (fun _ _ _ h => h) (Or.inl ⟨by rfl, ?_⟩) hS ?_
    rotate_left
    · rintro wx ⟨s1, s2, s3⟩
      go_simp
      with_reducible rfl
    try simp only [List.getElem_toArray, List.getElem_cons_succ, List.getElem_cons_zero, Act.put, List.setIfInBounds_toArray, List.set_cons_zero, List.set_cons_succ]
    refine wpAnyE_take (i := 10) (v := ?_) [] rfl (by kernel_rfl) (fun _ _ _ h => h) (Or.inl ⟨by rfl, ?_⟩) hS ?_
    rotate_left
    · rintro wx ⟨s1, s2, s3⟩
      go_simp
      with_reducible rfl
    try simp only [List.getElem_toArray, List.getElem_cons_succ, List.getElem_cons_zero, Act.put, List.setIfInBounds_toArray, List.set_cons_zero, List.set_cons_succ]
    refine wpAnyE_take (i := 11) (v := ?_) [] rfl (by kernel_rfl) (fun _ _ _ h => h) (Or.inl ⟨by rfl, ?_⟩) hS ?_
    rotate_left
    · rintro wx ⟨s1, s2, s3⟩
      go_simp
      with_reducible rfl
    try simp only [List.getElem_toArray, List.getElem_cons_succ, List.getElem_cons_zero, Act.put, List.setIfInBounds_toArray, List.set_cons_zero, List.set_cons_succ]
    refine wpAnyE_take (i := 12) (v := ?_) [] rfl (by kernel_rfl) (fun _ _ _ h => h) (Or.inl ⟨by rfl, ?_⟩) hS ?_
    rotate_left
    · rintro wx ⟨s1, s2, s3⟩
      go_simp
      with_reducible rfl
    try simp only [List.getElem_toArray, List.getElem_cons_succ, List.getElem_cons_zero, Act.put, List.setIfInBounds_toArray, List.set_cons_zero, List.set_cons_succ]
    refine wpAnyE_take (i := 13) (v := ?_) [] rfl (by kernel_rfl) (fun _ _ _ h => h) (Or.inl ⟨by rfl, ?_⟩) hS ?_
    rotate_left
    · rintro wx ⟨s1, s2, s3⟩
      go_simp
      with_reducible rfl
    try simp only [List.getElem_toArray, List.getElem_cons_succ, List.getElem_cons_zero, Act.put, List.setIfInBounds_toArray, List.set_cons_zero, List.set_cons_succ]
    refine wpAnyE_take (i := 14) (v := (.slice (some A) (M - (k + 1)) (sc - (k + 1)))) [] rfl (by kernel_rfl) (fun _ _ _ h => h) (Or.inl ⟨by rfl, ?_⟩) hS ?_
    · rintro wx ⟨s1, s2, s3⟩
      go_simp
      exact fun h => absurd (h (by omega)) (by omega)
    try simp only [List.getElem_toArray, List.getElem_cons_succ, List.getElem_cons_zero, Act.put, List.setIfInBounds_toArray, List.set_cons_zero, List.set_cons_succ]
    have keepS : ∀ X Y : World, Upd nob X Y → (X.cell? ⟨nb, 1, none⟩ = some (.slice (some ⟨g, 0, none⟩) M sc) ∧ X.rangeAt g 0 (mcells ms) ∧ Upd nob W X) → (Y.cell? ⟨nb, 1, none⟩ = some (.slice (some ⟨g, 0, none⟩) M sc) ∧ Y.rangeAt g 0 (mcells ms) ∧ Upd nob W Y) :=
      fun X Y h ⟨a1, a2, a3⟩ => ⟨(h.cell (block_lt_of_cell a1) (fun f => f)).trans a1, fun j x hx => (h.cell (block_lt_of_cell (a2 j x hx)) (fun f => f)).trans (a2 j x hx), a3.trans h⟩
    refine wpAnyE_one (i := 7) (by kernel_rfl) (by kernel_rfl) rfl (by rfl) fun K hK => ?_
    refine wp_append_at (.const (.slice none 0 0)) (.tmp 32) 26 rfl 0 56 ie (.agg zout) 74 208 Try.underlying26 hie hiz his hib zout_size (by decide) (.slice none 0 0) 0 [] ?hs (World.ownsRow_nil _ _ _ _) ⟨g, 0, none⟩ k sc (mcells (ms.take k)) ?hx ?hl ?hnews ?h1 ?b1 ?b2 (Nat.zero_le _) ?hk
    case hl => exact hlt1
    case hnews => exact hsrc1 _ hS.2.1
    case h1 => exact part_one hpt
    case b1 => unfold maxLen; omega
    case b2 => omega
    case hs => simp [Act.eval]
    case hx => simp [Act.eval]
    case hk =>
    intro v7 w7 hown7 hg7 hb7
    have hu7 : Upd nob W.drew w7 := (Upd.refl nob _).grown hg7 (fun j hj => by simp [Value.ownBlock] at hj)
    have hS7 := keepS _ _ hu7 hS
    refine hK _ _ hS7 ?_
    clear hK K hS
    simp only [List.nil_append, Nat.zero_add] at hown7
    try simp only [List.getElem_toArray, List.getElem_cons_succ, List.getElem_cons_zero, Act.put, List.setIfInBounds_toArray, List.set_cons_zero, List.set_cons_succ]
    refine wpAnyE_one (i := 15) (by kernel_rfl) (by kernel_rfl) rfl (by rfl) fun K hK => ?_
    refine wp_append_at (.tmp 33) (.tmp 40) 26 rfl 0 56 ie (.agg zout) 74 208 Try.underlying26 hie hiz his hib zout_size (by decide) v7 k _ ?hs hown7 A (M - (k + 1)) (sc - (k + 1)) (mcells (ms.drop (k + 1))) ?hx ?hl ?hnews ?h1 ?b1 ?b2 (Nat.zero_le _) ?hk
    case hl => exact hld1
    case hnews => exact hsrc _ hS7.2.1
    case h1 => exact part_one hpd
    case b1 => unfold maxLen; omega
    case b2 => omega
    case hs => simp [Act.eval]
    case hx => simp [Act.eval]
    case hk =>
    intro v9 w9 hown9 hg9 hb9
    have hv7 : ∀ j, v7.ownBlock = some j → W.heap.size ≤ j := fun j hj => by
      rcases hb7 with h | h
      · rw [h] at hj; simp [Value.ownBlock] at hj
      · rw [h] at hj; injection hj with hj; rw [← hj]; exact Nat.le_refl _
    have hu79 : Upd nob W w9 := hS7.2.2.grown hg9 (fun j hj => .inr (hv7 j hj))
    have hS : w9.cell? ⟨nb, 1, none⟩ = some (.slice (some ⟨g, 0, none⟩) M sc) ∧ w9.rangeAt g 0 (mcells ms) ∧ Upd nob W w9 :=
      ⟨(hu79.cell (block_lt_of_cell c2) (fun f => f)).trans c2, fun j x hx => (hu79.cell (block_lt_of_cell (hrg2 j x hx)) (fun f => f)).trans (hrg2 j x hx), hu79⟩
    have hv9 : ∀ j, v9.ownBlock = some j → W.heap.size ≤ j := fun j hj => by
      rcases hb9 with h | h
      · exact hv7 j (h.symm.trans hj)
      · rw [h] at hj; injection hj with hj; have := hS7.2.2.size; omega
    refine hK _ _ hS ?_
    clear hK K hS7
    try simp only [List.getElem_toArray, List.getElem_cons_succ, List.getElem_cons_zero, Act.put, List.setIfInBounds_toArray, List.set_cons_zero, List.set_cons_succ]
    refine wpAnyE_take (i := 16) (v := ?_) [17] rfl (by kernel_rfl) (fun _ _ _ h => h) (Or.inl ⟨by rfl, ?_⟩) hS ?_
    rotate_left
    · rintro wx ⟨s1, s2, s3⟩
      go_simp
      with_reducible rfl
    try simp only [List.getElem_toArray, List.getElem_cons_succ, List.getElem_cons_zero, Act.put, List.setIfInBounds_toArray, List.set_cons_zero, List.set_cons_succ]
    refine wpAnyE_take (i := 17) (v := ?_) [] rfl (by kernel_rfl) (fun _ _ _ h => h) (Or.inl ⟨by rfl, ?_⟩) hS ?_
    rotate_left
    · rintro wx ⟨s1, s2, s3⟩
      go_simp
      with_reducible rfl
    try simp only [List.getElem_toArray, List.getElem_cons_succ, List.getElem_cons_zero, Act.put, List.setIfInBounds_toArray, List.set_cons_zero, List.set_cons_succ]
    have hbn : Blk w9 nb 28 #[.int .i64 n, .slice (some ⟨g, 0, none⟩) M sc] := by
      have := hN2.blk.upd hu79 (fun f => f)
      rwa [hM] at this
    have hw1 : w9.cell? ⟨nb, 1, none⟩ = some (.slice (some ⟨g, 0, none⟩) M sc) := hbn.cell 1
    have hw2 : w9.frozen? ⟨nb, 1, none⟩ = false := hbn.frozen 1
    have hkM1 : k + (M - (k + 1)) = M - 1 := by omega
    rw [hkM1, ← mcells_app, ← erase_eq] at hown9
    obtain ⟨a9, c9, hv9'⟩ : ∃ a c, v9 = .slice a (M - 1) c := own_form hown9
    subst hv9'
    refine wpAnyE_z (by kernel_rfl) rfl (by rfl) fun K hK => ?_
    go_simp
    refine hK _ _ ?_
    clear hK K
    try simp only [List.getElem_toArray, List.getElem_cons_succ, List.getElem_cons_zero, Act.put, List.setIfInBounds_toArray, List.set_cons_zero, List.set_cons_succ]
    refine wpAny_done (by kernel_rfl) ?_ _
    refine NoPanic.normal ?_
    have hnv : (Value.slice a9 (M - 1) c9).ownBlock ≠ some nb := fun h => by
      have := hv9 nb h
      omega
    have hN5 : RefS (w9.setCell ⟨nb, 1, none⟩ (.slice a9 (M - 1) c9)) nb n (.slice a9 (M - 1) c9) (M - 1) (mcells (ms.eraseIdx k)) :=
      ⟨hbn.set 1 _, ownsRow_setCell_other hown9 (a := ⟨nb, 1, none⟩) hnv _⟩
    have b6' : Blk (w9.setCell ⟨nb, 1, none⟩ (.slice a9 (M - 1) c9)) (w.heap.size + 1) 56 R := (b6.upd hu79 (fun f => f)).far (by simp; omega) _
    have b4'' : Blk (w9.setCell ⟨nb, 1, none⟩ (.slice a9 (M - 1) c9)) w.heap.size 56 zout := (b4'.upd hu79 (fun f => f)).far (by simp; omega) _
    go_wp2_with (first
      | (refine wpList_load_row rfl 56 (.tmp 6) rfl (w.heap.size + 1) rfl 56 R (0, 0) _ b6' Try.underlying56 rfl hri ?_)
      | (refine wpList_store_row rfl 56 (.tmp 4) (.tmp 44) rfl w.heap.size R rfl rfl 56 zout b4'' hri hri2 hr2 ?_))
    refine bodyPost_ret (results_blk_tmp rfl _ _ w.heap.size 56 R _ rfl (b4''.row _) Try.underlying56 rfl hri) rfl ?_
    have hu6 := (Upd.refl (fun j => j = w.heap.size) (w9.setCell ⟨nb, 1, none⟩ (.slice a9 (M - 1) c9))).setRow (.inl rfl) R
    try rw [hle]
    try rw [hM]
    refine ⟨rfl, .slice a9 (M - 1) c9, hN5.upd hu6 ?_, ?_, ?_⟩
    · rintro j (rfl | h)
      · omega
      · have := hv9 j h
        omega
    · exact fun j hj => .inr (by have := hv9 j hj; omega)
    · exact (((hu2.mono fun _ h => h.elim).trans (hu79.mono fun j h => h.elim)).setCell (.inl (.inl rfl)) _).setRow (.inr (Nat.le_refl _)) _
end Go.Proofs.Ytdpnpkleobjkfaa
