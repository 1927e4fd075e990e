/- Take of a network: slices.Delete of one mail. -/
import Derived.Test.YtdpnpkleobjkfaaDouble
namespace Go.Proofs.Ytdpnpkleobjkfaa
open Go.RowKit Go.Shelf
attribute [local go_sem] Oper.semAt_some
set_option maxRecDepth 100000
set_option maxHeartbeats 4000000
set_option linter.unusedSimpArgs false

theorem zoutl_len : zout.toList.length = 74 := by rw [Array.length_toList]; exact zout_size

/-- 'clear' of a slice of one struct. -/
theorem run_clear1 {P : Program} (w : World) (t e ty0 : TypeId) (zs : Array Value)
    (ht : P.underlying t = some (.slice e)) (hz : ∀ w, (zeroValue e).run P w = .ok (.agg zs) w) (h1 : zs.all (·.oneCell') = true)
    (g off c : Nat) (cur : Array Value) (ty : TypeId) (hg : Blk w g ty cur) (hfit : off + zs.size ≤ cur.size) :
    (Builtin.clear_ #[t] ty0 #[.slice (some ⟨g, off, none⟩) 1 c]).run P w = .ok (.tuple #[]) (w.setRow g (cur.toList.take off ++ zs.toList ++ cur.toList.drop (off + zs.size)).toArray) := by
  have hst := run_storeCells_at (P := P) g off ty zs.toList 0 cur w hg (by simpa using hfit) (fun v hv => (Array.all_eq_true_iff_forall_mem.1 h1) v (by simpa using hv))
  simp only [Nat.add_zero, Array.length_toList] at hst
  have hzc : (Builtin.zeroCells zs 1).toList = zs.toList := by
    unfold Builtin.zeroCells
    apply List.ext_getElem
    · simp
    · intro i h1 h2
      simp at h1
      simp [Nat.mod_eq_of_lt h1, getElem!_pos zs i h1]
  simp [Builtin.clear_, run_underlying ht, hz, hzc, hst, Value.cells]

theorem wp_append_room {P : Program} {o : Oper} {a : Act} {w : World} {K : Act → World → Prop} {Q : Exit → Act → World → Prop} (s x : Operand) (t : TypeId)
    (ho : o.op = .call { callee := .builtin .append, args := #[s, x], argTypes := #[t, t] })
    (e : TypeId) (i : TypeInfo) (ht : P.underlying t = some (.slice e)) (hi : P.info? e = some i)
    (g sLen sCap : Nat) (cur : Array Value) (hg : w.heap[g]? = some (.cells cur e (0, 0))) (hs : a.eval s = .slice (some ⟨g, 0, none⟩) sLen sCap)
    (ad : Addr) (m c : Nat) (news : List Value) (hx : a.eval x = .slice (some ad) m c) (hl : news.length = m * i.size) (hnews : ∀ j u, news[j]? = some u → w.cell? (ad.add j) = some u) (h1 : ∀ u ∈ news, u.oneCell' = true)
    (hroom : sLen + m ≤ sCap) (hfit : sLen * i.size + news.length ≤ cur.size)
    (h : K (a.put o.dst (.slice (some ⟨g, 0, none⟩) (sLen + m) sCap)) (w.setRow g (cur.toList.take (sLen * i.size) ++ news ++ cur.toList.drop (sLen * i.size + news.length)).toArray)) : o.wp P a w K Q := by
  have hrun := run_append_room (P := P) w t o.type e i ht hi g sLen sCap cur hg ad m c news hl hnews h1 hroom hfit
  unfold Oper.wp execOp
  simp only [ho, resolve, invoke, builtin, Sem.run_bind, Sem.run_pure, Result.andThen_ok, List.map_toArray, List.map_cons, List.map_nil, hs, hx, hrun]
  exact h

theorem mcells_take {ms : List (Int × Array Value)} (hp : PlainL ms) (i : Nat) (hi : i ≤ ms.length) : (mcells ms).take (i * 74) = mcells (ms.take i) ∧ (mcells ms).drop (i * 74) = mcells (ms.drop i) := by
  have e : mcells ms = mcells (ms.take i) ++ mcells (ms.drop i) := by rw [← mcells_app, List.take_append_drop]
  have hl : (mcells (ms.take i)).length = i * 74 := by
    rw [mcells_len _ (fun p hq => hp p (List.mem_of_mem_take hq)), List.length_take, Nat.min_eq_left hi]
  rw [e]
  exact ⟨List.take_left' hl, List.drop_left' hl⟩

theorem erase_eq (ms : List (Int × Array Value)) (i : Nat) : ms.eraseIdx i = ms.take i ++ ms.drop (i + 1) := List.eraseIdx_eq_take_drop_succ ms i

/-- slices.Delete of one mail. -/
theorem delete_one (g cap i : Nat) (ms : List (Int × Array Value)) (w : World) (hp : PlainL ms) (hi : i < ms.length) (h64 : ms.length ≤ 4000) (hown : w.ownsRow 0 49 74 (.slice (some ⟨g, 0, none⟩) ms.length cap) ms.length (mcells ms)) :
    Calls Try.prog 24 #[.slice (some ⟨g, 0, none⟩) ms.length cap, .int .i64 i, .int .i64 ((i : Int) + 1)] w fun e w' => e = .returned (.slice (some ⟨g, 0, none⟩) (ms.length - 1) cap) ∧
      w'.ownsRow 0 49 74 (.slice (some ⟨g, 0, none⟩) (ms.length - 1) cap) (ms.length - 1) (mcells (ms.eraseIdx i)) ∧ Upd (fun k => k = g) w w' := by
  have hz := zero_mail
  rcases hown.2 with ⟨hv, _⟩ | ⟨g', cap', cur, hv, _, hg, hcap, hcm, hcs, htk⟩
  · cases hv
  injection hv with e1 e2 e3
  injection e1 with e1
  injection e1 with e1
  subst e1
  subst e3
  simp only [maxLen] at hcm
  have hll := mcells_len ms hp
  obtain ⟨ie, hie, hiz, his, hib⟩ := info_parts pmail_info
  -- the mails that are moved to the left
  obtain ⟨news, hnews⟩ : ∃ news, mcells (ms.drop (i + 1)) = news := ⟨_, rfl⟩
  have hnl : news.length = (ms.length - (i + 1)) * 74 := by
    rw [← hnews, mcells_len _ (fun p hq => hp p (List.mem_of_mem_drop hq)), List.length_drop]
  have hn1 : ∀ u ∈ news, u.oneCell' = true := by
    intro u hu
    rw [← hnews] at hu
    obtain ⟨p, hq, hm⟩ := List.mem_flatMap.1 hu
    rcases List.mem_cons.1 hm with rfl | hm
    · rfl
    · exact (Array.all_eq_true_iff_forall_mem.1 (hp p (List.mem_of_mem_drop hq)).one) u (by simpa using hm)
  have hcur : ∀ j u, news[j]? = some u → cur[(i + 1) * 74 + j]? = some u := by
    intro j u hu
    rw [← hnews, ← (mcells_take hp (i + 1) (by omega)).2, List.getElem?_drop, ← htk, List.getElem?_take] at hu
    split at hu
    · simpa using hu
    · cases hu
  have dle : decide ((0 : Int) ≤ i) = true := by simp
  have hic : i ≤ cap := by omega
  have hjc : i + 1 ≤ cap := by omega
  obtain ⟨M, hM⟩ : ∃ M, ms.length = M := ⟨_, rfl⟩
  rw [hM] at hi hnl hcap
  obtain ⟨A, hA, hsrc⟩ : ∃ A : Addr, (if cap = i + 1 then some (⟨g, 0, none⟩ : Addr) else some ⟨g, (i + 1) * 74, none⟩) = some A ∧ (∀ t u, news[t]? = some u → w.drew.cell? (A.add t) = some u) := by
    by_cases h : cap = i + 1
    · refine ⟨⟨g, 0, none⟩, by simp [h], fun t u hu => ?_⟩
      have h0 : news.length = 0 := by rw [hnl]; omega
      rw [List.length_eq_zero_iff.1 h0] at hu
      simp at hu
    · refine ⟨⟨g, (i + 1) * 74, none⟩, by simp [h], fun t u hu => ?_⟩
      rw [Addr.add_mid]
      show w.cell? _ = _
      rw [cell_of_row w g _ cur _ _ hg]
      exact hcur t u hu
  go_enter Try.func24, Try.ntmps24
  go_wp2_with fail
  refine wp_region_D (S := fun _ => True) 7 (by kernel_rfl) ?_
  have hS : True := trivial
  refine wpAnyD_take (i := 0) (v := ?_) rfl (by kernel_rfl) (by kernel_rfl) (by kernel_rfl) (by kernel_rfl) (fun _ _ _ h => h) (Or.inl ⟨by rfl, ?_⟩) hS ?_
  rotate_left
  · rintro wx ⟨_⟩
    go_simp
    with_reducible rfl
  try simp only [List.getElem_toArray, List.getElem_cons_succ, List.getElem_cons_zero, Act.put, List.setIfInBounds_toArray, List.set_cons_zero, List.set_cons_succ]
  refine wpAnyD_take (i := 1) (v := ?_) rfl (by kernel_rfl) (by kernel_rfl) (by kernel_rfl) (by kernel_rfl) (fun _ _ _ h => h) (Or.inl ⟨by rfl, ?_⟩) hS ?_
  rotate_left
  · rintro wx ⟨_⟩
    go_simp
    with_reducible rfl
  try simp only [List.getElem_toArray, List.getElem_cons_succ, List.getElem_cons_zero, Act.put, List.setIfInBounds_toArray, List.set_cons_zero, List.set_cons_succ]
  refine wpAnyD_take (i := 2) (v := ?_) rfl (by kernel_rfl) (by kernel_rfl) (by kernel_rfl) (by kernel_rfl) (fun _ _ _ h => h) (Or.inl ⟨by rfl, ?_⟩) hS ?_
  rotate_left
  · rintro wx ⟨_⟩
    go_simp
    with_reducible rfl
  try simp only [List.getElem_toArray, List.getElem_cons_succ, List.getElem_cons_zero, Act.put, List.setIfInBounds_toArray, List.set_cons_zero, List.set_cons_succ]
  refine wpAnyD_take (i := 3) (v := ?_) rfl (by kernel_rfl) (by kernel_rfl) (by kernel_rfl) (by kernel_rfl) (fun _ _ _ h => h) (Or.inl ⟨by rfl, ?_⟩) hS ?_
  rotate_left
  · rintro wx ⟨_⟩
    go_simp
    with_reducible rfl
  try simp only [List.getElem_toArray, List.getElem_cons_succ, List.getElem_cons_zero, Act.put, List.setIfInBounds_toArray, List.set_cons_zero, List.set_cons_succ]
  refine wpAnyD_take (i := 4) (v := ?_) rfl (by kernel_rfl) (by kernel_rfl) (by kernel_rfl) (by kernel_rfl) (fun _ _ _ h => h) (Or.inl ⟨by rfl, ?_⟩) hS ?_
  rotate_left
  · rintro wx ⟨_⟩
    go_simp
    with_reducible rfl
  try simp only [List.getElem_toArray, List.getElem_cons_succ, List.getElem_cons_zero, Act.put, List.setIfInBounds_toArray, List.set_cons_zero, List.set_cons_succ]
  refine wpAnyD_take (i := 5) (v := (.slice (some A) (M - (i + 1)) (cap - (i + 1)))) rfl (by kernel_rfl) (by kernel_rfl) (by kernel_rfl) (by kernel_rfl) (fun _ _ _ h => h) (Or.inl ⟨by rfl, ?_⟩) hS ?_
  · rintro wx ⟨_⟩
    go_simp
    exact fun h => absurd (h (by omega)) (by omega)
  try simp only [List.getElem_toArray, List.getElem_cons_succ, List.getElem_cons_zero, Act.put, List.setIfInBounds_toArray, List.set_cons_zero, List.set_cons_succ]
  refine wpAnyD_one (i := 6) (by kernel_rfl) rfl rfl fun K hK => ?_
  refine wp_append_room (.tmp 22) (.tmp 25) 60 rfl 49 ie Try.underlying60 hie g i cap cur hg (by simp [Act.eval]) A (M - (i + 1)) (cap - (i + 1)) news (by simp [Act.eval]) (by rw [his]; exact hnl) hsrc hn1 (by omega) (by rw [his, hnl, hcs]; omega) ?_
  refine hK _ _ (fun _ => trivial) ?_
  clear hK K
  try simp only [List.getElem_toArray, List.getElem_cons_succ, List.getElem_cons_zero, Act.put, List.setIfInBounds_toArray, List.set_cons_zero, List.set_cons_succ]
  refine wpAnyD_one (i := 7) (by kernel_rfl) rfl rfl fun K hK => ?_
  go_simp
  refine hK _ _ (fun _ => trivial) ?_
  clear hK K
  try simp only [List.getElem_toArray, List.getElem_cons_succ, List.getElem_cons_zero, Act.put, List.setIfInBounds_toArray, List.set_cons_zero, List.set_cons_succ]
  refine wpAnyD_done (by kernel_rfl) ?_ _
  refine NoPanic.normal ?_
  obtain ⟨cur2, hc2⟩ : ∃ cur2, (List.take (i * 74) cur.toList ++ (news ++ List.drop (i * 74 + (M - (i + 1)) * 74) cur.toList)).toArray = cur2 := ⟨_, rfl⟩
  have hb2 : Blk (w.drew.setRow g cur2) g 49 cur2 := Blk.row (w := w.drew) (cs := cur) hg cur2
  have hs2 : cur2.size = cap * 74 := by
    rw [← hc2]
    simp only [List.size_toArray, List.length_append, List.length_take, List.length_drop, Array.length_toList, hcs, hnl]
    omega
  have ht2 : cur2.toList.take ((M - 1) * 74) = mcells (ms.eraseIdx i) := by
    have e1 : (List.take (i * 74) cur.toList) = mcells (ms.take i) := by
      rw [← (mcells_take hp i (by omega)).1, ← htk, List.take_take, Nat.min_eq_left (by omega)]
    rw [← hc2, List.toList_toArray, e1, erase_eq, mcells_app, ← List.append_assoc]
    rw [hnews]
    refine List.take_left' ?_
    rw [List.length_append, hnl, mcells_len _ (fun p hq => hp p (List.mem_of_mem_take hq)), List.length_take]
    omega
  have hM1 : i + (M - (i + 1)) = M - 1 := by omega
  rw [hc2, hM1]
  obtain ⟨W2, hW2⟩ : ∃ W2, w.drew.setRow g cur2 = W2 := ⟨_, rfl⟩
  have hu2 : Upd (fun k => k = g) w W2 := by rw [← hW2]; exact (Upd.refl (fun k => k = g) w).drew.setRow (.inl rfl) _
  rw [hW2] at hb2 ⊢
  have hne : ¬ cap = M - 1 := by omega
  have hs1 : M - (M - 1) = 1 := by omega
  have dm : ((M - 1 : Nat) : Int) ≤ M := by omega
  have hsl : (0 : Int) ≤ ((M - 1 : Nat) : Int) := by omega
  clear hA hsrc hcur hn1 hc2 hW2 htk hown hg
  have hcl : ∀ ty, (Builtin.clear_ #[60] ty #[.slice (some ⟨g, (M - 1) * 74, none⟩) 1 (cap - (M - 1))]).run Try.prog W2 = .ok (.tuple #[]) (W2.setRow g (cur2.toList.take ((M - 1) * 74) ++ zout.toList ++ cur2.toList.drop ((M - 1) * 74 + zout.size)).toArray) :=
    fun ty => run_clear1 W2 _ 49 ty zout Try.underlying60 hz zout_one g _ _ cur2 49 hb2 (by rw [zout_size, hs2]; omega)
  have hlen : ms.length - 1 = M - 1 := by omega
  obtain ⟨cur3, hc3⟩ : ∃ cur3, (cur2.toList.take ((M - 1) * 74) ++ zout.toList ++ cur2.toList.drop ((M - 1) * 74 + zout.size)).toArray = cur3 := ⟨_, rfl⟩
  rw [hc3] at hcl
  have hb3 : Blk (W2.setRow g cur3) g 49 cur3 := hb2.row cur3
  have hs3 : cur3.size = cap * 74 := by
    rw [← hc3]
    simp only [List.size_toArray, List.length_append, List.length_take, List.length_drop, Array.length_toList, hs2, zout_size]
    omega
  have ht3 : cur3.toList.take ((M - 1) * 74) = mcells (ms.eraseIdx i) := by
    rw [← hc3, List.toList_toArray, List.append_assoc, List.take_append_of_le_length (by simp [hs2]; omega), List.take_take, Nat.min_self, ht2]
  clear hc3
  go_wp2_with fail
  go_ret
  rw [hlen]
  refine ⟨rfl, ⟨?_, .inr ⟨g, cap, cur3, rfl, Nat.zero_le _, hb3, by omega, by unfold maxLen; omega, hs3, ht3⟩⟩, hu2.setRow (.inl rfl) _⟩
  have he : (ms.eraseIdx i).length = M - 1 := by rw [List.length_eraseIdx, if_pos (by omega), hM]
  rw [← he]
  exact mcells_len _ (fun p hq => hp p (List.mem_of_mem_eraseIdx hq))

/-- What is left. -/
def tk (ms : List (Int × Array Value)) (i : Int) : List (Int × Array Value) := if inR ms i then ms.eraseIdx i.toNat else ms
theorem tk_plain {ms : List (Int × Array Value)} (hp : PlainL ms) (i : Int) : PlainL (tk ms i) := by
  unfold tk
  split
  · exact fun p hq => hp p (List.mem_of_mem_eraseIdx hq)
  · exact hp
theorem tk_le {ms : List (Int × Array Value)} (i : Int) : (tk ms i).length ≤ ms.length := by
  unfold tk
  split
  · exact List.length_eraseIdx_le ..
  · exact Nat.le_refl _
theorem tk_len {ms : List (Int × Array Value)} {i : Int} (h : inR ms i = true) : (tk ms i).length = ms.length - 1 := by
  unfold tk
  rw [if_pos h, List.length_eraseIdx, if_pos (inR_lt h).2]

/-- 'Take' of a network. -/
theorem takeM (nb n : Nat) (sv : Value) (ms : List (Int × Array Value)) (i : Int) (w : World) (hN : NetS w nb n sv ms.length (mcells ms)) (hp : PlainL ms) (hm : ms.length ≤ 4000) :
    Calls Try.prog 14 #[.pointer (some ⟨nb, 0, none⟩), .int .i64 i] w fun e w' => ∃ sv', e = .returned (.tuple #[.agg (atR ms i), .bool (inR ms i)]) ∧ NetS w' nb n sv' (tk ms i).length (mcells (tk ms i)) ∧
      (sv'.ownBlock = sv.ownBlock ∨ ∃ k, sv'.ownBlock = some k ∧ w.heap.size ≤ k) ∧ Upd (netB nb sv) w w' := by
  have hz := zero_mail
  obtain ⟨hr1, hr2⟩ := atR_row hp i
  have hri : (Try.prog.info? 49).map (·.size) = some (atR ms i).size := by rw [hr1]; exact info_mails pmail_info
  have hri2 : zout.size = (atR ms i).size := by rw [hr1]; exact zout_size
  have HN := Lib.hid hN
  have hl := hN.blk.lt
  have hN0 := hN.upd ((Upd.refl nob w).alloc (.cells zout 49)) (fun _ _ f => f)
  have b4 := Blk.new w 49 zout
  go_enter Try.func14, Try.ntmps14
  go_wp2_with fail
  refine (at_any nb n _ ms i _ hN0 hp).mono ?_
  rintro e w1 ⟨rfl, hb1⟩
  have hu1 : Upd nob w w1 := ((Upd.refl nob w).alloc _).trans (Upd.of_below hb1)
  have b4' : Blk w1 w.heap.size 49 zout := b4.upd (Upd.of_below (S := nob) hb1) (fun f => f)
  have hblk := Blk.new w1 49 zout
  have b6 := hblk.row (atR ms i)
  have hu2 : Upd nob w ((w1.alloc (.cells zout 49)).setRow w1.heap.size (atR ms i)) := (hu1.alloc _).setRow (.inr hu1.size) _
  have b4'' : Blk ((w1.alloc (.cells zout 49)).setRow w1.heap.size (atR ms i)) w.heap.size 49 zout := (b4'.alloc _).rowFar (Nat.ne_of_lt b4'.lt) _
  have hN2 := HN.out.upd hu2 (fun _ _ f => f)
  clear hN hN0 b4 b4' hb1
  obtain ⟨W, hW⟩ : ∃ W, (w1.alloc (.cells zout 49)).setRow w1.heap.size (atR ms i) = W := ⟨_, rfl⟩
  cases hin : inR ms i with
  | false =>
    have htk : tk ms i = ms := by unfold tk; rw [hin]; rfl
    rw [hW] at b4'' hu2 hN2 b6
    go_wp2_with (first
      | (refine wpList_store_row rfl 49 (.tmp 6) (.tmp 12) rfl w1.heap.size (atR ms i) rfl rfl 49 zout hblk hri hri2 hr2 ?_; rw [hW])
      | (refine wpList_load_row rfl 49 (.tmp 6) rfl w1.heap.size rfl 49 (atR ms i) (0, 0) _ b6 Try.underlying49 rfl hri ?_)
      | (refine wpList_store_row rfl 49 (.tmp 4) (.tmp 26) rfl w.heap.size (atR ms i) rfl rfl 49 zout b4'' hri hri2 hr2 ?_))
    refine bodyPost_ret (results_blk_tmp rfl _ _ w.heap.size 49 (atR ms i) _ rfl (b4''.row _) Try.underlying49 rfl hri) rfl ?_
    have hu3 := hu2.setRow (.inr (Nat.le_refl w.heap.size)) (atR ms i)
    rw [htk, hin]
    exact ⟨_, rfl, HN.out.upd hu3 (fun _ _ f => f), .inl rfl, hu3.mono (fun _ h => h.elim)⟩
  | true =>
    obtain ⟨h0, hlt⟩ := inR_lt hin
    have htk : tk ms i = ms.eraseIdx i.toNat := by unfold tk; rw [hin]; rfl
    have hle : (ms.eraseIdx i.toNat).length = ms.length - 1 := by rw [List.length_eraseIdx, if_pos hlt]
    obtain ⟨k, rfl⟩ : ∃ k : Nat, i = k := ⟨i.toNat, by omega⟩
    simp only [Int.toNat_natCast] at hlt hle htk
    rw [hW] at b4'' hu2 hN2 b6
    obtain ⟨g, cap, rfl, hcap, _⟩ := own_range hN2.row (by omega)
    have hown := hN2.row
    have cb := hN2.blk
    have c1 : W.cell? ⟨nb, 1, none⟩ = some (.slice (some ⟨g, 0, none⟩) ms.length cap) := cb.cell 1
    go_wp2_with (first
      | (refine wpList_store_row rfl 49 (.tmp 6) (.tmp 12) rfl w1.heap.size (atR ms k) rfl rfl 49 zout hblk hri hri2 hr2 ?_; rw [hW]))
    refine (delete_one g cap k ms W hp hlt hm hown).mono ?_
    rintro e w9 ⟨rfl, hown9, hu9⟩
    have hgl : g < w.heap.size := HN.out.lt g (.inr rfl)
    have hng : nb ≠ g := fun h => HN.out.ne (by rw [h]; rfl)
    have hl1 : w.heap.size ≤ w1.heap.size := hu1.size
    have hbn : Blk w9 nb 67 #[.int .i64 n, .slice (some ⟨g, 0, none⟩) ms.length cap] := cb.upd hu9 hng
    have hw1 : w9.cell? ⟨nb, 1, none⟩ = some (.slice (some ⟨g, 0, none⟩) ms.length cap) := hbn.cell 1
    have hw2 : w9.frozen? ⟨nb, 1, none⟩ = false := hbn.frozen 1
    have b6' : Blk (w9.setCell ⟨nb, 1, none⟩ (.slice (some ⟨g, 0, none⟩) (ms.length - 1) cap)) w1.heap.size 49 (atR ms k) := (b6.upd hu9 (by omega)).far (by simp; omega) _
    have b4' : Blk (w9.setCell ⟨nb, 1, none⟩ (.slice (some ⟨g, 0, none⟩) (ms.length - 1) cap)) w.heap.size 49 zout := (b4''.upd hu9 (by omega)).far (by simp; omega) _
    have hN5 : NetS (w9.setCell ⟨nb, 1, none⟩ (.slice (some ⟨g, 0, none⟩) (ms.length - 1) cap)) nb n (.slice (some ⟨g, 0, none⟩) (ms.length - 1) cap) (ms.length - 1) (mcells (ms.eraseIdx k)) :=
      ⟨hbn.set 1 _, ownsRow_setCell_other hown9 (a := ⟨nb, 1, none⟩) (by simp [Value.ownBlock]; omega) _⟩
    go_wp2_with (first
      | (refine wpList_load_row rfl 49 (.tmp 6) rfl w1.heap.size rfl 49 (atR ms k) (0, 0) _ b6' Try.underlying49 rfl hri ?_)
      | (refine wpList_store_row rfl 49 (.tmp 4) (.tmp 26) rfl w.heap.size (atR ms k) rfl rfl 49 zout b4' hri hri2 hr2 ?_))
    refine bodyPost_ret (results_blk_tmp rfl _ _ w.heap.size 49 (atR ms k) _ rfl (b4'.row _) Try.underlying49 rfl hri) rfl ?_
    have hu6 := (Upd.refl (fun j => j = w.heap.size) (w9.setCell ⟨nb, 1, none⟩ (.slice (some ⟨g, 0, none⟩) (ms.length - 1) cap))).setRow (.inl rfl) (atR ms k)
    rw [htk, hin, hle]
    refine ⟨_, rfl, hN5.upd hu6 ?_, .inl rfl, ?_⟩
    · rintro j (rfl | h)
      · omega
      · have : g = j := by simpa [Value.ownBlock] using h
        omega
    · exact (((hu2.mono fun _ h => h.elim).trans (hu9.mono fun j h => .inr (by rw [h]; rfl))).setCell (.inl (.inl rfl)) _).setRow (.inr (Nat.le_refl _)) _
end Go.Proofs.Ytdpnpkleobjkfaa
