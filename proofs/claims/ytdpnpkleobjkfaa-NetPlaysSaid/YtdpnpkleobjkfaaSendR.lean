/- One round of Send's loop over its outs, whatever follows. -/
import Derived.Test.YtdpnpkleobjkfaaRTake
namespace Go.Proofs.Ytdpnpkleobjkfaa
open Go.RowKit Go.Shelf
attribute [local go_sem] Oper.semAt_some
set_option maxRecDepth 100000
set_option maxHeartbeats 4000000
set_option linter.unusedSimpArgs false
set_option linter.unusedVariables false

/-- The first loop's body. -/
def loopOf : Code → Option Code
  | .seq a b => (loopOf a).orElse fun _ => loopOf b
  | .block _ c => loopOf c
  | .loop c => some c
  | _ => none

theorem send_round (body : Code) (hbody : (Try.f8.body).bind loopOf = some body) (nb n : Nat) (src to : Int) (sv : Value) (m : Nat) (xs : List Value) (cs : Array Value) (ob cap L j bb : Nat) (w : World) (hn : n ≤ 64) (hm : m ≤ 4000) (hN : NetS w nb n sv m xs) (hp : Plain cs) (hjL : j < L) (hL : L ≤ 1000)
    (ho : w.rangeAt ob (j * 74) (#[Value.int .i64 to] ++ cs).toList) (hbb : Blk w bb 23 #[.pointer (some ⟨nb, 0, none⟩)]) (hbn : bb ≠ nb)
    (m0 : Int) (f4 f5 f8 f12 f13 f14 f15 f16 f17 f18 f65 f66 f67 f68 f69 f70 f71 u9 u10 u11 u22 u23 u24 u25 u26 u27 u28 u29 u30 u31 u32 u33 u34 u35 u36 u37 u38 u39 u40 u41 u42 u43 u44 u45 u46 u47 u48 u49 u50 u51 u52 u53 u54 u55 u56 u57 u58 u59 u60 u61 u62 u63 u64 : Value) (ds : List Deferred) (Q : Exit → Act → World → Prop)
    (hQ : ∀ (v9 v10 v11 v22 v23 v24 v25 v26 v27 v28 v29 v30 v31 v32 v33 v34 v35 v36 v37 v38 v39 v40 v41 v42 v43 v44 v45 v46 v47 v48 v49 v50 v51 v52 v53 v54 v55 v56 v57 v58 v59 v60 v61 v62 v63 v64 : Value) (ds' : List Deferred) (W' : World) (sv' : Value), (ds' = ds ∨ ∃ e, ds' = { target := .collected e, args := #[] } :: ds ∧ W'.heap[e]? = some (.deferred (some [])) ∧ w.heap.size ≤ e ∧ ¬ netB nb sv' e) →
      NetS W' nb n sv' (m + (sent src to n m).length) (xs ++ mails cs (sent src to n m)) → Grew w sv sv' → Upd (netB nb sv) w W' → Blk W' bb 23 #[.pointer (some ⟨nb, 0, none⟩)] →
      Q .normal { tmps := #[.pointer (some ⟨nb, 0, none⟩), .int .i64 src, .slice (some ⟨ob, 0, none⟩) L cap, .pointer (some ⟨bb, 0, none⟩), f4, f5, .int .i64 0, .int .i64 m0, f8, v9, v10, v11, f12, f13, f14, f15, f16, f17, f18, .slice (some ⟨ob, 0, none⟩) L cap, .int .i64 L, .int .i64 ((j : Int) + 1), v22, v23, v24, v25, v26, v27, v28, v29, v30, v31, v32, v33, v34, v35, v36, v37, v38, v39, v40, v41, v42, v43, v44, v45, v46, v47, v48, v49, v50, v51, v52, v53, v54, v55, v56, v57, v58, v59, v60, v61, v62, v63, v64, f65, f66, f67, f68, f69, f70, f71], defers := ds' } W') :
    body.wpIn Fence.wide 0 Try.prog Q { tmps := #[.pointer (some ⟨nb, 0, none⟩), .int .i64 src, .slice (some ⟨ob, 0, none⟩) L cap, .pointer (some ⟨bb, 0, none⟩), f4, f5, .int .i64 0, .int .i64 m0, f8, u9, u10, u11, f12, f13, f14, f15, f16, f17, f18, .slice (some ⟨ob, 0, none⟩) L cap, .int .i64 L, .int .i64 ((j : Nat)), u22, u23, u24, u25, u26, u27, u28, u29, u30, u31, u32, u33, u34, u35, u36, u37, u38, u39, u40, u41, u42, u43, u44, u45, u46, u47, u48, u49, u50, u51, u52, u53, u54, u55, u56, u57, u58, u59, u60, u61, u62, u63, u64, f65, f66, f67, f68, f69, f70, f71], defers := ds } w := by
  obtain ⟨sa, sc, hsv⟩ : ∃ a c, sv = .slice a m c := by
    rcases hN.row.2 with ⟨rfl, rfl⟩ | ⟨g, cap, cur, rfl, _⟩
    · exact ⟨_, _, rfl⟩
    · exact ⟨_, _, rfl⟩
  subst hsv
  have hdj : decide ((j : Int) < L) = true := by simp [hjL]
  have hd0 : decide (0 ≤ (j : Int)) = true := by simp
  have hjw := step_i64 j (by omega)
  have e0 : w.cell? ⟨nb, 0, none⟩ = some (.int .i64 n) := hN.blk.cell 0
  simp only [Try.f8, loopOf, Option.bind, Option.orElse, Option.some.injEq] at hbody
  subst hbody
  have hz := zero_out
  have hsz : (Try.prog.info? 40).map (·.size) = some (#[Value.int .i64 to] ++ cs).size := by rw [Array.size_append, hp.size]; exact out_size
  have hsz2 : zout.size = (#[Value.int .i64 to] ++ cs).size := by rw [Array.size_append, hp.size]; exact zout_size
  have hone : (#[Value.int .i64 to] ++ cs).all (·.oneCell') = true := by rw [Array.all_append, hp.one]; simp [Value.oneCell']
  have hblk : Blk (w.alloc (.cells zout 40)) w.heap.size 40 zout := Blk.new _ _ _
  have hu1 : Upd nob w ((w.alloc (.cells zout 40)).setRow w.heap.size (#[Value.int .i64 to] ++ cs)) := ((Upd.refl nob w).alloc _).setRow (.inr (Nat.le_refl _)) _
  have b9 := hblk.row (#[Value.int .i64 to] ++ cs)
  have b3 : Blk _ bb 23 #[.pointer (some ⟨nb, 0, none⟩)] := hbb.upd hu1 (fun f => f)
  have hz1 : ((w.alloc (.cells zout 40)).setRow w.heap.size (#[Value.int .i64 to] ++ cs)).heap.size = w.heap.size + 1 := by simp
  gi_wp2_with (first
    | (refine wpListIn_load_mid .out rfl 40 (.tmp 23) rfl ob (j * 74) rfl (#[Value.int .i64 to] ++ cs) _ ho Try.underlying40 rfl hsz ?_)
    | (refine wpListIn_store_blk .out rfl 40 (.tmp 9) (.tmp 24) rfl rfl w.heap.size (#[Value.int .i64 to] ++ cs) rfl rfl 40 zout hblk hsz hsz2 hone ?_))
  obtain ⟨W1, hW1⟩ : ∃ W1, ((w.alloc (.cells zout 40)).setRow w.heap.size (#[Value.int .i64 to] ++ cs)) = W1 := ⟨_, rfl⟩
  obtain ⟨og, hog⟩ : ∃ og, w.heap.size = og := ⟨_, rfl⟩
  rw [hW1] at hu1 b9 b3 hz1 ⊢
  rw [hog] at b9 ⊢
  clear hW1 hblk hsz hsz2 hone hz ho
  have hN1 : NetS W1 nb n (.slice sa m sc) m xs := hN.upd hu1 (fun _ _ f => f)
  have d9 : W1.cell? ⟨og, 0, none⟩ = some (.int .i64 to) := (b9.cell 0).trans (by rw [Array.getElem?_append_left (by simp)]; rfl)
  have d3 : W1.cell? ⟨bb, 0, none⟩ = some (.pointer (some ⟨nb, 0, none⟩)) := b3.cell 0
  have e0 : W1.cell? ⟨nb, 0, none⟩ = some (.int .i64 n) := hN1.blk.cell 0
  have e1 : W1.cell? ⟨nb, 1, none⟩ = some (.slice sa m sc) := hN1.blk.cell 1
  have HQ := Lib.hid @hQ
  clear hQ
  by_cases hto : -1 ≤ to ∧ to < n
  case neg =>
    have hnone : sent src to n m = [] := by
      rcases Int.lt_or_le to (-1) with h | h
      · exact sent_none n src to m h
      · unfold sent
        rw [filter_to src to (by omega), if_neg (by omega)]; simp
    by_cases hlow : to < -1
    · have g1 : decide (to < -1) = true := by simp [hlow]
      refine wpIn_of_wp ?_
      go_quiet (fail)
      obtain ⟨W2, hW2⟩ : ∃ W2, W1.drewN nq = W2 := ⟨_, rfl⟩
      have hu2 : Upd nob w W2 := by rw [← hW2]; exact ⟨hu1.os, hu1.tape, hu1.output, hu1.size, hu1.block⟩
      have b3' : Blk W2 bb 23 #[.pointer (some ⟨nb, 0, none⟩)] := by rw [← hW2]; exact b3
      rw [hW2]
      gi_wp2_with fail
      refine HQ.out _ _ _ _ _ _ _ _ _ _ _ _ _ _ _ _ _ _ _ _ _ _ _ _ _ _ _ _ _ _ _ _ _ _ _ _ _ _ _ _ _ _ _ _ _ _  ds W2 (.slice sa m sc) (.inl rfl) ?_ (.inl rfl) (hu2.mono fun _ h => h.elim) b3'
      rw [hnone]
      simpa [mails] using hN.upd hu2 (fun _ _ f => f)
    · have g1 : decide (to < -1) = false := by simp; omega
      have g2 : decide ((n : Int) ≤ to) = true := by simp; omega
      refine wpIn_of_wp ?_
      go_quiet (fail)
      obtain ⟨W2, hW2⟩ : ∃ W2, W1.drewN nq = W2 := ⟨_, rfl⟩
      have hu2 : Upd nob w W2 := by rw [← hW2]; exact ⟨hu1.os, hu1.tape, hu1.output, hu1.size, hu1.block⟩
      have b3' : Blk W2 bb 23 #[.pointer (some ⟨nb, 0, none⟩)] := by rw [← hW2]; exact b3
      rw [hW2]
      gi_wp2_with fail
      refine HQ.out _ _ _ _ _ _ _ _ _ _ _ _ _ _ _ _ _ _ _ _ _ _ _ _ _ _ _ _ _ _ _ _ _ _ _ _ _ _ _ _ _ _ _ _ _ _  ds W2 (.slice sa m sc) (.inl rfl) ?_ (.inl rfl) (hu2.mono fun _ h => h.elim) b3'
      rw [hnone]
      simpa [mails] using hN.upd hu2 (fun _ _ f => f)
  obtain ⟨htn, htm⟩ := hto
  have g1 : decide (to < -1) = false := by simp; omega
  have g2 : decide ((n : Int) ≤ to) = false := by simp; omega
  have hbl := hbb.lt
  refine wpIn_of_wp ?_
  go_quiet (fail)
  obtain ⟨W2, hW2⟩ : ∃ W2, W1.drewN nq = W2 := ⟨_, rfl⟩
  have hu2 : Upd nob w W2 := by rw [← hW2]; exact ⟨hu1.os, hu1.tape, hu1.output, hu1.size, hu1.block⟩
  have b9 : Blk W2 og 40 (#[.int .i64 to] ++ cs) := by rw [← hW2]; exact b9
  have b3 : Blk W2 bb 23 #[.pointer (some ⟨nb, 0, none⟩)] := by rw [← hW2]; exact b3
  have hz2 : W2.heap.size = w.heap.size + 1 := by rw [← hW2]; exact hz1
  rw [hW2]
  clear hW2 hu1 hN1 d9 d3 e0 e1 hz1
  have hrng := b9.range2
  have hz := zero_msg
  have hblk : Blk (W2.alloc (.cells zmsg 38)) W2.heap.size 38 zmsg := Blk.new _ _ _
  gi_wp2_with (first
    | (refine wpListIn_load_mid .out rfl 38 (.tmp 37) rfl og 1 rfl cs _ hrng Try.underlying38 rfl (by rw [hp.size]; exact info_msg) ?_))
  refine viaCalls (own_plain cs _ hp) ?_
  rintro e w3 ⟨rfl, hb3⟩
  have hu3 : Upd nob w w3 := hu2.trans (Upd.of_below hb3)
  have hs3 : w.heap.size + 1 ≤ w3.heap.size := by have := hb3.size; omega
  have b9 : Blk w3 og 40 (#[.int .i64 to] ++ cs) := b9.below hb3 (by omega)
  have b3 : Blk w3 bb 23 #[.pointer (some ⟨nb, 0, none⟩)] := b3.below hb3 (by omega)
  clear hb3 hblk hrng
  have hblk : Blk (w3.alloc (.cells zmsg 38)) w3.heap.size 38 zmsg := Blk.new _ _ _
  gi_wp2_with (first
    | (refine wpListIn_store_blk .out rfl 38 (.tmp 10) (.tmp 39) rfl rfl w3.heap.size cs rfl rfl 38 zmsg hblk (by rw [hp.size]; exact info_msg) (by rw [hp.size]; exact zmsg_size) hp.one ?_))
  have hu4 : Upd nob w ((w3.alloc (.cells zmsg 38)).setRow w3.heap.size cs) := (hu3.alloc _).setRow (.inr hu3.size) _
  have b10 := hblk.row cs
  have b9 := (b9.alloc (.cells zmsg 38)).rowFar (k := w3.heap.size) (by omega) cs
  have b3 := (b3.alloc (.cells zmsg 38)).rowFar (k := w3.heap.size) (by omega) cs
  obtain ⟨W4, hW4⟩ : ∃ W4, (w3.alloc (.cells zmsg 38)).setRow w3.heap.size cs = W4 := ⟨_, rfl⟩
  rw [hW4] at hu4 b10 b9 b3 ⊢
  obtain ⟨mb, hmb⟩ : ∃ mb, w3.heap.size = mb := ⟨_, rfl⟩
  rw [hmb] at b10 hs3 ⊢
  clear hW4 hblk hu3 hu2 hz hmb
  have hN4 : NetS W4 nb n (.slice sa m sc) m xs := hN.upd hu4 (fun _ _ f => f)
  refine wpIn_of_wp ?_
  have r9 := b9.range1
  have d3 : W4.cell? ⟨bb, 0, none⟩ = some (.pointer (some ⟨nb, 0, none⟩)) := b3.cell 0
  have e1 : W4.cell? ⟨nb, 1, none⟩ = some (.slice sa m sc) := hN4.blk.cell 1
  have hc0 : (#[Value.int .i64 to] ++ cs)[0]? = some (.int .i64 to) := by rw [Array.getElem?_append_left (by simp)]; rfl
  have hul : Try.prog.underlying 40 = some _ := Try.underlying40
  have hsl : (Try.prog.info? 40).map (·.size) = some (#[Value.int .i64 to] ++ cs).toList.length := by rw [Array.length_toList, Array.size_append, hp.size]; exact out_size
  have hS0 : W4.drew.cell? ⟨bb, 0, none⟩ = some (.pointer (some ⟨nb, 0, none⟩)) ∧ W4.drew.rangeAt og 0 (#[Value.int .i64 to] ++ cs).toList ∧ W4.drew.cell? ⟨nb, 1, none⟩ = some (.slice sa m sc) ∧ Upd nob W4 W4.drew := ⟨d3, r9, e1, (Upd.refl _ _).drew⟩
  have HS0 := Lib.hid hS0
  clear hS0
  have hlts : bb < W4.heap.size ∧ og < W4.heap.size ∧ nb < W4.heap.size := ⟨b3.lt, b9.lt, hN4.blk.lt⟩
  have HN4 := Lib.hid hN4
  have HC0 := Lib.hid hc0
  have B3 := Lib.hid b3
  have B10 := Lib.hid b10.lt
  clear hN4 hc0 d3 e1 r9 b3 b9
  refine wp_region_heldN (S := fun W' => W'.cell? ⟨bb, 0, none⟩ = some (.pointer (some ⟨nb, 0, none⟩)) ∧ W'.rangeAt og 0 (#[Value.int .i64 to] ++ cs).toList ∧ W'.cell? ⟨nb, 1, none⟩ = some (.slice sa m sc) ∧ Upd nob W4 W') (by kernel_rfl) ?_
  have hS := HS0.out
  refine wpAnyH_take (i := 0) (v := ?_) rfl (by kernel_rfl) (by kernel_rfl) (by kernel_rfl) (fun _ _ _ h => h) (Or.inl ⟨by rfl, ?_⟩) hS ?_
  rotate_left
  · rintro wx ⟨s1, s2, s3, s4⟩
    go_simp
    with_reducible rfl
  simp only [Act.put, List.setIfInBounds_toArray, List.set_cons_zero, List.set_cons_succ]
  refine wpAnyH_take (i := 1) (v := ?_) rfl (by kernel_rfl) (by kernel_rfl) (by kernel_rfl) (fun _ _ _ h => h) (Or.inl ⟨by rfl, ?_⟩) hS ?_
  rotate_left
  · rintro wx ⟨s1, s2, s3, s4⟩
    go_simp
    with_reducible rfl
  simp only [Act.put, List.setIfInBounds_toArray, List.set_cons_zero, List.set_cons_succ]
  refine wpAnyH_take (i := 2) (v := (.agg (#[.int .i64 to] ++ cs))) rfl (by kernel_rfl) (by kernel_rfl) (by kernel_rfl) (fun _ _ _ h => h) (Or.inl ⟨by rfl, ?_⟩) hS ?_
  · rintro wx ⟨s1, s2, s3, s4⟩
    refine run_load_mid 40 (.tmp 9) ?_ og 0 ?_ (#[.int .i64 to] ++ cs) _ s2 Try.underlying40 ?_ ?_
    · rfl
    · rfl
    · rfl
    · rw [← Array.length_toList]; exact hsl
  simp only [Act.put, List.setIfInBounds_toArray, List.set_cons_zero, List.set_cons_succ]
  refine wpAnyH_take (i := 4) (v := ?_) rfl (by kernel_rfl) (by kernel_rfl) (by kernel_rfl) (fun _ _ _ h => h) (Or.inl ⟨by rfl, ?_⟩) hS ?_
  rotate_left
  · rintro wx ⟨s1, s2, s3, s4⟩
    go_simp
    with_reducible rfl
  simp only [Act.put, List.setIfInBounds_toArray, List.set_cons_zero, List.set_cons_succ]
  refine wpAnyH_take (i := 5) (v := ?_) rfl (by kernel_rfl) (by kernel_rfl) (by kernel_rfl) (fun _ _ _ h => h) (Or.inl ⟨by rfl, ?_⟩) hS ?_
  rotate_left
  · rintro wx ⟨s1, s2, s3, s4⟩
    go_simp
    with_reducible rfl
  simp only [Act.put, List.setIfInBounds_toArray, List.set_cons_zero, List.set_cons_succ]
  refine wpAnyH_take (i := 6) (v := ?_) rfl (by kernel_rfl) (by kernel_rfl) (by kernel_rfl) (fun _ _ _ h => h) (Or.inl ⟨by rfl, ?_⟩) hS ?_
  rotate_left
  · rintro wx ⟨s1, s2, s3, s4⟩
    go_simp
    with_reducible rfl
  simp only [Act.put, List.setIfInBounds_toArray, List.set_cons_zero, List.set_cons_succ]
  refine wpAnyH_take (i := 7) (v := ?_) rfl (by kernel_rfl) (by kernel_rfl) (by kernel_rfl) (fun _ _ _ h => h) (Or.inl ⟨by rfl, ?_⟩) hS ?_
  rotate_left
  · rintro wx ⟨s1, s2, s3, s4⟩
    go_simp
    with_reducible rfl
  simp only [Act.put, List.setIfInBounds_toArray, List.set_cons_zero, List.set_cons_succ]
  refine wpAnyH_take (i := 8) (v := ?_) rfl (by kernel_rfl) (by kernel_rfl) (by kernel_rfl) (fun _ _ _ h => h) (Or.inl ⟨by rfl, ?_⟩) hS ?_
  rotate_left
  · rintro wx ⟨s1, s2, s3, s4⟩
    go_simp
    with_reducible rfl
  simp only [Act.put, List.setIfInBounds_toArray, List.set_cons_zero, List.set_cons_succ]
  refine wpAnyH_take (i := 9) (v := ?_) rfl (by kernel_rfl) (by kernel_rfl) (by kernel_rfl) (fun _ _ _ h => h) (Or.inl ⟨by rfl, ?_⟩) hS ?_
  rotate_left
  · rintro wx ⟨s1, s2, s3, s4⟩
    go_simp
    with_reducible rfl
  simp only [Act.put, List.setIfInBounds_toArray, List.set_cons_zero, List.set_cons_succ]
  refine wpAnyH_one (i := 3) (by kernel_rfl) rfl rfl fun K hK => ?_
  go_simp
  refine (to_any nb n (.slice sa m sc) src to _ _ (by omega) (HN4.out.blk.upd hS.2.2.2 (fun f => f)) HC0.out).mono ?_
  rintro e W5 ⟨lb, D, rfl, hu5, hD5, hit5⟩
  have hS5 := send_keep hS hu5 hlts.1 hlts.2.1 hlts.2.2
  refine hK _ _ hS5 ?_
  clear hK K
  try simp only [Act.put, List.setIfInBounds_toArray, List.set_cons_zero, List.set_cons_succ]
  refine wpAnyH_one (i := 10) (by kernel_rfl) rfl rfl fun K hK => ?_
  have e40 : (4000 : Int) - (m : Int) = ((4000 - m : Nat) : Int) := by omega
  go_simp
  rw [show IntKind.i64.wrap ((4000 - m : Nat) : Int) = ((4000 - m : Nat) : Int) from IntWalk.i64_in _ (by omega)]
  refine (take_any (4000 - m) (by omega) hit5 (enters_of Try.func48 (by kernel_rfl) rfl) (fun k hk => (hD5 k hk).2)).mono ?_
  rintro e W6 ⟨lb', D', rfl, hu6, hD6, hit6⟩
  have hS6 := send_keep hS5 hu6 hlts.1 hlts.2.1 hlts.2.2
  refine hK _ _ hS6 ?_
  clear hK K
  try simp only [Act.put, List.setIfInBounds_toArray, List.set_cons_zero, List.set_cons_succ]
  refine wpAnyH_done (by kernel_rfl) ?_ _
  refine NoPanic.normal ?_
  have hu46 : Upd nob W4 W6 := hS6.2.2.2
  have hN6 : NetS W6 nb n (.slice sa m sc) m xs := HN4.out.upd hu46 (fun _ _ f => f)
  have hu6w : Upd nob w W6 := hu4.trans hu46
  have b10 : Blk W6 mb 38 cs := b10.upd hu46 (fun f => f)
  have b3 : Blk W6 bb 23 #[.pointer (some ⟨nb, 0, none⟩)] := B3.out.upd hu46 (fun f => f)
  have hD6' : ∀ k, D' k → W4.heap.size ≤ k ∧ k < W6.heap.size := fun k hk => by
    have h5 : W4.heap.size ≤ W5.heap.size := hu5.size
    have h6 := hu6.size
    rcases hD6 k hk with h | h
    · have : W4.heap.size ≤ k ∧ k < W5.heap.size := hD5 k h
      omega
    · omega
  have hsb : mb < W4.heap.size := B10.out
  clear hS6 hS5 hS HS0 HN4 HC0 hul hsl hit5 hD5 hD6 hu5 hu6 hu4 B3 B10
  gi_wp2_with fail
  obtain ⟨ts, hts⟩ : ∃ ts, ((upto n).filter (forB src to)).take (4000 - m) = ts := ⟨_, rfl⟩
  have hlen : ts.length ≤ 4000 - m := by rw [← hts, List.length_take]; exact Nat.min_le_left _ _
  rw [hts] at hit6
  obtain ⟨J, hJd⟩ : ∃ J : Nat → (Nat → Prop) → World → Prop, J = fun i I W' => ∃ svi, NetS W' nb n svi (m + i) (xs ++ (ts.take i).flatMap (fun i => .int .i64 i :: cs.toList)) ∧
    (svi.ownBlock = (Value.slice sa m sc).ownBlock ∨ ∃ k, svi.ownBlock = some k ∧ W6.heap.size ≤ k) ∧ Upd (netB nb (.slice sa m sc)) w W' ∧ Blk W' bb 23 #[.pointer (some ⟨nb, 0, none⟩)] ∧ Blk W' mb 38 cs ∧
    (∀ k, netB nb svi k → ¬ I k) ∧ (∀ k, I k → W6.heap.size ≤ k) ∧ W6.heap.size ≤ W'.heap.size := ⟨_, rfl⟩
  have hstab : ∀ i, Stab (J i) := by
    intro i I W' W'' hj hu
    rw [hJd] at hj ⊢
    obtain ⟨svi, h1, h2, h3, h4, h5, h6, h7, h8⟩ := hj
    have hws : w.heap.size ≤ W6.heap.size := hu6w.size
    refine ⟨svi, h1.upd hu (fun k hk => h6 k hk), h2, h3.trans' hu (fun k hk hI => by have := h7 k hI; omega), h4.upd hu (fun h => by have := h7 _ h; have := b3.lt; omega), h5.upd hu (fun h => by have := h7 _ h; have := b10.lt; omega), ?_, ?_, Nat.le_trans h8 hu.size⟩
    · rintro k hk (h | h)
      · exact h6 k hk h
      · have := h1.lt k hk; omega
    · rintro k (h | h)
      · exact h7 k h
      · omega
  have hJ0 : J 0 nob W6 := by
    rw [hJd]
    exact ⟨_, by simpa using hN6, .inl rfl, hu6w.mono (fun _ h => h.elim), b3, b10, fun _ _ h => h, fun _ h => h.elim, Nat.le_refl _⟩
  refine wpIn_range1 hit6 rfl (enters_of Try.func31 (by kernel_rfl) rfl) rfl rfl rfl (by simp) (fun k hk => (hD6' k hk).2) (Keeps.refl _ _) ei_size J (fun _ _ _ => False) hstab (fun _ => stab_false) hJ0 ?body ?done (fun _ _ _ _ h => h.elim)
  case body =>
    intro l' i v I' W' hx hj hlt
    obtain ⟨z, hz, hzz⟩ := ei_get hx
    obtain rfl : v = .int .i64 z := by simpa using hzz
    rw [hJd] at hj
    obtain ⟨svi, h1, h2, h3, h4, h5, h6, h7, h8⟩ := hj
    simp only [List.setIfInBounds_toArray, List.set_cons_zero, List.set_cons_succ]
    gi_wp2_with fail
    have c3 : W'.cell? ⟨bb, 0, none⟩ = some (.pointer (some ⟨nb, 0, none⟩)) := h4.cell 0
    have c1 : W'.cell? ⟨nb, 1, none⟩ = some svi := h1.blk.cell 1
    have r5 := h5.range1
    have hsp := svi_form h1
    refine wpIn_region_D (ro := some l') (S := fun X => X.cell? ⟨bb, 0, none⟩ = some (.pointer (some ⟨nb, 0, none⟩)) ∧ X.cell? ⟨nb, 1, none⟩ = some svi ∧ X.rangeAt mb 0 cs.toList ∧ Upd (fun k => svi.ownBlock = some k) W' X)
      12 (by kernel_rfl) (fun _ _ h => h) (by kernel_rfl) ?_
    have hS : W'.drew.cell? ⟨bb, 0, none⟩ = some (.pointer (some ⟨nb, 0, none⟩)) ∧ W'.drew.cell? ⟨nb, 1, none⟩ = some svi ∧ W'.drew.rangeAt mb 0 cs.toList ∧ Upd (fun k => svi.ownBlock = some k) W' W'.drew := ⟨c3, c1, r5, (Upd.refl _ _).drew⟩
    clear c3 c1 r5
    have K1 := Lib.hid h1
    have K4 := Lib.hid h4
    have K5 := Lib.hid h5
    have K6 := Lib.hid h6
    have K7 := Lib.hid h7
    clear h1 h4 h5 h6 h7
    refine wpAnyD_take (i := 0) (v := ?_) rfl (by kernel_rfl) (by kernel_rfl) (by kernel_rfl) (by kernel_rfl) (fun _ _ _ h => h) (Or.inl ⟨by rfl, ?_⟩) hS ?_
    rotate_left
    · rintro wx ⟨s1, s2, s3, s4⟩
      go_simp
      with_reducible rfl
    try simp only [Act.put, List.setIfInBounds_toArray, List.set_cons_zero, List.set_cons_succ]
    refine wpAnyD_take (i := 1) (v := ?_) rfl (by kernel_rfl) (by kernel_rfl) (by kernel_rfl) (by kernel_rfl) (fun _ _ _ h => h) (Or.inl ⟨by rfl, ?_⟩) hS ?_
    rotate_left
    · rintro wx ⟨s1, s2, s3, s4⟩
      go_simp
      with_reducible rfl
    try simp only [Act.put, List.setIfInBounds_toArray, List.set_cons_zero, List.set_cons_succ]
    refine wpAnyD_take (i := 2) (v := ?_) rfl (by kernel_rfl) (by kernel_rfl) (by kernel_rfl) (by kernel_rfl) (fun _ _ _ h => h) (Or.inl ⟨by rfl, ?_⟩) hS ?_
    rotate_left
    · rintro wx ⟨s1, s2, s3, s4⟩
      go_simp
      with_reducible rfl
    try simp only [Act.put, List.setIfInBounds_toArray, List.set_cons_zero, List.set_cons_succ]
    refine wpAnyD_take (i := 3) (v := ?_) rfl (by kernel_rfl) (by kernel_rfl) (by kernel_rfl) (by kernel_rfl) (fun _ _ _ h => h) (Or.inl ⟨by rfl, ?_⟩) hS ?_
    rotate_left
    · rintro wx ⟨s1, s2, s3, s4⟩
      go_simp
      with_reducible rfl
    try simp only [Act.put, List.setIfInBounds_toArray, List.set_cons_zero, List.set_cons_succ]
    refine wpAnyD_take (i := 4) (v := ?_) rfl (by kernel_rfl) (by kernel_rfl) (by kernel_rfl) (by kernel_rfl) (fun _ _ _ h => h) (Or.inl ⟨by rfl, ?_⟩) hS ?_
    rotate_left
    · rintro wx ⟨s1, s2, s3, s4⟩
      go_simp
      with_reducible rfl
    try simp only [Act.put, List.setIfInBounds_toArray, List.set_cons_zero, List.set_cons_succ]
    refine wpAnyD_take (i := 5) (v := ?_) rfl (by kernel_rfl) (by kernel_rfl) (by kernel_rfl) (by kernel_rfl) (fun _ _ _ h => h) (Or.inl ⟨by rfl, ?_⟩) hS ?_
    rotate_left
    · rintro wx ⟨s1, s2, s3, s4⟩
      go_simp
      with_reducible rfl
    try simp only [Act.put, List.setIfInBounds_toArray, List.set_cons_zero, List.set_cons_succ]
    refine wpAnyD_take (i := 6) (v := (.agg cs)) rfl (by kernel_rfl) (by kernel_rfl) (by kernel_rfl) (by kernel_rfl) (fun _ _ _ h => h) (Or.inl ⟨by rfl, ?_⟩) hS ?_
    · rintro wx ⟨s1, s2, s3, s4⟩
      refine run_load_mid 38 (.tmp 10) ?_ mb 0 ?_ cs _ s3 Try.underlying38 ?_ ?_
      · rfl
      · rfl
      · rfl
      · rw [hp.size]; exact info_msg
    try simp only [Act.put, List.setIfInBounds_toArray, List.set_cons_zero, List.set_cons_succ]
    refine wpAnyD_take (i := 7) (v := (.agg (#[.int .i64 z] ++ cs))) rfl (by kernel_rfl) (by kernel_rfl) (by kernel_rfl) (by kernel_rfl) (fun _ _ _ h => h) (Or.inl ⟨by rfl, ?_⟩) hS ?_
    · rintro wx ⟨s1, s2, s3, s4⟩
      refine run_build_op 49 #[(0, .tmp 57), (1, .tmp 58)] ?_ (#[.int .i64 z] ++ cs) ?_
      · rfl
      · refine (congrArg (fun l => Try.prog.built 49 l) ?_).trans (built_mail z cs hp.size)
        simp [Act.eval]
    try simp only [Act.put, List.setIfInBounds_toArray, List.set_cons_zero, List.set_cons_succ]
    obtain ⟨ie, hie, hiz, his, hib⟩ := info_parts mail_info
    have hml : (#[Value.int .i64 z] ++ cs).size = 74 := by rw [Array.size_append, hp.size]; rfl
    refine wpAnyD_one (i := 8) (by kernel_rfl) rfl rfl fun K hK => ?_
    refine wp_buildSlice 60 49 1 #[(0, .tmp 59)] rfl (#[.int .i64 z] ++ cs) ie (.agg zout) Try.underlying60 hie hiz (by rw [his]; decide) (by rw [his]; decide) ?_ ?_
    · rw [his]
      refine Eq.trans (congrArg (Instr.fill _ _) (a₂ := [(0, .agg (#[.int .i64 z] ++ cs))]) ?_) (fill_one (n := 74) ?_ hml)
      · simp [Act.eval]
      · rw [Array.size_map, Array.size_range]
    have hS8 : _ ∧ _ ∧ _ ∧ _ := send_alloc hS (#[.int .i64 z] ++ cs) 49
    refine hK _ _ (fun _ => hS8) ?_
    clear hK K
    try simp only [Act.put, List.setIfInBounds_toArray, List.set_cons_zero, List.set_cons_succ]
    refine wpAnyD_one (i := 9) (by kernel_rfl) rfl rfl fun K hK => ?_
    have hlm : i < ts.length := (List.getElem?_eq_some_iff.1 hz).1
    have hrow : (W'.drew.alloc (.cells (#[.int .i64 z] ++ cs) 49)).ownsRow 0 49 74 svi (m + i) (xs ++ (ts.take i).flatMap (fun i => .int .i64 i :: cs.toList)) := (World.ownsRow.drew K1.out.row).alloc _
    refine wp_append_at (.tmp 56) (.tmp 60) 60 rfl 0 49 ie (.agg zout) 74 208 Try.underlying60 hie hiz his hib zout_size (by decide) svi (m + i) _ ?hs hrow ⟨W'.drew.heap.size, 0, none⟩ 1 1 (.int .i64 z :: cs.toList) ?hx ?hl ?hnews ?h1 ?b1 ?b2 (Nat.zero_le _) ?hk
    case hl => simp [hp.size]
    case hnews =>
      intro j u hu
      have := (Blk.new W'.drew 49 (#[.int .i64 z] ++ cs)).range1 j u (by simpa using hu)
      rw [Addr.add_mid]
      exact this
    case h1 =>
      intro u hu
      rcases List.mem_cons.1 hu with rfl | hu
      · rfl
      · exact (Array.all_eq_true_iff_forall_mem.1 hp.one) u (by simpa using hu)
    case b1 => unfold maxLen; omega
    case b2 => omega
    case hs => simp [Act.eval]
    case hx => simp [Act.eval]
    case hk =>
      intro v' w9 hown9 hg9 hb9
      have n1 : svi.ownBlock ≠ some nb := K1.out.ne
      have n2 : svi.ownBlock ≠ some bb := own_ne K1.out.row K4.out (by decide)
      have n3 : svi.ownBlock ≠ some mb := own_ne K1.out.row K5.out (by decide)
      have hS9 := send_grown hS8 hg9 n2 n1 n3
      refine hK _ _ (fun _ => hS9) ?_
      clear hK K
      have hu9 : Upd (fun k => svi.ownBlock = some k) W' w9 := hS9.2.2.2
      have hbn : Blk w9 nb 67 #[.int .i64 n, svi] := K1.out.blk.upd hu9 n1
      have hw3 : w9.cell? ⟨bb, 0, none⟩ = some (.pointer (some ⟨nb, 0, none⟩)) := hS9.1
      have hw1 : w9.cell? ⟨nb, 1, none⟩ = some svi := hbn.cell 1
      have hw2 : w9.frozen? ⟨nb, 1, none⟩ = false := hbn.frozen 1
      obtain ⟨a9, c9, hv9⟩ : ∃ a c, v' = .slice a (m + i + 1) c := own_form hown9
      subst hv9
      refine wpAnyD_one (i := 10) (by kernel_rfl) rfl rfl fun K hK => ?_
      go_simp
      refine hK _ _ (fun _ => hS9) ?_
      clear hK K
      refine wpAnyD_one (i := 11) (by kernel_rfl) rfl rfl fun K hK => ?_
      go_simp
      refine hK _ _ (fun _ => hS9) ?_
      clear hK K
      refine wpAnyD_one (i := 12) (by kernel_rfl) rfl rfl fun K hK => ?_
      go_simp
      refine hK _ _ (fun h => absurd rfl h) ?_
      clear hK K
      refine wpAnyD_done (by kernel_rfl) ?_ _
      refine NoPanic.normal ?_
      gi_wp2
      have hws : w.heap.size ≤ W6.heap.size := hu6w.size
      have hnbw : nb < w.heap.size := hN.blk.lt
      have hown : ∀ k, svi.ownBlock = some k → (Value.slice sa m sc).ownBlock = some k ∧ k < w.heap.size ∨ W6.heap.size ≤ k := fun k hk => by
        rcases h2 with h | ⟨k', h, hk'⟩
        · exact .inl ⟨h ▸ hk, (hN.row.lt k (h ▸ hk)).2⟩
        · rw [h] at hk; injection hk with hk; exact .inr (by omega)
      have huF : Upd (netB nb svi) W' (w9.setCell ⟨nb, 1, none⟩ (.slice a9 (m + i + 1) c9)) := (hu9.mono fun k h => .inr h).setCell (.inl (.inl rfl)) _
      have hnv : (Value.slice a9 (m + i + 1) c9).ownBlock ≠ some nb := by
        rcases hb9 with h | h
        · rw [h]; exact n1
        · rw [h]
          intro e
          injection e with e
          have : nb < W'.heap.size := K1.out.blk.lt
          have e' : W'.heap.size + 1 = nb := by simpa using e
          omega
      refine ⟨huF.keeps fun k hk => ⟨fun hn => ?_, ?_⟩, ?_⟩
      · rcases hk with hk | hk
        · exact K6.out k hn hk
        · have hd := hD6' k hk
          rcases hn with rfl | hn
          · omega
          · rcases hown k hn with h | h
            · have := hlts.1; omega
            · omega
      · rcases hk with hk | hk
        · exact hlt k hk
        · have := hD6' k hk; omega
      · rw [hJd]
        refine ⟨.slice a9 (m + i + 1) c9, ⟨?_, ?_⟩, ?_, ?_, ?_, ?_, ?_, K7.out, ?_⟩
        · exact hbn.set 1 _
        · have h := ownsRow_setCell_other hown9 (a := ⟨nb, 1, none⟩) hnv (.slice a9 (m + i + 1) c9)
          rw [take_succ_of hz, List.flatMap_append, ← List.append_assoc]
          simpa [Nat.add_assoc] using h
        · rcases hb9 with h | h
          · rw [h]; exact h2
          · exact .inr ⟨_, h, by simp; omega⟩
        · refine h3.trans' huF fun k hk hn => ?_
          rcases hn with rfl | hn
          · exact .inl rfl
          · rcases hown k hn with h | h
            · exact .inr h.1
            · omega
        · refine K4.out.upd huF fun hn => ?_
          rcases hn with hn | hn
          · omega
          · exact n2 hn
        · refine K5.out.upd huF fun hn => ?_
          rcases hn with hn | hn
          · omega
          · exact n3 hn
        · rintro k (rfl | hk) hI
          · exact K6.out _ (.inl rfl) hI
          · rcases hb9 with h | h
            · exact K6.out k (.inr (h ▸ hk)) hI
            · rw [h] at hk
              injection hk with hk
              have := hlt k hI
              have e' : W'.heap.size + 1 = k := by simpa using hk
              omega
        · exact Nat.le_trans h8 huF.size
  case done =>
    intro e I W' hj he hle hk hI
    rw [hJd, ei_len] at hj
    obtain ⟨svi, h1, h2, h3, h4, h5, h6, h7, h8⟩ := hj
    rw [List.take_length] at h1
    have hws : w.heap.size ≤ W6.heap.size := hu6w.size
    have hsent : sent src to n m = ts := hts
    have HX := Lib.hid hsent
    clear hts hsent hJd
    gi_wp2_with fail
    refine HQ.out _ _ _ _ _ _ _ _ _ _ _ _ _ _ _ _ _ _ _ _ _ _ _ _ _ _ _ _ _ _ _ _ _ _ _ _ _ _ _ _ _ _ _ _ _ _  ({ target := .collected e, args := #[] } :: ds) W' svi (.inr ⟨e, rfl, hk, by omega, fun h => h6 e h he⟩) ?_ ?_ h3 h4
    · rw [HX.out]; exact h1
    · rcases h2 with h | ⟨k, h, hk'⟩
      · exact .inl h
      · exact .inr ⟨k, h, by omega⟩
end Go.Proofs.Ytdpnpkleobjkfaa
