/- gen.Map over mails, of 'own': its iterator yields the same mails. -/
import Derived.Test.YtdpnpkleobjkfaaWrap
namespace Go.Proofs.Ytdpnpkleobjkfaa
open Go.RowKit Go.Shelf
attribute [local go_sem] Oper.semAt_some
set_option maxRecDepth 100000
set_option maxHeartbeats 4000000
set_option linter.unusedSimpArgs false

theorem stab_ex {α : Type} {J : α → (Nat → Prop) → World → Prop} (h : ∀ a, Stab (J a)) : Stab (fun I W => ∃ a, J a I W) := by
  rintro I W W' ⟨a, hj⟩ hu
  exact ⟨a, h a I W W' hj hu⟩

theorem mapM1 {gf : FuncId} {lb : Array Value} {D : Nat → Prop} {w₀ : World} {ms : List (Int × Array Value)} (hit : IterSpec Try.prog gf lb D w₀ (em ms)) (hp : PlainL ms)
    (hgf : ∀ args w, (callFunc gf args).run Try.prog w = .ok (.enter gf args) w)
    (hD : ∀ k, D k → k < w₀.heap.size) (fb sb : Nat) (hf : Blk w₀ fb 80 #[.func (.func 26) #[] #[]]) (hs : Blk w₀ sb 63 #[.func (.func gf) #[] lb]) :
    IterSpec Try.prog 43 #[.pointer (some ⟨fb, 0, none⟩), .pointer (some ⟨sb, 0, none⟩)] (fun k => k = fb ∨ k = sb ∨ D k) w₀ (em ms) := by
  intro l J Jx hJ hJx hY I W hag hI h0
  have hf1 : Blk W fb _ _ := hf.keeps hag (.inl rfl)
  have hs1 : Blk W sb _ _ := hs.keeps hag (.inr (.inl rfl))
  have hcf : W.cell? ⟨fb, 0, none⟩ = some (.func (.func 26) #[] #[]) := hf1.cell 0
  have hcs : W.cell? ⟨sb, 0, none⟩ = some (.func (.func gf) #[] lb) := hs1.cell 0
  have he := run_eql_func_nil (P := Try.prog) 80 Try.underlying80
  have hz := zero_mail
  have hlf := hf1.lt
  have hls := hs1.lt
  refine callsIn_wide (n := 0).1 ?_
  refine callsIn_of_wp_marks Try.func43 rfl trivial ?_ rfl
  simp only [Try.ntmps43, List.size_toArray, List.length_cons, List.length_nil, Nat.reduceAdd, Nat.reduceSub, Array.replicate_succ, Array.replicate_zero, List.push_toArray, List.append_toArray, List.nil_append, List.cons_append]
  gi_wp2_with fail
  refine viaCalls (over_mail _ _ _) ?_
  rintro e w1 ⟨rfl, rfl⟩
  gi_wp2_with fail
  obtain ⟨W0, hW0⟩ : ∃ W0, W.alloc (.cells #[.func (.yield l) #[] #[]] 90) = W0 := ⟨_, rfl⟩
  have hy0 : Blk W0 W.heap.size 90 #[.func (.yield l) #[] #[]] := by rw [← hW0]; exact Blk.new W _ _
  have hf0 : Blk W0 fb 80 #[.func (.func 26) #[] #[]] := by rw [← hW0]; exact hf1.alloc _
  have hs0 : Blk W0 sb 63 #[.func (.func gf) #[] lb] := by rw [← hW0]; exact hs1.alloc _
  have hsz : W0.heap.size = W.heap.size + 1 := by rw [← hW0]; simp
  have hu0 : ∀ S, Upd S W W0 := fun S => by rw [← hW0]; exact (Upd.refl S W).alloc _
  have hd0 : Keeps D w₀ W0 := ⟨Nat.le_trans hag.size (by omega), fun k hk => ((hu0 nob).block k (Nat.lt_of_lt_of_le (hD k hk) hag.size) (fun f => f)).trans (hag.same k (.inr (.inr hk)))⟩
  have hJ0 : J 0 (fun k => I k ∨ k = W.heap.size) W0 := by rw [← hW0]; exact (hJ 0).alloc h0 _
  have hDlt : ∀ k, D k → k < W.heap.size := fun k hk => Nat.lt_of_lt_of_le (hD k hk) hag.size
  rw [hW0]
  clear hW0 hcf hcs hf1 hs1
  obtain ⟨own, hown⟩ : ∃ own : Nat → Prop, own = fun k => I k ∨ k = W.heap.size := ⟨_, rfl⟩
  obtain ⟨prot, hprot⟩ : ∃ prot : Nat → Prop, prot = fun k => k = W.heap.size ∨ k = fb ∨ k = sb ∨ D k := ⟨_, rfl⟩
  rw [← hown] at hJ0
  have o1 : own W.heap.size := by rw [hown]; exact .inr rfl
  have o2 : ∀ k, own k → k < W0.heap.size := fun k h => by
    rw [hown] at h
    rcases h with h | h
    · have := hI k h; omega
    · omega
  have p1 : ∀ k, prot k → k < W0.heap.size := fun k h => by
    rw [hprot] at h
    rcases h with h | h | h | h
    · omega
    · have := hf0.lt; omega
    · have := hs0.lt; omega
    · have := hDlt k h; omega
  have p2 : ∀ k, prot k → own k ∨ (k = fb ∨ k = sb ∨ D k) := fun k h => by
    rw [hprot] at h
    rcases h with h | h
    · exact .inl (h ▸ o1)
    · exact .inr h
  have q1 : prot W.heap.size := by rw [hprot]; exact .inl rfl
  have q2 : prot fb := by rw [hprot]; exact .inr (.inl rfl)
  have q3 : ∀ k, D k → prot k := fun k h => by rw [hprot]; exact .inr (.inr (.inr h))
  obtain ⟨C, hC⟩ : ∃ C : World → Prop, C = fun W' => ∀ k, prot k → W'.heap[k]? = W0.heap[k]? := ⟨_, rfl⟩
  have hCl : ∀ W1 W2 : World, (∀ k, prot k → W2.heap[k]? = W1.heap[k]?) → C W1 → C W2 := fun W1 W2 h hc => by
    rw [hC] at hc ⊢
    exact fun k hk => (h k hk).trans (hc k hk)
  have hCl2 : ∀ (cb : Nat) (row : Array Value) (W1 W2 : World), (∀ k, (prot k ∨ k = cb) → W2.heap[k]? = W1.heap[k]?) → (C W1 ∧ Blk W1 cb 49 row) → (C W2 ∧ Blk W2 cb 49 row) := fun cb row W1 W2 h hc =>
    ⟨hCl W1 W2 (fun k hk => h k (.inl hk)) hc.1, (h cb (.inr rfl)).trans hc.2⟩
  refine wpIn_range hit rfl hgf (fun k h => by have := hDlt k h; omega) hd0 em_size
    (fun i => WrapX W0.heap.size (J i) own prot C)
    (fun c => WrapX W0.heap.size Jx own prot (fun _ => c = .ret))
    (fun i => stab_wrapX (hJ _) hCl) (fun c => stab_wrapX hJx (fun _ _ _ h => h)) nob (fun _ h => h.elim)
    ⟨fun _ => False, fun _ h => h.elim, set_congr hJ0 (fun k => by simp [nob]), fun k hk => ⟨fun f => f, ?_⟩, by rw [hC]; exact fun _ _ => rfl⟩
    (fun i x a₁ I' W' => ∃ (p : Int × Array Value) (cb : Nat) (ex : Nat → Prop), (x = #[Value.agg (#[Value.int .i64 p.1] ++ p.2)] ∧ (∀ k, ex k → W0.heap.size ≤ k) ∧ a₁ = { tmps := #[.func (.yield l) #[] #[], .pointer (some ⟨fb, 0, none⟩), .pointer (some ⟨sb, 0, none⟩), .pointer (some ⟨W.heap.size, 0, none⟩), .pointer (some ⟨cb, 0, none⟩),
      .func (.func 26) #[] #[], .bool false, .func (.func gf) #[] lb, .func (.func gf) #[] lb, .agg (#[Value.int .i64 p.1] ++ p.2), undef, undef, undef, undef, undef, undef], defers := [] }) ∧
      Wrap (J i) (fun k => own k ∨ ex k) (fun k => prot k ∨ k = cb) (fun X => C X ∧ Blk X cb 49 (#[Value.int .i64 p.1] ++ p.2)) I' W')
    (fun i x a => stab_ex fun p => stab_ex fun cb => stab_ex fun ex => stab_and _ (stab_wrap (hJ _) (hCl2 cb _))) ?assign ?body ?done ?stop
  · rcases hk with (h | h) | h
    · exact o2 k h
    · exact h.elim
    · exact p1 k h
  case assign =>
    rintro l' i x I' W' hx ⟨ex, hex, hj⟩ hlt
    obtain ⟨p, hpi, rfl⟩ := em_get hx
    have hpk : Plain p.2 := hp _ (List.mem_of_getElem? hpi)
    have hblk := Blk.new W' 49 zout
    have hri := mail_size' hpk p.1
    have hri2 : zout.size = (#[Value.int .i64 p.1] ++ p.2).size := by rw [(mail_row hpk p.1).1]; exact zout_size
    have hone := (mail_row hpk p.1).2
    have hW := hj.cell (hJ i) hCl hlt 49 zout (#[Value.int .i64 p.1] ++ p.2)
    have hbase : W0.heap.size ≤ W'.heap.size := by
      have := (hj.2.1 _ (.inl (.inl o1))).2
      omega
    gi_wp2_with (first
      | (refine wpListIn_store_blk (.within _) rfl 49 (.tmp 4) (.tmp 9) rfl rfl W'.heap.size (#[Value.int .i64 p.1] ++ p.2) rfl rfl 49 zout hblk hri hri2 hone ?_))
    refine ⟨?_, p, W'.heap.size, fun k => ex k ∨ k = W'.heap.size, ⟨rfl, ?_, rfl⟩, ?_⟩
    · refine (((Upd.refl nob W').alloc _).setRow (.inr (Nat.le_refl _)) _).keeps fun k hk => ⟨fun f => f, ?_⟩
      rcases hk with h | h
      · exact hlt k h
      · have := hDlt k h; omega
    · rintro k (h | rfl)
      · exact hex k h
      · exact hbase
    · exact ⟨set_congr hW.1 (fun k => by simp only [or_assoc]), fun k hk => hW.2.1 k (by simpa only [or_assoc] using hk), hW.2.2⟩
  case body =>
    rintro l' i x I' W' a₁ hx ⟨p, cb, ex, ⟨rfl, hex, rfl⟩, hj⟩ hlt ⟨r, hr⟩
    obtain ⟨p', hpi, hpp⟩ := em_get hx
    have hpk : Plain p.2 := by
      obtain ⟨q, hq, hqq⟩ := em_get hx
      have : p.1 = q.1 ∧ p.2 = q.2 := by
        simp only [Array.mk.injEq, List.cons.injEq, Value.agg.injEq, and_true] at hqq
        have e := congrArg Array.toList hqq
        simp only [Array.toList_append, List.cons_append, List.nil_append, List.cons.injEq, Value.int.injEq, true_and] at e
        exact ⟨e.1, Array.toList_inj.1 e.2⟩
      rw [this.2]; exact hp _ (List.mem_of_getElem? hq)
    obtain ⟨row, hrw⟩ : ∃ row, #[Value.int .i64 p.1] ++ p.2 = row := ⟨_, rfl⟩
    have hri := mail_size' hpk p.1
    clear hown
    have hown := fun X => own_mail p.1 p.2 hpk X
    rw [hrw] at hri hx hj
    simp only [hrw] at hown ⊢
    have hc := hj.2.2.1
    rw [hC] at hc
    have hyb : Blk W' W.heap.size 90 #[.func (.yield l) #[] #[]] := (hc _ q1).trans hy0
    have hfb : Blk W' fb 80 #[.func (.func 26) #[] #[]] := (hc _ q2).trans hf0
    have hrb : Blk W' cb 49 row := hj.2.2.2
    have HSZ := Lib.hid hsz
    clear hc hC hprot hsz
    gi_wp2_with fail
    refine wpIn_region_F (ro := some l') (by kernel_rfl) ?_
    refine wpAnyIn_of_F (fun X => Blk X W.heap.size 90 #[.func (.yield l) #[] #[]] ∧ Blk X fb 80 #[.func (.func 26) #[] #[]] ∧ Blk X cb 49 row ∧ Upd nob W' X) 4 _ _ _ _ ?_
    have hS : Blk W'.drew W.heap.size 90 #[.func (.yield l) #[] #[]] ∧ Blk W'.drew fb 80 #[.func (.func 26) #[] #[]] ∧ Blk W'.drew cb 49 row ∧ Upd nob W' W'.drew := ⟨hyb, hfb, hrb, (Upd.refl nob W').drew⟩
    refine wpAnyF_take (i := 0) (v := ?_) [] rfl (by kernel_rfl) (by kernel_rfl) (fun _ _ _ h => h) (Or.inl ⟨by rfl, ?_⟩) hS ?_
    rotate_left
    · rintro wx ⟨s1, s2, s3, s4⟩
      have c : wx.cell? ⟨W.heap.size, 0, none⟩ = some (.func (.yield l) #[] #[]) := s1.cell 0
      go_simp
      with_reducible rfl
    try simp only [List.getElem_toArray, List.getElem_cons_succ, List.getElem_cons_zero, Act.put, List.setIfInBounds_toArray, List.set_cons_zero, List.set_cons_succ]
    refine wpAnyF_take (i := 1) (v := ?_) [3] rfl (by kernel_rfl) (by kernel_rfl) (fun _ _ _ h => h) (Or.inl ⟨by rfl, ?_⟩) hS ?_
    rotate_left
    · rintro wx ⟨s1, s2, s3, s4⟩
      have c : wx.cell? ⟨fb, 0, none⟩ = some (.func (.func 26) #[] #[]) := s2.cell 0
      go_simp
      with_reducible rfl
    try simp only [List.getElem_toArray, List.getElem_cons_succ, List.getElem_cons_zero, Act.put, List.setIfInBounds_toArray, List.set_cons_zero, List.set_cons_succ]
    refine wpAnyF_take (i := 2) (v := (.agg row)) [3] rfl (by kernel_rfl) (by kernel_rfl) (fun _ _ _ h => h) (Or.inl ⟨by rfl, ?_⟩) hS ?_
    · rintro wx ⟨s1, s2, s3, s4⟩
      refine run_load_blk 49 (.tmp 4) ?_ cb ?_ 49 row _ s3 Try.underlying49 ?_ ?_
      · rfl
      · rfl
      · rfl
      · exact hri
    try simp only [List.getElem_toArray, List.getElem_cons_succ, List.getElem_cons_zero, Act.put, List.setIfInBounds_toArray, List.set_cons_zero, List.set_cons_succ]
    refine wpAnyF_one (i := 3) (by kernel_rfl) (by kernel_rfl) rfl (by rfl) fun K hK => ?_
    refine ⟨fun _ _ => trivial, ?_⟩
    rw [semAt_ro _ (by intro c; simp)]
    go_simp
    refine (viaCallsR (l := l') (hown _) ?_).2
    rintro e w3 ⟨rfl, hb3⟩
    have hu3 : Upd nob W'.drew w3 := Upd.of_below hb3
    have hS : Blk w3 W.heap.size 90 #[.func (.yield l) #[] #[]] ∧ Blk w3 fb 80 #[.func (.func 26) #[] #[]] ∧ Blk w3 cb 49 row ∧ Upd nob W' w3 :=
      ⟨hS.1.upd hu3 (fun f => f), hS.2.1.upd hu3 (fun f => f), hS.2.2.1.upd hu3 (fun f => f), hS.2.2.2.trans hu3⟩
    refine hK _ _ hS ?_
    clear hK K
    try simp only [List.getElem_toArray, List.getElem_cons_succ, List.getElem_cons_zero, Act.put, List.setIfInBounds_toArray, List.set_cons_zero, List.set_cons_succ]
    have hu3 : Upd nob W' w3 := hS.2.2.2
    have hg3 := hj.grow (hJ i) (hCl2 cb row) hlt hu3
    have hsz3 := hu3.size
    obtain ⟨fn, tmps, assign, body, hy, hR⟩ := hY i _ _ w3 hx hg3.1
    have hkeep : ∀ W4 : World, Keeps (fun k => (I' k ∨ (own k ∨ ex k) ∨ W'.heap.size ≤ k ∧ k < w3.heap.size) ∨ k = fb ∨ k = sb ∨ D k) w3 W4 → Keeps (fun k => I' k ∨ D k) W' W4 := fun W4 h =>
      (hu3.keeps fun k hk => ⟨fun f => f, hk.elim (hlt k) (fun h => by have := hDlt k h; have := (hj.2.1 _ (.inl (.inl o1))).2; omega)⟩).trans (h.mono fun k hk => hk.imp .inl (fun h => .inr (.inr h)))
    have hWend : ∀ (Jn : (Nat → Prop) → World → Prop) (Cn : World → Prop) (W4 : World), Keeps (fun k => (I' k ∨ (own k ∨ ex k) ∨ W'.heap.size ≤ k ∧ k < w3.heap.size) ∨ k = fb ∨ k = sb ∨ D k) w3 W4 →
        Jn (fun k => I' k ∨ (own k ∨ ex k) ∨ W'.heap.size ≤ k ∧ k < w3.heap.size) W4 → (C W4 → Cn W4) → WrapX W0.heap.size Jn own prot Cn I' W4 := fun Jn Cn W4 hk hj4 hc => by
      refine ⟨fun k => ex k ∨ (W'.heap.size ≤ k ∧ k < w3.heap.size), ?_, set_congr hj4 (fun k => by simp only [or_assoc]), fun k hk' => ?_, hc (hCl w3 W4 (fun k hk' => hk.same k ?_) hg3.2.2.1)⟩
      · rintro k (h | h)
        · exact hex k h
        · have := (hj.2.1 _ (.inl (.inl o1))).2; have := HSZ.out; omega
      · have hthis := hg3.2.1 k (by
          rcases hk' with (h | h | h) | h
          · exact .inl (.inl (.inl h))
          · exact .inl (.inl (.inr h))
          · exact .inl (.inr h)
          · exact .inr (.inl h))
        exact ⟨hthis.1, Nat.lt_of_lt_of_le hthis.2 hk.size⟩
      · rcases p2 k hk' with h | h
        · exact .inl (.inr (.inl (.inl h)))
        · exact .inr h
    refine wpAnyF_z (by kernel_rfl) rfl (by rfl) fun K hK => ?_
    refine ⟨fun _ _ => trivial, ?_⟩
    rw [semAt_ro _ (by intro c; simp)]
    go_simp
    refine ⟨rfl, (roundInRound hR).mono ?_⟩
    rintro e W4 ⟨hk4, (⟨rfl, hj4⟩ | ⟨rfl, hx4⟩)⟩
    · refine hK _ _ ?_
      clear hK K
      try simp only [Act.put, List.setIfInBounds_toArray, List.set_cons_zero, List.set_cons_succ]
      refine wpAnyIn_one (i := 5) (by kernel_rfl) rfl (by rfl) fun K hK => ?_
      refine ⟨fun _ _ => trivial, ?_⟩
      rw [semAt_ro _ (by intro c; simp)]
      go_simp
      refine hK _ _ ?_
      refine wpAnyIn_done' (by kernel_rfl) ?_ _
      gi_wp2_with fail
      exact ⟨hkeep W4 hk4, hWend _ _ W4 hk4 hj4 (fun h => h)⟩
    · refine hK _ _ ?_
      clear hK K
      try simp only [Act.put, List.setIfInBounds_toArray, List.set_cons_zero, List.set_cons_succ]
      refine wpAnyIn_one (i := 5) (by kernel_rfl) rfl (by rfl) fun K hK => ?_
      refine ⟨fun _ _ => trivial, ?_⟩
      rw [semAt_ro _ (by intro c; simp)]
      go_simp
      refine hK _ _ ?_
      refine wpAnyIn_done' (by kernel_rfl) ?_ _
      gi_wp2_with fail
      exact ⟨hkeep W4 hk4, hWend _ _ W4 hk4 hx4 (fun _ => rfl)⟩
  case done =>
    rintro d I' W' ⟨ex, hex, hj⟩ hd hle hk hI1 hI2
    gi_wp2
    refine ⟨by simp, .inl ⟨_, _, rfl, run_takeDeferred hk, ?_⟩⟩
    refine ⟨_, results_none rfl _ _ _, ⟨_, rfl⟩, fun k => I' k ∨ own k ∨ ex k, fun k h => .inr (.inl (by rw [hown]; exact .inl h)), ?_, .inl ?_⟩
    · rintro k (h | h | h)
      · rcases hI2 k h with h | h
        · exact h.elim
        · exact .inr (by omega)
      · rw [hown] at h
        rcases h with h | h
        · exact .inl h
        · exact .inr (by omega)
      · have := hex k h; exact .inr (by omega)
    · exact (hJ _).same hj.1 ((Upd.refl _ _).putObj (.inl (.inl hd)) (.deferred none)) (by simp)
  case stop =>
    rintro d c I' W' ⟨ex, hex, hj⟩ hd hle hk hI1 hI2
    obtain rfl : c = .ret := hj.2.2
    gi_wp2
    refine ⟨by simp, .inl ⟨_, _, rfl, run_takeDeferred hk, ?_⟩⟩
    refine ⟨_, results_none rfl _ _ _, ⟨_, rfl⟩, fun k => I' k ∨ own k ∨ ex k, fun k h => .inr (.inl (by rw [hown]; exact .inl h)), ?_, .inr ?_⟩
    · rintro k (h | h | h)
      · rcases hI2 k h with h | h
        · exact h.elim
        · exact .inr (by omega)
      · rw [hown] at h
        rcases h with h | h
        · exact .inl h
        · exact .inr (by omega)
      · have := hex k h; exact .inr (by omega)
    · exact hJx.same hj.1 ((Upd.refl _ _).putObj (.inl (.inl hd)) (.deferred none)) (by simp)
end Go.Proofs.Ytdpnpkleobjkfaa
