/- gen.Take over mails, of fewer than it takes: its iterator yields them all. -/
import Derived.Test.YtdpnpkleobjkfaaMap
namespace Go.Proofs.Ytdpnpkleobjkfaa
open Go.RowKit Go.Shelf
attribute [local go_sem] Oper.semAt_some
set_option maxRecDepth 100000
set_option maxHeartbeats 4000000
set_option linter.unusedSimpArgs false

theorem takeM1 {gf : FuncId} {lb : Array Value} {D : Nat → Prop} {w₀ : World} {ms : List (Int × Array Value)} (n : Nat) (hn : n ≤ 4611686018427387904) (hnm : ms.length < n) (hit : IterSpec Try.prog gf lb D w₀ (em ms)) (hp : PlainL ms)
    (hgf : ∀ args w, (callFunc gf args).run Try.prog w = .ok (.enter gf args) w)
    (hD : ∀ k, D k → k < w₀.heap.size) (nb sb : Nat) (hf : Blk w₀ nb 3 #[.int .i64 n]) (hs : Blk w₀ sb 63 #[.func (.func gf) #[] lb]) :
    IterSpec Try.prog 39 #[.pointer (some ⟨nb, 0, none⟩), .pointer (some ⟨sb, 0, none⟩)] (fun k => k = nb ∨ k = sb ∨ D k) w₀ (em ms) := by
  intro l J Jx hJ hJx hY I W hag hI h0
  have hf1 : Blk W nb _ _ := hf.keeps hag (.inl rfl)
  have hs1 : Blk W sb _ _ := hs.keeps hag (.inr (.inl rfl))
  have hcf : W.cell? ⟨nb, 0, none⟩ = some (.int .i64 n) := hf1.cell 0
  have hcs : W.cell? ⟨sb, 0, none⟩ = some (.func (.func gf) #[] lb) := hs1.cell 0
  have hz := zero_mail
  have hlf := hf1.lt
  have hls := hs1.lt
  refine callsIn_wide (n := 0).1 ?_
  refine callsIn_of_wp_marks Try.func39 rfl trivial ?_ rfl
  simp only [Try.ntmps39, List.size_toArray, List.length_cons, List.length_nil, Nat.reduceAdd, Nat.reduceSub, Array.replicate_succ, Array.replicate_zero, List.push_toArray, List.append_toArray, List.nil_append, List.cons_append]
  have hdec : decide ((n : Int) < 1) = false := by simp; omega
  gi_wp2_with fail
  refine viaCalls (over_mail _ _ _) ?_
  rintro e w1 ⟨rfl, rfl⟩
  gi_wp2_with fail
  obtain ⟨W0, hW0⟩ : ∃ W0, (W.alloc (.cells #[.func (.yield l) #[] #[]] 90)).alloc (.cells #[.int .i64 n] 3) = W0 := ⟨_, rfl⟩
  have hy0 : Blk W0 W.heap.size 90 #[.func (.yield l) #[] #[]] := by rw [← hW0]; exact (Blk.new W _ _).alloc _
  have hn0 : Blk W0 (W.heap.size + 1) 3 #[.int .i64 n] := by
    rw [← hW0]
    have := Blk.new (W.alloc (.cells #[.func (.yield l) #[] #[]] 90)) 3 #[.int .i64 n]
    rwa [World.size_alloc] at this
  have hs0 : Blk W0 sb 63 #[.func (.func gf) #[] lb] := by rw [← hW0]; exact (hs1.alloc _).alloc _
  have hsz : W0.heap.size = W.heap.size + 2 := by rw [← hW0]; simp
  have hu0 : ∀ S, Upd S W W0 := fun S => by rw [← hW0]; exact ((Upd.refl S W).alloc _).alloc _
  have hd0 : Keeps D w₀ W0 := ⟨Nat.le_trans hag.size (by omega), fun k hk => ((hu0 nob).block k (Nat.lt_of_lt_of_le (hD k hk) hag.size) (fun f => f)).trans (hag.same k (.inr (.inr hk)))⟩
  have hDlt : ∀ k, D k → k < W.heap.size := fun k hk => Nat.lt_of_lt_of_le (hD k hk) hag.size
  obtain ⟨own, hown⟩ : ∃ own : Nat → Prop, own = fun k => I k ∨ k = W.heap.size ∨ k = W.heap.size + 1 := ⟨_, rfl⟩
  have hJ0 : J 0 own W0 := by
    have := hJ 0 I W W0 h0 (hu0 _)
    have e : grow I W W0 = own := by
      rw [hown]
      funext k
      simp only [grow, hsz]
      exact propext ⟨fun x => x.imp id (by omega), fun x => x.imp id (by omega)⟩
    rwa [e] at this
  rw [hW0]
  clear hW0 hcf hcs hf1 hs1
  obtain ⟨prot, hprot⟩ : ∃ prot : Nat → Prop, prot = fun k => k = W.heap.size ∨ k = W.heap.size + 1 ∨ k = sb ∨ D k := ⟨_, rfl⟩
  have o1 : own W.heap.size := by rw [hown]; exact .inr (.inl rfl)
  have o3 : own (W.heap.size + 1) := by rw [hown]; exact .inr (.inr rfl)
  have o2 : ∀ k, own k → k < W0.heap.size := fun k h => by
    rw [hown] at h
    rcases h with h | h | h
    · have := hI k h; omega
    · omega
    · omega
  have p1 : ∀ k, prot k → k < W0.heap.size := fun k h => by
    rw [hprot] at h
    rcases h with h | h | h | h
    · omega
    · omega
    · have := hs0.lt; omega
    · have := hDlt k h; omega
  have q1 : prot W.heap.size := by rw [hprot]; exact .inl rfl
  have q2 : prot (W.heap.size + 1) := by rw [hprot]; exact .inr (.inl rfl)
  obtain ⟨C, hC⟩ : ∃ C : Nat → World → Prop, C = fun (i : Nat) W' => Blk W' W.heap.size 90 #[.func (.yield l) #[] #[]] ∧ Blk W' (W.heap.size + 1) 3 #[.int .i64 ((n : Int) - (i : Int))] := ⟨_, rfl⟩
  have hC0 : C 0 W0 := by rw [hC]; exact ⟨hy0, by simpa using hn0⟩
  have hCl : ∀ i W1 W2, (∀ k, prot k → W2.heap[k]? = W1.heap[k]?) → C i W1 → C i W2 := fun i W1 W2 h hc => by
    rw [hC] at hc ⊢
    exact ⟨(h _ q1).trans hc.1, (h _ q2).trans hc.2⟩
  have hCl2 : ∀ (i cb : Nat) (row : Array Value) (W1 W2 : World), (∀ k, (prot k ∨ k = cb) → W2.heap[k]? = W1.heap[k]?) → (C i W1 ∧ Blk W1 cb 49 row) → (C i W2 ∧ Blk W2 cb 49 row) := fun i cb row W1 W2 h hc =>
    ⟨hCl i W1 W2 (fun k hk => h k (.inl hk)) hc.1, (h cb (.inr rfl)).trans hc.2⟩
  refine wpIn_range hit rfl hgf (fun k h => by have := hDlt k h; omega) hd0 em_size
    (fun i => WrapX W0.heap.size (J i) own prot (C i))
    (fun c => WrapX W0.heap.size Jx own prot (fun _ => c = .ret))
    (fun i => stab_wrapX (hJ _) (hCl i)) (fun c => stab_wrapX hJx (fun _ _ _ h => h)) nob (fun _ h => h.elim)
    ⟨fun _ => False, fun _ h => h.elim, set_congr hJ0 (fun k => by simp [nob]), fun k hk => ⟨fun f => f, ?_⟩, hC0⟩
    (fun i x a₁ I' W' => ∃ (p : Int × Array Value) (cb : Nat) (ex : Nat → Prop), (x = #[Value.agg (#[Value.int .i64 p.1] ++ p.2)] ∧ (∀ k, ex k → W0.heap.size ≤ k) ∧ W0.heap.size ≤ cb ∧ a₁ = { tmps := #[.func (.yield l) #[] #[], .pointer (some ⟨nb, 0, none⟩), .pointer (some ⟨sb, 0, none⟩), .pointer (some ⟨W.heap.size, 0, none⟩), .pointer (some ⟨W.heap.size + 1, 0, none⟩), .pointer (some ⟨cb, 0, none⟩),
      .int .i64 n, .int .i64 n, .bool false, .func (.func gf) #[] lb, .func (.func gf) #[] lb, .agg (#[Value.int .i64 p.1] ++ p.2), undef, undef, undef, undef, undef, undef, undef, undef, undef, undef], defers := [] }) ∧
      Wrap (J i) (fun k => own k ∨ ex k) (fun k => prot k ∨ k = cb) (fun X => C i X ∧ Blk X cb 49 (#[Value.int .i64 p.1] ++ p.2)) I' W')
    (fun i x a => stab_ex fun p => stab_ex fun cb => stab_ex fun ex => stab_and _ (stab_wrap (hJ _) (hCl2 i cb _))) ?assign ?body ?done ?stop
  · rcases hk with (h | h) | h
    · exact o2 k h
    · exact h.elim
    · exact p1 k h
  case assign =>
    rintro l' i x I' W' hx ⟨ex, hex, hj⟩ hlt
    obtain ⟨p, hpi, rfl⟩ := em_get hx
    have hpk : Plain p.2 := hp _ (List.mem_of_getElem? hpi)
    have hblk := Blk.new W' 49 zout
    have hri := mail_size' hpk p.1
    have hri2 : zout.size = (#[Value.int .i64 p.1] ++ p.2).size := by rw [(mail_row hpk p.1).1]; exact zout_size
    have hone := (mail_row hpk p.1).2
    have hW := hj.cell (hJ i) (hCl i) hlt 49 zout (#[Value.int .i64 p.1] ++ p.2)
    have hbase : W0.heap.size ≤ W'.heap.size := by
      have := (hj.2.1 _ (.inl (.inl o3))).2
      omega
    gi_wp2_with (first
      | (refine wpListIn_store_blk (.within _) rfl 49 (.tmp 5) (.tmp 11) rfl rfl W'.heap.size (#[Value.int .i64 p.1] ++ p.2) rfl rfl 49 zout hblk hri hri2 hone ?_))
    refine ⟨?_, p, W'.heap.size, fun k => ex k ∨ k = W'.heap.size, ⟨rfl, ?_, hbase, rfl⟩, ?_⟩
    · refine (((Upd.refl nob W').alloc _).setRow (.inr (Nat.le_refl _)) _).keeps fun k hk => ⟨fun f => f, ?_⟩
      rcases hk with h | h
      · exact hlt k h
      · have := hDlt k h; omega
    · rintro k (h | rfl)
      · exact hex k h
      · exact hbase
    · exact ⟨set_congr hW.1 (fun k => by simp only [or_assoc]), fun k hk => hW.2.1 k (by simpa only [or_assoc] using hk), hW.2.2⟩
  case body =>
    rintro l' i x I' W' a₁ hx ⟨p, cb, ex, ⟨rfl, hex, hcb, rfl⟩, hj⟩ hlt ⟨r, hr⟩
    obtain ⟨q, hpi, hqq⟩ := em_get hx
    have hpq : p.1 = q.1 ∧ p.2 = q.2 := by
      simp only [Array.mk.injEq, List.cons.injEq, Value.agg.injEq, and_true] at hqq
      have e := congrArg Array.toList hqq
      simp only [Array.toList_append, List.cons_append, List.nil_append, List.cons.injEq, Value.int.injEq, true_and] at e
      exact ⟨e.1, Array.toList_inj.1 e.2⟩
    have hpk : Plain p.2 := by rw [hpq.2]; exact hp _ (List.mem_of_getElem? hpi)
    have hil : i < ms.length := (List.getElem?_eq_some_iff.1 hpi).1
    clear hqq hpq hpi
    obtain ⟨row, hrw⟩ : ∃ row, #[Value.int .i64 p.1] ++ p.2 = row := ⟨_, rfl⟩
    have hri := mail_size' hpk p.1
    rw [hrw] at hri hx hj
    simp only [hrw]
    have hc := hj.2.2.1
    rw [hC] at hc
    obtain ⟨hyb, hlb⟩ := hc
    have hrb : Blk W' cb 49 row := hj.2.2.2
    have c2 : W'.cell? ⟨W.heap.size + 1, 0, none⟩ = some (.int .i64 ((n : Int) - i)) := hlb.cell 0
    have f2 := hlb.frozen 0
    have hW0le : W0.heap.size ≤ W'.heap.size := by have := (hj.2.1 _ (.inl (.inl o3))).2; omega
    -- the store of what is left
    obtain ⟨W2, hW2⟩ : ∃ W2, W'.setCell ⟨W.heap.size + 1, 0, none⟩ (.int .i64 ((n : Int) - i - 1)) = W2 := ⟨_, rfl⟩
    have hu2 : Upd (fun k => k = W.heap.size + 1) W' W2 := by rw [← hW2]; exact (Upd.refl (fun k => k = W.heap.size + 1) W').setCell (p := ⟨W.heap.size + 1, 0, none⟩) (.inl rfl) _
    have hs2 : W2.heap.size = W'.heap.size := by rw [← hW2]; simp [World.setCell]
    have hj2 : J i (fun k => I' k ∨ (own k ∨ ex k)) W2 := (hJ i).same hj.1 (hu2.mono fun k h => .inr (.inl (h ▸ o3))) hs2
    have hn1I : ¬ I' (W.heap.size + 1) := (hj.2.1 _ (.inl (.inl o3))).1
    have hnD : ¬ D (W.heap.size + 1) := fun h => by have := hDlt _ h; omega
    have kk2 : Keeps (fun k => I' k ∨ D k) W' W2 := hu2.keeps fun k hk => ⟨fun e => by subst e; exact hk.elim hn1I hnD, hk.elim (hlt k) (fun h => by have := hDlt k h; omega)⟩
    have hyb2 : Blk W2 W.heap.size _ _ := hyb.upd hu2 (by omega)
    have hlb2 : Blk W2 (W.heap.size + 1) 3 #[.int .i64 ((n : Int) - i - 1)] := by rw [← hW2]; exact hlb.set 0 _
    have hrb2 : Blk W2 cb 49 row := hrb.upd hu2 (by omega)
    have d1 : W2.cell? ⟨W.heap.size, 0, none⟩ = some (.func (.yield l) #[] #[]) := hyb2.cell 0
    obtain ⟨fn, tmps, assign, body, hy, hR⟩ := hY i _ _ W2 hx hj2
    have hkeep : ∀ W3 : World, Keeps (fun k => (I' k ∨ (own k ∨ ex k)) ∨ k = nb ∨ k = sb ∨ D k) W2 W3 → Keeps (fun k => I' k ∨ D k) W' W3 := fun W3 h =>
      kk2.trans (h.mono fun k hk => hk.imp .inl (fun h => .inr (.inr h)))
    have hWend : ∀ (Jn : (Nat → Prop) → World → Prop) (Cn : World → Prop) (W3 : World), Keeps (fun k => (I' k ∨ (own k ∨ ex k)) ∨ k = nb ∨ k = sb ∨ D k) W2 W3 →
        Jn (fun k => I' k ∨ (own k ∨ ex k)) W3 → Cn W3 → WrapX W0.heap.size Jn own prot Cn I' W3 := fun Jn Cn W3 hk hj4 hc => by
      refine ⟨ex, hex, hj4, fun k hk' => ?_, hc⟩
      have hthis := hj.2.1 k (hk'.imp id .inl)
      exact ⟨hthis.1, Nat.lt_of_lt_of_le hthis.2 (by have := hk.size; omega)⟩
    have hCn : ∀ W3 : World, Keeps (fun k => (I' k ∨ (own k ∨ ex k)) ∨ k = nb ∨ k = sb ∨ D k) W2 W3 → C (i + 1) W3 := fun W3 hk => by
      rw [hC]
      have e1 : (n : Int) - ((i + 1 : Nat) : Int) = n - i - 1 := by omega
      exact ⟨hyb2.keeps hk (.inl (.inr (.inl o1))), e1 ▸ hlb2.keeps hk (.inl (.inr (.inl o3)))⟩
    have H1 := Lib.hid hyb2; clear hyb2
    have H2 := Lib.hid hlb2; clear hlb2
    have H3 := Lib.hid hs2; clear hs2
    have H4 := Lib.hid hsz
    clear hC hprot hown hsz
    gi_wp2_with (first
      | (refine wpListIn_load_blk (.within _) rfl 49 (.tmp 5) rfl cb rfl 49 row _ hrb2 Try.underlying49 rfl hri ?_))
    refine ⟨rfl, (roundInRound hR).mono ?_⟩
    rintro e W3 ⟨hk3, (⟨rfl, hj3⟩ | ⟨rfl, hx3⟩)⟩
    · have hlb3 : Blk W3 (W.heap.size + 1) 3 #[.int .i64 ((n : Int) - i - 1)] := H2.out.keeps hk3 (.inl (.inr (.inl o3)))
      have c3 : W3.cell? ⟨W.heap.size + 1, 0, none⟩ = some (.int .i64 ((n : Int) - i - 1)) := hlb3.cell 0
      have hb : ((n : Int) - i - 1 == 0) = false := by simp; omega
      gi_wp2
      exact ⟨hkeep W3 hk3, hWend _ _ W3 hk3 hj3 (hCn W3 hk3)⟩
    · gi_wp2
      all_goals exact ⟨hkeep W3 hk3, hWend _ _ W3 hk3 hx3 rfl⟩
  case done =>
    rintro d I' W' ⟨ex, hex, hj⟩ hd hle hk hI1 hI2
    gi_wp2
    refine ⟨by simp, .inl ⟨_, _, rfl, run_takeDeferred hk, ?_⟩⟩
    refine ⟨_, results_none rfl _ _ _, ⟨_, rfl⟩, fun k => I' k ∨ own k ∨ ex k, fun k h => .inr (.inl (by rw [hown]; exact .inl h)), ?_, .inl ?_⟩
    · rintro k (h | h | h)
      · rcases hI2 k h with h | h
        · exact h.elim
        · exact .inr (by omega)
      · rw [hown] at h
        rcases h with h | h | h
        · exact .inl h
        · exact .inr (by omega)
        · exact .inr (by omega)
      · have := hex k h; exact .inr (by omega)
    · exact (hJ _).same hj.1 ((Upd.refl _ _).putObj (.inl (.inl hd)) (.deferred none)) (by simp)
  case stop =>
    rintro d c I' W' ⟨ex, hex, hj⟩ hd hle hk hI1 hI2
    obtain rfl : c = .ret := hj.2.2
    gi_wp2
    refine ⟨by simp, .inl ⟨_, _, rfl, run_takeDeferred hk, ?_⟩⟩
    refine ⟨_, results_none rfl _ _ _, ⟨_, rfl⟩, fun k => I' k ∨ own k ∨ ex k, fun k h => .inr (.inl (by rw [hown]; exact .inl h)), ?_, .inr ?_⟩
    · rintro k (h | h | h)
      · rcases hI2 k h with h | h
        · exact h.elim
        · exact .inr (by omega)
      · rw [hown] at h
        rcases h with h | h | h
        · exact .inl h
        · exact .inr (by omega)
        · exact .inr (by omega)
      · have := hex k h; exact .inr (by omega)
    · exact hJx.same hj.1 ((Upd.refl _ _).putObj (.inl (.inl hd)) (.deferred none)) (by simp)
end Go.Proofs.Ytdpnpkleobjkfaa
