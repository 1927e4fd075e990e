/- gen.Count, gen.Keep, gen.Take over ints: what their iterators yield. -/
import Derived.Test.YtdpnpkleobjkfaaProg
import Derived.Test.YtdpnpkleobjkfaaLaw
import Derived.Outline
import Derived.BigFrameIn
import Derived.WalkSpells
import Derived.Lib.Hide
namespace Go.Proofs.Ytdpnpkleobjkfaa
open Go.RowKit Go.Shelf
attribute [local go_sem] Oper.semAt_some
set_option maxRecDepth 100000
set_option maxHeartbeats 400000

/-- Integers as an iterator's elements. -/
def ei (xs : List Int) : List (Array Value) := xs.map fun x => #[Value.int .i64 x]
theorem ei_get {xs : List Int} {i : Nat} {x : Array Value} (h : (ei xs)[i]? = some x) : ∃ z, xs[i]? = some z ∧ x = #[.int .i64 z] := by
  simp only [ei, List.getElem?_map, Option.map_eq_some_iff] at h
  obtain ⟨z, hz, rfl⟩ := h
  exact ⟨z, hz, rfl⟩
theorem ei_of {xs : List Int} {i : Nat} {z : Int} (h : xs[i]? = some z) : (ei xs)[i]? = some #[.int .i64 z] := by simp [ei, h]
theorem ei_len (xs : List Int) : (ei xs).length = xs.length := by simp [ei]
theorem ei_size {xs : List Int} : ∀ x, x ∈ ei xs → x.size = 1 := by
  intro x hx
  simp only [ei, List.mem_map] at hx
  obtain ⟨z, _, rfl⟩ := hx
  rfl

def upto (n : Nat) : List Int := (List.range n).map fun (i : Nat) => (i : Int)
theorem upto_get {n i : Nat} (h : i < n) : (upto n)[i]? = some (i : Int) := by simp [upto, List.getElem?_range h]
theorem upto_len (n : Nat) : (upto n).length = n := by simp [upto]

theorem count1_spec (n : Nat) (hn : n ≤ 4611686018427387904) (b : Nat) (w₀ : World) (hb : w₀.cell? ⟨b, 0, none⟩ = some (.int .i64 n)) :
    IterSpec Try.prog 49 #[.pointer (some ⟨b, 0, none⟩)] (fun k => k = b) w₀ (ei (upto n)) := by
  intro l J Jx hJ hJx hY I W hag hI h0
  have hc : W.cell? ⟨b, 0, none⟩ = some (.int .i64 n) := (hag.cell rfl).trans hb
  clear hb
  refine callsIn_wide (n := 0).1 ?_
  refine callsIn_of_wp Try.func49 rfl trivial ?_ rfl
  simp only [Try.ntmps49, List.size_toArray, List.length_cons, List.length_nil, Nat.reduceAdd, Nat.reduceSub, Array.replicate_succ, Array.replicate_zero, List.push_toArray, List.append_toArray, List.nil_append, List.cons_append]
  gi_wp2
  gi_loopw [5] (fun p wr => ∃ k : Nat, k ≤ n ∧ p = .int .i64 k ∧ J k I wr ∧ Keeps (fun k => k = b) w₀ wr ∧ W.heap.size ≤ wr.heap.size) (fun p _ => n - (intOf p).toNat)
  case atStart => exact ⟨0, Nat.zero_le _, rfl, h0, hag, Nat.le_refl _⟩
  case round =>
    obtain ⟨k, hk, rfl, hj, hkp, hsz⟩ := hrel
    by_cases hlt : k < n
    · obtain ⟨fn, tmps, assign, body, hy, hR⟩ := hY k _ I wr (ei_of (upto_get hlt)) hj
      gi_wp2
      refine ⟨rfl, hR.mono ?_⟩
      rintro e W3 ⟨hk3, (⟨rfl, hj3⟩ | ⟨rfl, hx3⟩)⟩
      · gi_wp2
        go_roundw
        case rel => exact ⟨k + 1, hlt, by go_num, hj3, hkp.trans (hk3.mono fun k h => .inr h), Nat.le_trans hsz hk3.size⟩
        case measure => simp [intOf]; omega
      · gi_wp2
        refine bodyPost_ret (results_none rfl _ _ _) rfl ?_
        exact ⟨⟨_, rfl⟩, I, fun _ h => h, fun _ h => .inl h, .inr hx3⟩
    · gi_wp2
      go_end0
      have : k = n := by omega
      subst this
      exact ⟨⟨_, rfl⟩, I, fun _ h => h, fun _ h => .inl h, .inl (by rw [ei_len, upto_len]; exact hj)⟩

theorem over_int (g : FuncId) (lb : Array Value) (w : World) : Calls Try.prog 32 #[.func (.func g) #[] lb] w fun e w' =>
    e = .returned (.func (.func g) #[] lb) ∧ w = w' := by
  have he := run_eql_func_nil (P := Try.prog) 70 Try.underlying70
  go_enter Try.func32, Try.ntmps32
  go_wp2
  go_ret
  exact ⟨rfl, rfl⟩

theorem filter_at {α : Type} (p : α → Bool) : ∀ (xs : List α) (i : Nat) (x : α), xs[i]? = some x → p x = true → (xs.filter p)[((xs.take i).filter p).length]? = some x
  | [], i, x, h, _ => by simp at h
  | y :: ys, 0, x, h, hp => by simp at h; subst h; simp [hp]
  | y :: ys, i + 1, x, h, hp => by
    have := filter_at p ys i x (by simpa using h) hp
    by_cases hy : p y = true
    · simp [hy, this]
    · simp [hy, this]

theorem take_succ_of {α : Type} {xs : List α} {i : Nat} {x : α} (h : xs[i]? = some x) : xs.take (i + 1) = xs.take i ++ [x] := by
  rw [List.take_add_one, h]; rfl

/-- What a predicate that is handed in promises: it answers, and turns nothing. -/
def PredSpec (P : Program) (pf : FuncId) (plb : Array Value) (D : Nat → Prop) (w₀ : World) (p : Int → Bool) : Prop :=
  ∀ x W, Keeps D w₀ W → Calls P pf (#[.int .i64 x] ++ plb) W fun e W' => e = .returned (.bool (p x)) ∧ W = W'

theorem keep1_spec {gf pf : FuncId} {lb plb : Array Value} {D : Nat → Prop} {w₀ : World} {xs : List Int} {p : Int → Bool} (hit : IterSpec Try.prog gf lb D w₀ (ei xs))
    (hgf : ∀ args w, (callFunc gf args).run Try.prog w = .ok (.enter gf args) w) (hpf : ∀ args w, (callFunc pf args).run Try.prog w = .ok (.enter pf args) w)
    (hp : PredSpec Try.prog pf plb D w₀ p) (hD : ∀ k, D k → k < w₀.heap.size) (fb sb : Nat) (hf : Blk w₀ fb 44 #[.func (.func pf) #[] plb]) (hs : Blk w₀ sb 70 #[.func (.func gf) #[] lb]) :
    IterSpec Try.prog 48 #[.pointer (some ⟨fb, 0, none⟩), .pointer (some ⟨sb, 0, none⟩)] (fun k => k = fb ∨ k = sb ∨ D k) w₀ (ei (xs.filter p)) := by
  intro l J Jx hJ hJx hY I W hag hI h0
  have hf1 : Blk W fb _ _ := hf.keeps hag (.inl rfl)
  have hs1 : Blk W sb _ _ := hs.keeps hag (.inr (.inl rfl))
  have hcf : W.cell? ⟨fb, 0, none⟩ = some (.func (.func pf) #[] plb) := hf1.cell 0
  have hcs : W.cell? ⟨sb, 0, none⟩ = some (.func (.func gf) #[] lb) := hs1.cell 0
  have he := run_eql_func_nil (P := Try.prog) 44 Try.underlying44
  have hlf := hf1.lt
  have hls := hs1.lt
  refine callsIn_wide (n := 0).1 ?_
  refine callsIn_of_wp_marks Try.func48 rfl trivial ?_ rfl
  simp only [Try.ntmps48, List.size_toArray, List.length_cons, List.length_nil, Nat.reduceAdd, Nat.reduceSub, Array.replicate_succ, Array.replicate_zero, List.push_toArray, List.append_toArray, List.nil_append, List.cons_append]
  gi_wp2_with fail
  refine viaCalls (over_int _ _ _) ?_
  rintro e w1 ⟨rfl, rfl⟩
  gi_wp2_with fail
  obtain ⟨W0, hW0⟩ : ∃ W0, W.alloc (.cells #[.func (.yield l) #[] #[]] 44) = W0 := ⟨_, rfl⟩
  have hy0 : Blk W0 W.heap.size 44 #[.func (.yield l) #[] #[]] := by rw [← hW0]; exact Blk.new W _ _
  have hf0 : Blk W0 fb 44 #[.func (.func pf) #[] plb] := by rw [← hW0]; exact hf1.alloc _
  have hs0 : Blk W0 sb 70 #[.func (.func gf) #[] lb] := by rw [← hW0]; exact hs1.alloc _
  have hsz : W0.heap.size = W.heap.size + 1 := by rw [← hW0]; simp
  have hu0 : ∀ S, Upd S W W0 := fun S => by rw [← hW0]; exact (Upd.refl S W).alloc _
  have hd0 : Keeps D w₀ W0 := ⟨Nat.le_trans hag.size (by omega), fun k hk => ((hu0 nob).block k (Nat.lt_of_lt_of_le (hD k hk) hag.size) (fun f => f)).trans (hag.same k (.inr (.inr hk)))⟩
  have hJ0 : J 0 (fun k => I k ∨ k = W.heap.size) W0 := by rw [← hW0]; exact (hJ 0).alloc h0 _
  have hDlt : ∀ k, D k → k < W.heap.size := fun k hk => Nat.lt_of_lt_of_le (hD k hk) hag.size
  rw [hW0]
  clear hW0 hcf hcs hf1 hs1
  obtain ⟨own, hown⟩ : ∃ own : Nat → Prop, own = fun k => I k ∨ k = W.heap.size := ⟨_, rfl⟩
  obtain ⟨prot, hprot⟩ : ∃ prot : Nat → Prop, prot = fun k => k = W.heap.size ∨ k = fb ∨ k = sb ∨ D k := ⟨_, rfl⟩
  rw [← hown] at hJ0
  have o1 : own W.heap.size := by rw [hown]; exact .inr rfl
  have o2 : ∀ k, own k → k < W0.heap.size := fun k h => by
    rw [hown] at h
    rcases h with h | h
    · have := hI k h; omega
    · omega
  have p1 : ∀ k, prot k → k < W0.heap.size := fun k h => by
    rw [hprot] at h
    rcases h with h | h | h | h
    · omega
    · have := hf0.lt; omega
    · have := hs0.lt; omega
    · have := hDlt k h; omega
  have p2 : ∀ k, prot k → own k ∨ (k = fb ∨ k = sb ∨ D k) := fun k h => by
    rw [hprot] at h
    rcases h with h | h
    · exact .inl (h ▸ o1)
    · exact .inr h
  have q1 : prot W.heap.size := by rw [hprot]; exact .inl rfl
  have q2 : prot fb := by rw [hprot]; exact .inr (.inl rfl)
  have q3 : ∀ k, D k → prot k := fun k h => by rw [hprot]; exact .inr (.inr (.inr h))
  refine wpIn_range hit rfl hgf (fun k h => by have := hDlt k h; omega) hd0 ei_size
    (fun i => Wrap (J ((xs.take i).filter p).length) own prot (fun W' => ∀ k, prot k → W'.heap[k]? = W0.heap[k]?))
    (fun c => Wrap Jx own prot (fun _ => c = .ret))
    (fun i => stab_wrap (hJ _) (fun W1 W2 h hc k hk => (h k hk).trans (hc k hk))) (fun c => stab_wrap hJx (fun _ _ _ h => h)) nob (fun _ h => h.elim)
    ⟨by simpa [nob] using hJ0, fun k hk => ⟨fun f => f, hk.elim (o2 k) (p1 k)⟩, fun _ _ => rfl⟩
    (fun i x a₁ I' W' => (∃ z, x = #[.int .i64 z] ∧ a₁ = { tmps := #[.func (.yield l) #[] #[], .pointer (some ⟨fb, 0, none⟩), .pointer (some ⟨sb, 0, none⟩), .pointer (some ⟨W.heap.size, 0, none⟩), .int .i64 z, .func (.func pf) #[] plb, .bool false,
      .func (.func gf) #[] lb, .func (.func gf) #[] lb, .int .i64 z, undef, undef, undef, undef, undef, undef, undef, undef, undef], defers := [] }) ∧
      Wrap (J ((xs.take i).filter p).length) own prot (fun W' => ∀ k, prot k → W'.heap[k]? = W0.heap[k]?) I' W')
    (fun i x a => stab_and _ (stab_wrap (hJ _) (fun W1 W2 h hc k hk => (h k hk).trans (hc k hk)))) ?assign ?body ?done ?stop
  case assign =>
    intro l' i x I' W' hx hj hlt
    obtain ⟨z, hz, rfl⟩ := ei_get hx
    gi_wp2
    exact ⟨Keeps.refl _ _, ⟨z, rfl, rfl⟩, hj⟩
  case body =>
    rintro l' i x I' W' a₁ hx ⟨⟨z, rfl, rfl⟩, hj⟩ hlt ⟨r, hr⟩
    obtain ⟨z', hz, hzz⟩ := ei_get hx
    simp only [Array.mk.injEq, List.cons.injEq, Value.int.injEq, true_and, and_true] at hzz
    subst hzz
    have hyb : Blk W' W.heap.size 44 #[.func (.yield l) #[] #[]] := (hj.2.2 _ q1).trans hy0
    have hfb : Blk W' fb 44 #[.func (.func pf) #[] plb] := (hj.2.2 _ q2).trans hf0
    have c1 : W'.cell? ⟨W.heap.size, 0, none⟩ = some (.func (.yield l) #[] #[]) := hyb.cell 0
    have c2 : W'.cell? ⟨fb, 0, none⟩ = some (.func (.func pf) #[] plb) := hfb.cell 0
    have hkd : Keeps D w₀ W' := ⟨Nat.le_trans hd0.size (by have := (hj.2.1 _ (.inl o1)).2; omega), fun k hk => (hj.2.2 k (q3 k hk)).trans (hd0.same k hk)⟩
    cases hpz : p z with
    | false =>
      gi_wp2_with fail
      refine viaCallsR (hp z _ hkd) ?_
      rintro e w2 ⟨rfl, rfl⟩
      rw [hpz]
      have hjn : (xs.take (i + 1)).filter p = (xs.take i).filter p := by rw [take_succ_of hz]; simp [hpz]
      gi_wp2
      all_goals
        refine ⟨fun _ _ => trivial, ?_⟩
        gi_wp2
        exact ⟨Keeps.refl _ _, by rw [hjn]; exact hj⟩
    | true =>
      have hjn : ((xs.take (i + 1)).filter p).length = ((xs.take i).filter p).length + 1 := by rw [take_succ_of hz]; simp [hpz]
      obtain ⟨fn, tmps, assign, body, hy, hR⟩ := hY _ _ _ W' (ei_of (filter_at p xs i z hz hpz)) hj.1
      gi_wp2_with fail
      refine viaCallsR (hp z _ hkd) ?_
      rintro e w2 ⟨rfl, rfl⟩
      rw [hpz]
      gi_wp2
      refine ⟨rfl, (roundInRound hR).mono ?_⟩
      rintro e W3 ⟨hk3, (⟨rfl, hj3⟩ | ⟨rfl, hx3⟩)⟩
      · gi_wp2
        refine ⟨hk3.mono ?_, ?_⟩
        · rintro k (h | h)
          · exact .inl (.inl h)
          · exact .inr (.inr (.inr h))
        · rw [hjn]
          refine hj.keeps hk3.size hj3 fun k h => (hk3.same k ?_).trans (hj.2.2 k h)
          rcases p2 k h with h | h
          · exact .inl (.inr h)
          · exact .inr h
      · gi_wp2
        refine ⟨hk3.mono ?_, hj.keeps hk3.size hx3 rfl⟩
        rintro k (h | h)
        · exact .inl (.inl h)
        · exact .inr (.inr (.inr h))
  case done =>
    intro d I' W' hj hd hle hk hI1 hI2
    gi_wp2
    refine ⟨by simp, .inl ⟨_, _, rfl, run_takeDeferred hk, ?_⟩⟩
    refine ⟨_, results_none rfl _ _ _, ⟨_, rfl⟩, fun k => I' k ∨ own k, fun k h => .inr (by rw [hown]; exact .inl h), ?_, .inl ?_⟩
    · rintro k (h | h)
      · rcases hI2 k h with h | h
        · exact h.elim
        · exact .inr (by omega)
      · rw [hown] at h
        rcases h with h | h
        · exact .inl h
        · exact .inr (by omega)
    · have := (hJ _).same hj.1 ((Upd.refl _ _).putObj (.inl (.inl hd)) (.deferred none)) (by simp)
      rwa [ei_len, List.take_length, ← ei_len] at this
  case stop =>
    intro d c I' W' hj hd hle hk hI1 hI2
    obtain rfl : c = .ret := hj.2.2
    gi_wp2
    refine ⟨by simp, .inl ⟨_, _, rfl, run_takeDeferred hk, ?_⟩⟩
    refine ⟨_, results_none rfl _ _ _, ⟨_, rfl⟩, fun k => I' k ∨ own k, fun k h => .inr (by rw [hown]; exact .inl h), ?_, .inr ?_⟩
    · rintro k (h | h)
      · rcases hI2 k h with h | h
        · exact h.elim
        · exact .inr (by omega)
      · rw [hown] at h
        rcases h with h | h
        · exact .inl h
        · exact .inr (by omega)
    · exact hJx.same hj.1 ((Upd.refl _ _).putObj (.inl (.inl hd)) (.deferred none)) (by simp)

theorem take1_spec {gf : FuncId} {lb : Array Value} {D : Nat → Prop} {w₀ : World} {xs : List Int} (n : Nat) (hn : n ≤ 4611686018427387904) (hit : IterSpec Try.prog gf lb D w₀ (ei xs))
    (hgf : ∀ args w, (callFunc gf args).run Try.prog w = .ok (.enter gf args) w)
    (hD : ∀ k, D k → k < w₀.heap.size) (nb sb : Nat) (hf : Blk w₀ nb 3 #[.int .i64 n]) (hs : Blk w₀ sb 70 #[.func (.func gf) #[] lb]) :
    IterSpec Try.prog 31 #[.pointer (some ⟨nb, 0, none⟩), .pointer (some ⟨sb, 0, none⟩)] (fun k => k = nb ∨ k = sb ∨ D k) w₀ (ei (xs.take n)) := by
  intro l J Jx hJ hJx hY I W hag hI h0
  have hf1 : Blk W nb _ _ := hf.keeps hag (.inl rfl)
  have hs1 : Blk W sb _ _ := hs.keeps hag (.inr (.inl rfl))
  have hcf : W.cell? ⟨nb, 0, none⟩ = some (.int .i64 n) := hf1.cell 0
  have hcs : W.cell? ⟨sb, 0, none⟩ = some (.func (.func gf) #[] lb) := hs1.cell 0
  have hlf := hf1.lt
  have hls := hs1.lt
  refine callsIn_wide (n := 0).1 ?_
  refine callsIn_of_wp_marks Try.func31 rfl trivial ?_ rfl
  simp only [Try.ntmps31, List.size_toArray, List.length_cons, List.length_nil, Nat.reduceAdd, Nat.reduceSub, Array.replicate_succ, Array.replicate_zero, List.push_toArray, List.append_toArray, List.nil_append, List.cons_append]
  by_cases hn1 : 1 ≤ n
  case neg =>
    obtain rfl : n = 0 := by omega
    gi_wp2
    refine ⟨_, results_none rfl _ _ _, ⟨_, rfl⟩, grow I W ((W.alloc (.cells #[.func (.yield l) #[] #[]] 44)).alloc (.cells #[.int .i64 0] 3)), fun _ h => .inl h, fun _ h => h.imp id (·.1), .inl ?_⟩
    exact hJ 0 I W _ h0 (((Upd.refl _ _).alloc _).alloc _)
  have hdec : decide ((n : Int) < 1) = false := by simp; omega
  gi_wp2_with fail
  refine viaCalls (over_int _ _ _) ?_
  rintro e w1 ⟨rfl, rfl⟩
  gi_wp2_with fail
  obtain ⟨W0, hW0⟩ : ∃ W0, (W.alloc (.cells #[.func (.yield l) #[] #[]] 44)).alloc (.cells #[.int .i64 n] 3) = W0 := ⟨_, rfl⟩
  have hy0 : Blk W0 W.heap.size 44 #[.func (.yield l) #[] #[]] := by rw [← hW0]; exact (Blk.new W _ _).alloc _
  have hn0 : Blk W0 (W.heap.size + 1) 3 #[.int .i64 n] := by
    rw [← hW0]
    have := Blk.new (W.alloc (.cells #[.func (.yield l) #[] #[]] 44)) 3 #[.int .i64 n]
    rwa [World.size_alloc] at this
  have hs0 : Blk W0 sb 70 #[.func (.func gf) #[] lb] := by rw [← hW0]; exact (hs1.alloc _).alloc _
  have hsz : W0.heap.size = W.heap.size + 2 := by rw [← hW0]; simp
  have hu0 : ∀ S, Upd S W W0 := fun S => by rw [← hW0]; exact ((Upd.refl S W).alloc _).alloc _
  have hd0 : Keeps D w₀ W0 := ⟨Nat.le_trans hag.size (by omega), fun k hk => ((hu0 nob).block k (Nat.lt_of_lt_of_le (hD k hk) hag.size) (fun f => f)).trans (hag.same k (.inr (.inr hk)))⟩
  have hDlt : ∀ k, D k → k < W.heap.size := fun k hk => Nat.lt_of_lt_of_le (hD k hk) hag.size
  obtain ⟨own, hown⟩ : ∃ own : Nat → Prop, own = fun k => I k ∨ k = W.heap.size ∨ k = W.heap.size + 1 := ⟨_, rfl⟩
  have hJ0 : J 0 own W0 := by
    have := hJ 0 I W W0 h0 (hu0 _)
    have e : grow I W W0 = own := by
      rw [hown]
      funext k
      simp only [grow, hsz]
      exact propext ⟨fun x => x.imp id (by omega), fun x => x.imp id (by omega)⟩
    rwa [e] at this
  rw [hW0]
  clear hW0 hcf hcs hf1 hs1
  obtain ⟨prot, hprot⟩ : ∃ prot : Nat → Prop, prot = fun k => k = W.heap.size ∨ k = W.heap.size + 1 ∨ k = sb ∨ D k := ⟨_, rfl⟩
  have o1 : own W.heap.size := by rw [hown]; exact .inr (.inl rfl)
  have o3 : own (W.heap.size + 1) := by rw [hown]; exact .inr (.inr rfl)
  have o2 : ∀ k, own k → k < W0.heap.size := fun k h => by
    rw [hown] at h
    rcases h with h | h | h
    · have := hI k h; omega
    · omega
    · omega
  have p1 : ∀ k, prot k → k < W0.heap.size := fun k h => by
    rw [hprot] at h
    rcases h with h | h | h | h
    · omega
    · omega
    · have := hs0.lt; omega
    · have := hDlt k h; omega
  have q1 : prot W.heap.size := by rw [hprot]; exact .inl rfl
  have q2 : prot (W.heap.size + 1) := by rw [hprot]; exact .inr (.inl rfl)
  -- what is left; the yield
  obtain ⟨C, hC⟩ : ∃ C : Nat → World → Prop, C = fun i W' => i < n ∧ Blk W' W.heap.size 44 #[.func (.yield l) #[] #[]] ∧ Blk W' (W.heap.size + 1) 3 #[.int .i64 ((n : Int) - i)] := ⟨_, rfl⟩
  have hC0 : C 0 W0 := by rw [hC]; exact ⟨by omega, hy0, by simpa using hn0⟩
  have hCl : ∀ i W1 W2, (∀ k, prot k → W2.heap[k]? = W1.heap[k]?) → C i W1 → C i W2 := fun i W1 W2 h hc => by
    rw [hC] at hc ⊢
    exact ⟨hc.1, (h _ q1).trans hc.2.1, (h _ q2).trans hc.2.2⟩
  refine wpIn_range hit rfl hgf (fun k h => by have := hDlt k h; omega) hd0 ei_size
    (fun i => Wrap (J i) own prot (C i))
    (fun c => Wrap (fun I' W' => (n ≤ xs.length ∧ J n I' W') ∨ Jx I' W') own prot (fun _ => c = .ret))
    (fun i => stab_wrap (hJ _) (hCl i)) (fun c => stab_wrap (fun I1 W1 W2 h hu => h.imp (fun h => ⟨h.1, hJ n I1 W1 W2 h.2 hu⟩) (fun h => hJx I1 W1 W2 h hu)) (fun _ _ _ h => h)) nob (fun _ h => h.elim)
    ⟨by simpa [nob] using hJ0, fun k hk => ⟨fun f => f, hk.elim (o2 k) (p1 k)⟩, hC0⟩
    (fun i x a₁ I' W' => (∃ z, x = #[.int .i64 z] ∧ a₁ = { tmps := #[.func (.yield l) #[] #[], .pointer (some ⟨nb, 0, none⟩), .pointer (some ⟨sb, 0, none⟩), .pointer (some ⟨W.heap.size, 0, none⟩), .pointer (some ⟨W.heap.size + 1, 0, none⟩), .int .i64 z, .int .i64 n, .int .i64 n, .bool false,
      .func (.func gf) #[] lb, .func (.func gf) #[] lb, .int .i64 z, undef, undef, undef, undef, undef, undef, undef, undef, undef, undef], defers := [] }) ∧
      Wrap (J i) own prot (C i) I' W')
    (fun i x a => stab_and _ (stab_wrap (hJ _) (hCl i))) ?assign ?body ?done ?stop
  case assign =>
    intro l' i x I' W' hx hj hlt
    obtain ⟨z, hz, rfl⟩ := ei_get hx
    gi_wp2
    exact ⟨Keeps.refl _ _, ⟨z, rfl, rfl⟩, hj⟩
  case body =>
    rintro l' i x I' W' a₁ hx ⟨⟨z, rfl, rfl⟩, hj⟩ hlt ⟨r, hr⟩
    obtain ⟨z', hz, hzz⟩ := ei_get hx
    simp only [Array.mk.injEq, List.cons.injEq, Value.int.injEq, true_and, and_true] at hzz
    subst hzz
    have hc := hj.2.2
    rw [hC] at hc
    obtain ⟨hin, hyb, hlb⟩ := hc
    have c1 : W'.cell? ⟨W.heap.size, 0, none⟩ = some (.func (.yield l) #[] #[]) := hyb.cell 0
    have c2 : W'.cell? ⟨W.heap.size + 1, 0, none⟩ = some (.int .i64 ((n : Int) - i)) := hlb.cell 0
    have f2 := hlb.frozen 0
    have hle : i < xs.length := (List.getElem?_eq_some_iff.1 hz).1
    -- the store of what is left
    obtain ⟨W2, hW2⟩ : ∃ W2, W'.setCell ⟨W.heap.size + 1, 0, none⟩ (.int .i64 ((n : Int) - i - 1)) = W2 := ⟨_, rfl⟩
    have hu2 : Upd (fun k => k = W.heap.size + 1) W' W2 := by rw [← hW2]; exact (Upd.refl (fun k => k = W.heap.size + 1) W').setCell (p := ⟨W.heap.size + 1, 0, none⟩) (.inl rfl) _
    have hs2 : W2.heap.size = W'.heap.size := by rw [← hW2]; simp [World.setCell]
    have hj2 : J i (fun k => I' k ∨ own k) W2 := (hJ i).same hj.1 (hu2.mono fun k h => .inr (h ▸ o3)) hs2
    have hn1I : ¬ I' (W.heap.size + 1) := (hj.2.1 _ (.inl o3)).1
    have hnD : ¬ D (W.heap.size + 1) := fun h => by have := hDlt _ h; omega
    have kk2 : Keeps (fun k => I' k ∨ D k) W' W2 := hu2.keeps fun k hk => ⟨fun e => by subst e; exact hk.elim hn1I hnD, hk.elim (hlt k) (fun h => by have := hDlt k h; have := (hj.2.1 _ (.inl o1)).2; omega)⟩
    have hyb2 : Blk W2 W.heap.size _ _ := hyb.upd hu2 (by omega)
    have hlb2 : Blk W2 (W.heap.size + 1) 3 #[.int .i64 ((n : Int) - i - 1)] := by rw [← hW2]; exact hlb.set 0 _
    have d1 : W2.cell? ⟨W.heap.size, 0, none⟩ = some (.func (.yield l) #[] #[]) := hyb2.cell 0
    obtain ⟨fn, tmps, assign, body, hy, hR⟩ := hY i _ _ W2 (ei_of (by rw [List.getElem?_take_of_lt hin]; exact hz)) hj2
    have H1 := Lib.hid hyb2; clear hyb2
    have H2 := Lib.hid hlb2; clear hlb2
    have H3 := Lib.hid hs2; clear hs2
    gi_wp2_with fail
    refine ⟨rfl, (roundInRound hR).mono ?_⟩
    rintro e W3 ⟨hk3, (⟨rfl, hj3⟩ | ⟨rfl, hx3⟩)⟩
    · have hlb3 : Blk W3 (W.heap.size + 1) 3 #[.int .i64 ((n : Int) - i - 1)] := H2.out.keeps hk3 (.inl (.inr o3))
      have hyb3 : Blk W3 W.heap.size 44 #[.func (.yield l) #[] #[]] := H1.out.keeps hk3 (.inl (.inr o1))
      have c3 : W3.cell? ⟨W.heap.size + 1, 0, none⟩ = some (.int .i64 ((n : Int) - i - 1)) := hlb3.cell 0
      have kk3 : Keeps (fun k => I' k ∨ D k) W' W3 := kk2.trans (hk3.mono fun k h => h.imp .inl (fun h => .inr (.inr h)))
      have hsz3 : W'.heap.size ≤ W3.heap.size := kk3.size
      by_cases hlast : i + 1 = n
      · have hb : ((n : Int) - i - 1 == 0) = true := by simp; omega
        gi_wp2
        exact ⟨kk3, hj.keeps hsz3 (.inl ⟨by omega, hlast ▸ hj3⟩) rfl⟩
      · have hb : ((n : Int) - i - 1 == 0) = false := by simp; omega
        gi_wp2
        refine ⟨kk3, hj.keeps hsz3 hj3 ?_⟩
        have e1 : (n : Int) - ((i + 1 : Nat) : Int) = n - i - 1 := by omega
        rw [hC]
        exact ⟨by omega, hyb3, e1 ▸ hlb3⟩
    · have kk3 : Keeps (fun k => I' k ∨ D k) W' W3 := kk2.trans (hk3.mono fun k h => h.imp .inl (fun h => .inr (.inr h)))
      have hsz3 : W'.heap.size ≤ W3.heap.size := kk3.size
      gi_wp2
      all_goals exact ⟨kk3, hj.keeps hsz3 (.inr hx3) rfl⟩
  case done =>
    intro d I' W' hj hd hle hk hI1 hI2
    have hc := hj.2.2
    rw [hC] at hc
    have hlen : xs.length < n := by have := hc.1; rwa [ei_len] at this
    clear hc
    gi_wp2
    refine ⟨by simp, .inl ⟨_, _, rfl, run_takeDeferred hk, ?_⟩⟩
    refine ⟨_, results_none rfl _ _ _, ⟨_, rfl⟩, fun k => I' k ∨ own k, fun k h => .inr (by rw [hown]; exact .inl h), ?_, .inl ?_⟩
    · rintro k (h | h)
      · rcases hI2 k h with h | h
        · exact h.elim
        · exact .inr (by omega)
      · rw [hown] at h
        rcases h with h | h | h
        · exact .inl h
        · exact .inr (by omega)
        · exact .inr (by omega)
    · have := (hJ _).same hj.1 ((Upd.refl _ _).putObj (.inl (.inl hd)) (.deferred none)) (by simp)
      rwa [ei_len, List.take_of_length_le (Nat.le_of_lt hlen), ← ei_len]
  case stop =>
    intro d c I' W' hj hd hle hk hI1 hI2
    obtain rfl : c = .ret := hj.2.2
    gi_wp2
    refine ⟨by simp, .inl ⟨_, _, rfl, run_takeDeferred hk, ?_⟩⟩
    refine ⟨_, results_none rfl _ _ _, ⟨_, rfl⟩, fun k => I' k ∨ own k, fun k h => .inr (by rw [hown]; exact .inl h), ?_, ?_⟩
    · rintro k (h | h)
      · rcases hI2 k h with h | h
        · exact h.elim
        · exact .inr (by omega)
      · rw [hown] at h
        rcases h with h | h | h
        · exact .inl h
        · exact .inr (by omega)
        · exact .inr (by omega)
    · rcases hj.1 with ⟨hl, hj'⟩ | hj'
      · refine .inl ?_
        have := (hJ _).same hj' ((Upd.refl _ _).putObj (.inl (.inl hd)) (.deferred none)) (by simp)
        rwa [ei_len, List.length_take, Nat.min_eq_left hl]
      · exact .inr (hJx.same hj' ((Upd.refl _ _).putObj (.inl (.inl hd)) (.deferred none)) (by simp))
end Go.Proofs.Ytdpnpkleobjkfaa
