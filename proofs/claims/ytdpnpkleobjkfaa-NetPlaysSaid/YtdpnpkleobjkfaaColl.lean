/- gen.Collect over an iterator of mails that yields nothing. -/
import Derived.Test.YtdpnpkleobjkfaaNil
import Derived.Test.YtdpnpkleobjkfaaTo
namespace Go.Proofs.Ytdpnpkleobjkfaa
open Go.RowKit Go.Shelf
attribute [local go_sem] Oper.semAt_some
set_option maxRecDepth 100000
set_option maxHeartbeats 4000000

theorem values0_spec (b : Nat) (w₀ : World) (hb : Blk w₀ b 60 #[.slice none 0 0]) : IterSpec Try.prog 51 #[.pointer (some ⟨b, 0, none⟩)] (fun k => k = b) w₀ [] := by
  intro l J Jx hJ hJx hY I W hag hI h0
  have hc : W.cell? ⟨b, 0, none⟩ = some (.slice none 0 0) := (hb.keeps hag rfl).cell 0
  clear hb hY
  go_enter Try.func51, Try.ntmps51
  go_wp2_with fail
  refine wp_loop_once ?_
  go_wp2
  go_end0
  exact ⟨⟨_, rfl⟩, I, fun _ h => h, fun _ h => .inl h, .inl h0⟩

theorem over_mail (g : FuncId) (lb : Array Value) (w : World) : Calls Try.prog 40 #[.func (.func g) #[] lb] w fun e w' =>
    e = .returned (.func (.func g) #[] lb) ∧ w = w' := by
  have he := run_eql_func_nil (P := Try.prog) 63 Try.underlying63
  go_enter Try.func40, Try.ntmps40
  go_wp2
  go_ret
  exact ⟨rfl, rfl⟩

theorem take1mail_nil {gf : FuncId} {lb : Array Value} {D : Nat → Prop} {w₀ : World} (n : Int) (hn : 1 ≤ n) (hit : IterSpec Try.prog gf lb D w₀ [])
    (hgf : ∀ args w, (callFunc gf args).run Try.prog w = .ok (.enter gf args) w) (hD : ∀ k, D k → k < w₀.heap.size) (nb sb : Nat) (hf : Blk w₀ nb 3 #[.int .i64 n]) (hs : Blk w₀ sb 63 #[.func (.func gf) #[] lb]) :
    IterSpec Try.prog 39 #[.pointer (some ⟨nb, 0, none⟩), .pointer (some ⟨sb, 0, none⟩)] (fun k => k = nb ∨ k = sb ∨ D k) w₀ [] := by
  intro l J Jx hJ hJx hY I W hag hI h0
  have hf1 : Blk W nb _ _ := hf.keeps hag (.inl rfl)
  have hs1 : Blk W sb _ _ := hs.keeps hag (.inr (.inl rfl))
  have hcf : W.cell? ⟨nb, 0, none⟩ = some (.int .i64 n) := hf1.cell 0
  have hcs : W.cell? ⟨sb, 0, none⟩ = some (.func (.func gf) #[] lb) := hs1.cell 0
  have hlf := hf1.lt
  have hls := hs1.lt
  have hdec : decide (n < 1) = false := by simp; omega
  clear hY
  refine callsIn_wide (n := 0).1 ?_
  refine callsIn_of_wp_marks Try.func39 rfl trivial ?_ rfl
  simp only [Try.ntmps39, List.size_toArray, List.length_cons, List.length_nil, Nat.reduceAdd, Nat.reduceSub, Array.replicate_succ, Array.replicate_zero, List.push_toArray, List.append_toArray, List.nil_append, List.cons_append]
  gi_wp2_with fail
  refine viaCalls (over_mail _ _ _) ?_
  rintro e w1 ⟨rfl, rfl⟩
  gi_wp2_with fail
  have hDlt : ∀ k, D k → k < W.heap.size := fun k hk => Nat.lt_of_lt_of_le (hD k hk) hag.size
  refine wpIn_range_nil (hit.later (w₁ := W) ⟨hag.size, fun k hk => hag.same k (.inr (.inr hk))⟩) rfl hgf (fun k hk => by have := hDlt k hk; simp; omega) ⟨by simp; omega, fun k hk => ?_⟩ ?_
  · exact (((Upd.refl nob W).alloc _).alloc _).block k (hDlt k hk) (fun f => f)
  intro d W2 hu hd hk
  gi_wp2
  refine ⟨by simp, .inl ⟨_, _, rfl, run_takeDeferred hk, ?_⟩⟩
  have huw : Upd nob W (W2.putObj d (.deferred none)) := ((((Upd.refl nob W).alloc _).alloc _).trans hu).putObj (.inr (by have h1 : W.heap.size + 2 ≤ d := by simpa using hd
                                                                                                                          omega)) _
  exact ⟨_, results_none rfl _ _ _, ⟨_, rfl⟩, grow I W (W2.putObj d (.deferred none)), fun _ h => .inl h, fun _ h => h.imp id (·.1), .inl (hJ 0 I W _ h0 (huw.mono fun _ f => f.elim))⟩

theorem take_mail (g : FuncId) (lb : Array Value) (n : Int) (w : World) : Calls Try.prog 27 #[.func (.func g) #[] lb, .int .i64 n] w fun e w' =>
    e = .returned (.func (.func 39) #[] #[.pointer (some ⟨w.heap.size + 1, 0, none⟩), .pointer (some ⟨w.heap.size, 0, none⟩)]) ∧
      w' = (w.alloc (.cells #[.func (.func g) #[] lb] 63)).alloc (.cells #[.int .i64 n] 3) := by
  go_enter Try.func27, Try.ntmps27
  go_wp2
  go_ret
  exact ⟨rfl, rfl⟩

theorem collect_nil {gf : FuncId} {lb : Array Value} {D : Nat → Prop} {w : World} (n : Int) (hn : 1 ≤ n) (hit : IterSpec Try.prog gf lb D w [])
    (hgf : ∀ args w, (callFunc gf args).run Try.prog w = .ok (.enter gf args) w) (hD : ∀ k, D k → k < w.heap.size) :
    Calls Try.prog 18 #[.func (.func gf) #[] lb, .int .i64 n] w fun e w' => e = .returned (.slice none 0 0) ∧ Below w.heap.size w w' := by
  refine callsIn_wide (n := 0).1 ?_
  refine callsIn_of_wp_marks Try.func18 rfl trivial ?_ rfl
  simp only [Try.ntmps18, List.size_toArray, List.length_cons, List.length_nil, Nat.reduceAdd, Nat.reduceSub, Array.replicate_succ, Array.replicate_zero, List.push_toArray, List.append_toArray, List.nil_append, List.cons_append]
  gi_wp2_with fail
  refine viaCalls (take_mail _ _ _ _) ?_
  rintro e w1 ⟨rfl, hw1⟩
  have hu1 : Upd nob w w1 := by rw [hw1]; exact (((Upd.refl nob w).alloc _).alloc _).alloc _
  have b0 : Blk w1 w.heap.size 60 #[.slice none 0 0] := by rw [hw1]; exact ((Blk.new w _ _).alloc _).alloc _
  have bs : Blk w1 (w.heap.size + 1) 63 #[.func (.func gf) #[] lb] := by
    rw [hw1]
    have := (Blk.new (w.alloc (.cells #[.slice none 0 0] 60)) 63 #[.func (.func gf) #[] lb]).alloc (.cells #[.int .i64 n] 3)
    rwa [World.size_alloc] at this
  have bn : Blk w1 (w.heap.size + 1 + 1) 3 #[.int .i64 n] := by
    rw [hw1]
    have := Blk.new ((w.alloc (.cells #[.slice none 0 0] 60)).alloc (.cells #[.func (.func gf) #[] lb] 63)) 3 #[.int .i64 n]
    simpa only [World.size_alloc] using this
  clear hw1
  gi_wp2_with fail
  refine wpIn_range_nil (take1mail_nil n hn (hit.later (hu1.keeps fun k hk => ⟨fun f => f, hD k hk⟩)) hgf (fun k hk => Nat.lt_of_lt_of_le (hD k hk) hu1.size) _ _ bn bs) rfl (enters_of Try.func39 (by kernel_rfl) rfl) ?_ (Keeps.refl _ _) ?_
  · rintro k (rfl | rfl | hk)
    · exact bn.lt
    · exact bs.lt
    · exact Nat.lt_of_lt_of_le (hD k hk) hu1.size
  intro d W hu hd hk
  have c0 : W.cell? ⟨w.heap.size, 0, none⟩ = some (.slice none 0 0) := (b0.upd hu (fun f => f)).cell 0
  gi_wp2
  refine ⟨by simp, .inl ⟨_, _, rfl, run_takeDeferred hk, ?_⟩⟩
  exact ⟨_, results_tmp rfl _ _ _, rfl, ((hu1.trans hu).putObj (.inr (by have := hu1.size; omega)) _).below⟩
end Go.Proofs.Ytdpnpkleobjkfaa
