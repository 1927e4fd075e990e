/- (*net.Net).to: whom an out is for. -/
import Derived.Test.YtdpnpkleobjkfaaPipe
import Derived.Test.YtdpnpkleobjkfaaMsg
namespace Go.Proofs.Ytdpnpkleobjkfaa
open Go.RowKit Go.Shelf
attribute [local go_sem] Oper.semAt_some
set_option maxRecDepth 100000
set_option maxHeartbeats 400000

theorem IterSpec.more {P : Program} {gf : FuncId} {lb : Array Value} {D E : Nat → Prop} {w₀ : World} {xs : List (Array Value)} (h : IterSpec P gf lb D w₀ xs) (hE : ∀ k, D k → E k) : IterSpec P gf lb E w₀ xs :=
  fun l J Jx hJ hJx hY I W hk hI h0 => h l J Jx hJ hJx (fun i x I W hx hj => (hY i x I W hx hj).mono fun e W' ⟨hk', h'⟩ => ⟨hk'.mono fun k hk => hk.imp id (hE k), h'⟩) I W (hk.mono hE) hI h0
theorem PredSpec.more {P : Program} {pf : FuncId} {plb : Array Value} {D E : Nat → Prop} {w₀ : World} {p : Int → Bool} (h : PredSpec P pf plb D w₀ p) (hE : ∀ k, D k → E k) : PredSpec P pf plb E w₀ p :=
  fun x W hk => h x W (hk.mono hE)

/-- Is it for i? -/
def forB (src to i : Int) : Bool := (i != src) && ((to == -1) || (to == i))

theorem to1_pred (src to : Int) (fb ob : Nat) (cs : Array Value) (w₀ : World) (hf : Blk w₀ fb 3 #[.int .i64 src]) (ho : Blk w₀ ob 40 cs) (hc : cs[0]? = some (.int .i64 to)) :
    PredSpec Try.prog 35 #[.pointer (some ⟨fb, 0, none⟩), .pointer (some ⟨ob, 0, none⟩)] (fun k => k = fb ∨ k = ob) w₀ (forB src to) := by
  intro x W hk
  have c1 : W.cell? ⟨fb, 0, none⟩ = some (.int .i64 src) := (hf.keeps hk (.inl rfl)).cell 0
  have c2 : W.cell? ⟨ob, 0, none⟩ = some (.int .i64 to) := ((ho.keeps hk (.inr rfl)).cell 0).trans hc
  clear hf ho hc hk
  by_cases h1 : x = src
  · subst h1
    have e1 : (x != x) = false := by simp
    have e : forB x to x = false := by simp [forB]
    rw [e]
    clear e
    go_enter Try.func35, Try.ntmps35
    go_wp2
    go_ret
    exact ⟨rfl, rfl⟩
  · have e1 : (x != src) = true := by simp [h1]
    by_cases h2 : to = -1
    · subst h2
      have e : forB src (-1) x = true := by simp [forB, h1]
      rw [e]
      clear e
      go_enter Try.func35, Try.ntmps35
      go_wp2
      go_ret
      exact ⟨rfl, rfl⟩
    · have e2 : (to == -1) = false := by simp [h2]
      by_cases h3 : to = x
      · have e3 : (to == x) = true := by simp [h3]
        have e : forB src to x = true := by simp [forB, h1, h3]
        rw [e]
        clear e h3
        go_enter Try.func35, Try.ntmps35
        go_wp2
        go_ret
        exact ⟨rfl, rfl⟩
      · have e3 : (to == x) = false := by simp [h3]
        have e : forB src to x = false := by simp [forB, h2, h3]
        rw [e]
        clear e
        go_enter Try.func35, Try.ntmps35
        go_wp2
        go_ret
        exact ⟨rfl, rfl⟩

theorem to_any (nb n : Nat) (sv : Value) (src to : Int) (cs : Array Value) (w : World) (hn : n ≤ 4611686018427387904) (hb : Blk w nb 67 #[.int .i64 n, sv]) (hc : cs[0]? = some (.int .i64 to)) :
    Calls Try.prog 22 #[.pointer (some ⟨nb, 0, none⟩), .int .i64 src, .agg cs] w fun e w' => ∃ lb D, e = .returned (.func (.func 48) #[] lb) ∧ Upd nob w w' ∧
      (∀ k, D k → w.heap.size ≤ k ∧ k < w'.heap.size) ∧ IterSpec Try.prog 48 lb D w' (ei ((upto n).filter (forB src to))) := by
  have c0 : w.cell? ⟨nb, 0, none⟩ = some (.int .i64 n) := hb.cell 0
  have hl := hb.lt
  go_enter Try.func22, Try.ntmps22
  go_wp2
  go_ret
  have b0 := ((((Blk.new w 3 #[.int .i64 src]).alloc (.cells cs 40)).alloc (.cells #[.int .i64 n] 3)).alloc (.cells #[.func (.func 49) #[] #[.pointer (some ⟨w.heap.size + 1 + 1, 0, none⟩)]] 70)).alloc
    (.cells #[.func (.func 35) #[] #[.pointer (some ⟨w.heap.size, 0, none⟩), .pointer (some ⟨w.heap.size + 1, 0, none⟩)]] 44)
  have b1 := (((Blk.new (w.alloc (.cells #[.int .i64 src] 3)) 40 cs).alloc (.cells #[.int .i64 n] 3)).alloc (.cells #[.func (.func 49) #[] #[.pointer (some ⟨w.heap.size + 1 + 1, 0, none⟩)]] 70)).alloc
    (.cells #[.func (.func 35) #[] #[.pointer (some ⟨w.heap.size, 0, none⟩), .pointer (some ⟨w.heap.size + 1, 0, none⟩)]] 44)
  have b2 := ((Blk.new ((w.alloc (.cells #[.int .i64 src] 3)).alloc (.cells cs 40)) 3 #[.int .i64 n]).alloc (.cells #[.func (.func 49) #[] #[.pointer (some ⟨w.heap.size + 1 + 1, 0, none⟩)]] 70)).alloc
    (.cells #[.func (.func 35) #[] #[.pointer (some ⟨w.heap.size, 0, none⟩), .pointer (some ⟨w.heap.size + 1, 0, none⟩)]] 44)
  have b3 := (Blk.new (((w.alloc (.cells #[.int .i64 src] 3)).alloc (.cells cs 40)).alloc (.cells #[.int .i64 n] 3)) 70 #[.func (.func 49) #[] #[.pointer (some ⟨w.heap.size + 1 + 1, 0, none⟩)]]).alloc
    (.cells #[.func (.func 35) #[] #[.pointer (some ⟨w.heap.size, 0, none⟩), .pointer (some ⟨w.heap.size + 1, 0, none⟩)]] 44)
  have b4 := Blk.new ((((w.alloc (.cells #[.int .i64 src] 3)).alloc (.cells cs 40)).alloc (.cells #[.int .i64 n] 3)).alloc (.cells #[.func (.func 49) #[] #[.pointer (some ⟨w.heap.size + 1 + 1, 0, none⟩)]] 70)) 44
    #[.func (.func 35) #[] #[.pointer (some ⟨w.heap.size, 0, none⟩), .pointer (some ⟨w.heap.size + 1, 0, none⟩)]]
  simp only [World.size_alloc] at b1 b2 b3 b4
  refine ⟨#[.pointer (some ⟨w.heap.size + 1 + 1 + 1 + 1, 0, none⟩), .pointer (some ⟨w.heap.size + 1 + 1 + 1, 0, none⟩)],
    (fun k => k = w.heap.size + 1 + 1 + 1 + 1 ∨ k = w.heap.size + 1 + 1 + 1 ∨ (k = w.heap.size + 1 + 1 ∨ k = w.heap.size ∨ k = w.heap.size + 1)), rfl, (((((Upd.refl nob w).alloc _).alloc _).alloc _).alloc _).alloc _, fun k hk => by simp; omega, ?_⟩
  refine keep1_spec (D := fun k => k = w.heap.size + 1 + 1 ∨ k = w.heap.size ∨ k = w.heap.size + 1) (IterSpec.more (count1_spec n hn (w.heap.size + 1 + 1) _ (b2.cell 0)) (fun k hk => .inl hk)) (enters_of Try.func49 (by kernel_rfl) rfl) (enters_of Try.func35 (by kernel_rfl) rfl)
    (PredSpec.more (to1_pred src to _ _ cs _ b0 b1 hc) (fun k hk => .inr hk)) (fun k hk => by simp; omega) _ _ b4 b3

theorem IterSpec.later {P : Program} {gf : FuncId} {lb : Array Value} {D : Nat → Prop} {w₀ w₁ : World} {xs : List (Array Value)} (h : IterSpec P gf lb D w₀ xs) (hk : Keeps D w₀ w₁) : IterSpec P gf lb D w₁ xs :=
  fun l J Jx hJ hJx hY I W hk' hI h0 => h l J Jx hJ hJx hY I W (hk.trans hk') hI h0

theorem take_any {gf : FuncId} {lb : Array Value} {D : Nat → Prop} {w : World} {xs : List Int} (n : Nat) (hn : n ≤ 4611686018427387904) (hit : IterSpec Try.prog gf lb D w (ei xs))
    (hgf : ∀ args w, (callFunc gf args).run Try.prog w = .ok (.enter gf args) w) (hD : ∀ k, D k → k < w.heap.size) :
    Calls Try.prog 21 #[.func (.func gf) #[] lb, .int .i64 n] w fun e w' => ∃ lb' D', e = .returned (.func (.func 31) #[] lb') ∧ Upd nob w w' ∧
      (∀ k, D' k → D k ∨ (w.heap.size ≤ k ∧ k < w'.heap.size)) ∧ IterSpec Try.prog 31 lb' D' w' (ei (xs.take n)) := by
  go_enter Try.func21, Try.ntmps21
  go_wp2
  go_ret
  have b0 := (Blk.new w 70 #[.func (.func gf) #[] lb]).alloc (.cells #[.int .i64 n] 3)
  have b1 := Blk.new (w.alloc (.cells #[.func (.func gf) #[] lb] 70)) 3 #[.int .i64 n]
  simp only [World.size_alloc] at b1
  have hu : Upd nob w ((w.alloc (.cells #[.func (.func gf) #[] lb] 70)).alloc (.cells #[.int .i64 n] 3)) := ((Upd.refl nob w).alloc _).alloc _
  refine ⟨#[.pointer (some ⟨w.heap.size + 1, 0, none⟩), .pointer (some ⟨w.heap.size, 0, none⟩)], (fun k => k = w.heap.size + 1 ∨ k = w.heap.size ∨ D k), rfl, hu, ?_, ?_⟩
  · rintro k (rfl | rfl | h)
    · exact .inr (by simp)
    · exact .inr (by simp; omega)
    · exact .inl h
  · exact take1_spec n hn (hit.later (hu.keeps fun k hk => ⟨fun f => f, hD k hk⟩)) hgf (fun k hk => Nat.lt_of_lt_of_le (hD k hk) hu.size) _ _ b1 b0
end Go.Proofs.Ytdpnpkleobjkfaa
