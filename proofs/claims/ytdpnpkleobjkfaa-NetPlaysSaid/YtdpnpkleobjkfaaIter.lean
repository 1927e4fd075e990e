/- An iterator ('iter.Seq') and the code that ranges over it: what each promises the other, for iterators that keep state of their own in cells; the law for 'range over a function'. Over any program. -/
import Derived.RangeFuncNested
import Derived.RangeFuncBound
import Derived.RangeFuncCalls
import Derived.RangeFuncLeaves
import Derived.WalkKit
import Derived.OwnWalkIn
import Derived.TacticsInMore
import Derived.LoopNIn
import Derived.LoopIn
import Derived.Shelf.Abstract
import Derived.Laws.Rows
namespace Go.Proofs.Ytdpnpkleobjkfaa
open Go.RowKit

/-- Only blocks of S may have turned; there may be new ones; the streams are as they were. -/
structure Upd (S : Nat → Prop) (w w' : World) : Prop where
  os : w'.os = w.os
  tape : w'.tape = w.tape
  output : w'.output = w.output
  size : w.heap.size ≤ w'.heap.size
  block : ∀ k, k < w.heap.size → ¬ S k → w'.heap[k]? = w.heap[k]?

/-- No block at all: what lay lies. -/
def nob : Nat → Prop := fun _ => False

/-- Blocks of K lie as they lay. -/
structure Keeps (K : Nat → Prop) (w w' : World) : Prop where
  size : w.heap.size ≤ w'.heap.size
  same : ∀ k, K k → w'.heap[k]? = w.heap[k]?

theorem Upd.refl (S : Nat → Prop) (w : World) : Upd S w w := ⟨rfl, rfl, rfl, Nat.le_refl _, fun _ _ _ => rfl⟩
theorem Upd.trans {S : Nat → Prop} {a b c : World} (h : Upd S a b) (k : Upd S b c) : Upd S a c :=
  ⟨k.os.trans h.os, k.tape.trans h.tape, k.output.trans h.output, Nat.le_trans h.size k.size, fun i hi hs => (k.block i (Nat.lt_of_lt_of_le hi h.size) hs).trans (h.block i hi hs)⟩
/-- What turns later may be new as well. -/
theorem Upd.trans' {S T : Nat → Prop} {a b c : World} (h : Upd S a b) (k : Upd T b c) (hT : ∀ i, i < a.heap.size → T i → S i) : Upd S a c :=
  ⟨k.os.trans h.os, k.tape.trans h.tape, k.output.trans h.output, Nat.le_trans h.size k.size, fun i hi hs => (k.block i (Nat.lt_of_lt_of_le hi h.size) (fun t => hs (hT i hi t))).trans (h.block i hi hs)⟩
theorem Upd.mono {S T : Nat → Prop} {a b : World} (h : Upd S a b) (hs : ∀ k, S k → T k) : Upd T a b :=
  ⟨h.os, h.tape, h.output, h.size, fun k hk ht => h.block k hk (fun s => ht (hs k s))⟩
theorem Upd.alloc {S : Nat → Prop} {a w : World} (h : Upd S a w) (o : Obj) : Upd S a (w.alloc o) :=
  h.trans ⟨rfl, rfl, rfl, by simp, fun k hk _ => Below.heap_alloc _ _ _ hk⟩
theorem Upd.drew {S : Nat → Prop} {a w : World} (h : Upd S a w) : Upd S a w.drew := ⟨h.os, h.tape, h.output, h.size, h.block⟩
theorem Upd.setCell {S : Nat → Prop} {a w : World} (h : Upd S a w) {p : Addr} (hp : S p.block ∨ a.heap.size ≤ p.block) (u : Value) : Upd S a (w.setCell p u) :=
  ⟨h.os, h.tape, h.output, by simp [World.setCell]; exact h.size, fun k hk hs => by
    have hne : k ≠ p.block := by rintro rfl; rcases hp with hp | hp <;> first | exact hs hp | omega
    exact (Below.heap_setCell _ _ _ _ hne).trans (h.block k hk hs)⟩
theorem Upd.putObj {S : Nat → Prop} {a w : World} (h : Upd S a w) {r : Nat} (hr : S r ∨ a.heap.size ≤ r) (o : Obj) : Upd S a (w.putObj r o) :=
  ⟨h.os, h.tape, h.output, by simp; exact h.size, fun k hk hs => by
    have hne : k ≠ r := by rintro rfl; rcases hr with hp | hp <;> first | exact hs hp | omega
    exact (World.putObj_heap_other hne).trans (h.block k hk hs)⟩
theorem Upd.grown {S : Nat → Prop} {a w w' : World} {row : Option Nat} (h : Upd S a w) (hg : w.grownBy w' row) (hr : ∀ k, row = some k → S k ∨ a.heap.size ≤ k) : Upd S a w' :=
  ⟨hg.os.trans h.os, hg.tape.trans h.tape, hg.output.trans h.output, Nat.le_trans h.size hg.size, fun k hk hs => by
    refine (hg.block k (Nat.lt_of_lt_of_le hk h.size) (fun e => ?_)).trans (h.block k hk hs)
    rcases hr k e.symm with h1 | h1 <;> first | exact hs h1 | omega⟩
theorem Upd.below {a w : World} (h : Upd nob a w) : Below a.heap.size a w := ⟨h.os, h.tape, h.output, h.size, fun k hk => h.block k hk (fun f => f)⟩
theorem Upd.of_below {S : Nat → Prop} {a w : World} (h : Below a.heap.size a w) : Upd S a w := ⟨h.os, h.tape, h.output, h.size, fun k hk _ => h.block k hk⟩
theorem Upd.cell {S : Nat → Prop} {w w' : World} (h : Upd S w w') {p : Addr} (hp : p.block < w.heap.size) (hs : ¬ S p.block) : w'.cell? p = w.cell? p := World.cell?_of_block (w := w) (h.block p.block hp hs)
theorem Upd.frozen {S : Nat → Prop} {w w' : World} (h : Upd S w w') {p : Addr} (hp : p.block < w.heap.size) (hs : ¬ S p.block) : w'.frozen? p = w.frozen? p := World.frozen?_of_block (w := w) (h.block p.block hp hs)
theorem Upd.keeps {S : Nat → Prop} {w w' : World} (h : Upd S w w') {K : Nat → Prop} (hK : ∀ k, K k → ¬ S k ∧ k < w.heap.size) : Keeps K w w' :=
  ⟨h.size, fun k hk => h.block k (hK k hk).2 (hK k hk).1⟩

theorem Keeps.refl (K : Nat → Prop) (w : World) : Keeps K w w := ⟨Nat.le_refl _, fun _ _ => rfl⟩
theorem Keeps.trans {K : Nat → Prop} {a b c : World} (h : Keeps K a b) (k : Keeps K b c) : Keeps K a c := ⟨Nat.le_trans h.size k.size, fun i hi => (k.same i hi).trans (h.same i hi)⟩
theorem Keeps.mono {K L : Nat → Prop} {a b : World} (h : Keeps K a b) (hl : ∀ k, L k → K k) : Keeps L a b := ⟨h.size, fun k hk => h.same k (hl k hk)⟩
theorem Keeps.cell {K : Nat → Prop} {w w' : World} (h : Keeps K w w') {p : Addr} (hp : K p.block) : w'.cell? p = w.cell? p := World.cell?_of_block (w := w) (h.same p.block hp)
theorem Keeps.frozen {K : Nat → Prop} {w w' : World} (h : Keeps K w w') {p : Addr} (hp : K p.block) : w'.frozen? p = w.frozen? p := World.frozen?_of_block (w := w) (h.same p.block hp)

/-- I and what is new between two worlds. -/
def grow (I : Nat → Prop) (W W' : World) : Nat → Prop := fun k => I k ∨ (W.heap.size ≤ k ∧ k < W'.heap.size)

/-- What a party says of the world does not mind when the other party turns its own blocks (I), and lays new ones (which are its own from then on). -/
def Stab (J : (Nat → Prop) → World → Prop) : Prop := ∀ I W W', J I W → Upd I W W' → J (grow I W W') W'

theorem grow_same {I : Nat → Prop} {W W' : World} (h : W'.heap.size = W.heap.size) : grow I W W' = I := by
  funext k; refine propext ⟨fun x => ?_, .inl⟩
  rcases x with x | x <;> first | exact x | omega

theorem Stab.same {J : (Nat → Prop) → World → Prop} (hJ : Stab J) {I : Nat → Prop} {W W' : World} (h : J I W) (hu : Upd I W W') (hs : W'.heap.size = W.heap.size) : J I W' := by
  have := hJ I W W' h hu; rwa [grow_same hs] at this

theorem Stab.alloc {J : (Nat → Prop) → World → Prop} (hJ : Stab J) {I : Nat → Prop} {W : World} (h : J I W) (o : Obj) : J (fun k => I k ∨ k = W.heap.size) (W.alloc o) := by
  have := hJ I W _ h ((Upd.refl I W).alloc o)
  have e : grow I W (W.alloc o) = fun k => I k ∨ k = W.heap.size := by
    funext k; simp only [grow, World.size_alloc]; refine propext ⟨fun x => x.imp id (by omega), fun x => x.imp id (by omega)⟩
  rwa [e] at this

/-- What an iterator over xs promises whoever ranges over it: D: the blocks that it reads, as they lay in w₀. -/
def IterSpec (P : Program) (gf : FuncId) (lb : Array Value) (D : Nat → Prop) (w₀ : World) (xs : List (Array Value)) : Prop :=
  ∀ (l : Nat) (J : Nat → (Nat → Prop) → World → Prop) (Jx : (Nat → Prop) → World → Prop), (∀ i, Stab (J i)) → Stab Jx →
    (∀ i x I W, xs[i]? = some x → J i I W → YieldAt Fence.wide 0 P l x W fun e W' =>
      Keeps (fun k => I k ∨ D k) W W' ∧ ((e = .returned (.bool true) ∧ J (i + 1) I W') ∨ (e = .returned (.bool false) ∧ Jx I W'))) →
    ∀ I W, Keeps D w₀ W → (∀ k, I k → k < W.heap.size) → J 0 I W → Calls P gf (#[.func (.yield l) #[] #[]] ++ lb) W fun e W' =>
      (∃ v, e = .returned v) ∧ ∃ I', (∀ k, I k → I' k) ∧ (∀ k, I' k → I k ∨ W.heap.size ≤ k) ∧ (J xs.length I' W' ∨ Jx I' W')

/-- How a round is left. -/
def roundEnd (K : Nat → Prop) (J : (Nat → Prop) → World → Prop) (Jx : Code → (Nat → Prop) → World → Prop) (I : Nat → Prop) (W : World) : Exit → Act → World → Prop
  | .normal, _, W' => Keeps K W W' ∧ J I W'
  | .ret, _, W' => Keeps K W W' ∧ Jx .ret I W'
  | .exit id, _, W' => Keeps K W W' ∧ Jx (.exit id) I W'
  | .goto t, _, W' => Keeps K W W' ∧ Jx (.goto t) I W'
  | .panic _, _, _ => False
  | .outgrown, _, _ => False

/-- 'for x := range g { body }', outside every other such loop. -/
theorem wpIn_range {P : Program} {gf : FuncId} {lb : Array Value} {D : Nat → Prop} {w₀ : World} {xs : List (Array Value)} (hit : IterSpec P gf lb D w₀ xs)
    {g : Operand} {ps : Array Tmp} {assign body : Code} {Q : Exit → Act → World → Prop} {a : Act} {w : World}
    (hg : a.eval g = .func (.func gf) #[] lb) (eg : ∀ args w, (callFunc gf args).run P w = .ok (.enter gf args) w)
    (hD : ∀ k, D k → k < w.heap.size) (hag : Keeps D w₀ w) (hps : ∀ x, x ∈ xs → x.size = ps.size)
    (J : Nat → (Nat → Prop) → World → Prop) (Jx : Code → (Nat → Prop) → World → Prop) (hJ : ∀ i, Stab (J i)) (hJx : ∀ c, Stab (Jx c))
    (I₀ : Nat → Prop) (hI₀ : ∀ k, I₀ k → k < w.heap.size) (h0 : J 0 I₀ w)
    (M : Nat → Array Value → Act → (Nat → Prop) → World → Prop) (hM : ∀ i x a, Stab (M i x a))
    (hassign : ∀ l i x I W, xs[i]? = some x → J i I W → (∀ k, I k → k < W.heap.size) → assign.wpIn (Fence.wide.inRound l) 0 P
      (Exit.then (fun a₁ W₁ => Keeps (fun k => I k ∨ D k) W W₁ ∧ M i x a₁ I W₁) (fun _ _ _ => False)) { tmps := (ps.zip x).foldl (fun t (p, v) => t.setIfInBounds p v) a.tmps, defers := [] } W)
    (hbody : ∀ l i x I W a₁, xs[i]? = some x → M i x a₁ I W → (∀ k, I k → k < W.heap.size) → (∃ r, W.heap[l]? = some (.loop r)) →
      body.wpIn (Fence.wide.inRound l) 0 P (roundEnd (fun k => I k ∨ D k) (J (i + 1)) Jx I W) a₁ W)
    (hdone : ∀ d I W, J xs.length I W → I d → w.heap.size ≤ d → W.heap[d]? = some (.deferred (some [])) → (∀ k, I₀ k → I k) → (∀ k, I k → I₀ k ∨ w.heap.size ≤ k) →
      Q .normal { a with defers := { target := .collected d, args := #[] } :: a.defers } W)
    (hstop : ∀ d c I W, Jx c I W → I d → w.heap.size ≤ d → W.heap[d]? = some (.deferred (some [])) → (∀ k, I₀ k → I k) → (∀ k, I k → I₀ k ∨ w.heap.size ≤ k) →
      c.wpIn Fence.wide 0 P Q { a with defers := { target := .collected d, args := #[] } :: a.defers } W) :
    (Code.rangeFunc g ps assign body).wpIn Fence.wide 0 P Q a w := by
  refine wpIn_rangeFunc ?_
  intro fn hfn
  rw [Fence.wide_round]
  obtain ⟨rec, hrec⟩ : ∃ rec : LoopState → Option Code → Loop, rec = fun st pe => { state := st, pending := pe, fn, tmps := a.tmps, params := ps, assign, body, defers := w.heap.size } := ⟨_, rfl⟩
  obtain ⟨W1, hW1⟩ : ∃ W1, (w.alloc (.deferred (some []))).alloc (.loop (rec .ready none)) = W1 := ⟨_, rfl⟩
  obtain ⟨mach, hmach⟩ : ∃ mach : Nat → Prop, mach = fun k => k = w.heap.size ∨ k = w.heap.size + 1 := ⟨_, rfl⟩
  have hs1 : W1.heap.size = w.heap.size + 2 := by rw [← hW1]; simp
  have hL1 : W1.heap[w.heap.size + 1]? = some (.loop (rec .ready none)) := by
    rw [← hW1]; have := World.alloc_heap_new (w.alloc (.deferred (some []))) (.loop (rec .ready none)); rwa [World.size_alloc] at this
  have hK1 : W1.heap[w.heap.size]? = some (.deferred (some [])) := by
    rw [← hW1]; exact (Below.heap_alloc _ _ _ (by simp)).trans (World.alloc_heap_new w _)
  have hu1 : ∀ S, Upd S w W1 := fun S => by rw [← hW1]; exact ((Upd.refl S w).alloc _).alloc _
  have hJ1 : J 0 (fun k => I₀ k ∨ mach k) W1 := by
    have := hJ 0 I₀ w W1 h0 (hu1 _)
    have e : grow I₀ w W1 = fun k => I₀ k ∨ mach k := by
      funext k; simp only [grow, hs1, hmach]; exact propext ⟨fun x => x.imp id (by omega), fun x => x.imp id (by omega)⟩
    rwa [e] at this
  have hml : mach (w.heap.size + 1) := by rw [hmach]; exact .inr rfl
  have hmd : mach w.heap.size := by rw [hmach]; exact .inl rfl
  have hmn : ∀ k, mach k → k = w.heap.size ∨ k = w.heap.size + 1 := fun k h => by rw [hmach] at h; exact h
  refine ⟨w.heap.size + 1, [{ target := .collected w.heap.size, args := #[] }], W1, { target := .fn (.func gf) lb, args := #[.func (.yield (w.heap.size + 1)) #[] #[]] }, W1, gf,
    #[.func (.yield (w.heap.size + 1)) #[] #[]] ++ lb, W1, ?_, ?_, ?_, ?_, fun h => by simp [Fence.wide] at h, ?_⟩
  · rw [← hW1, hrec]; exact run_enterLoop_outer _ _ _ _ _
  · simp only [resolve, hg]
    simp [go_sem]
  · intro f' _; trivial
  · simp [invoke, go_sem, eg]
  refine callsIn_wide.2 ((hit (w.heap.size + 1)
    (fun i I W => J i (fun k => I k ∨ mach k) W ∧ ¬ I w.heap.size ∧ ¬ I (w.heap.size + 1) ∧ (∀ k, I k → k < W.heap.size) ∧ W.heap[w.heap.size + 1]? = some (.loop (rec .ready none)) ∧ W.heap[w.heap.size]? = some (.deferred (some [])))
    (fun I W => ∃ c, Jx c (fun k => I k ∨ mach k) W ∧ ¬ I w.heap.size ∧ ¬ I (w.heap.size + 1) ∧ (∀ k, I k → k < W.heap.size) ∧ W.heap[w.heap.size + 1]? = some (.loop (rec .done (some c))) ∧ W.heap[w.heap.size]? = some (.deferred (some [])))
    ?_ ?_ ?_ I₀ W1 ?_ ?_ ?_).mono ?_)
  · intro i I W W' ⟨hj, hd, hl, hlt, hL, hK⟩ hu
    have hLs := (Array.getElem?_eq_some_iff.1 hL).1
    refine ⟨?_, fun h => ?_, fun h => ?_, fun k h => ?_, ?_, ?_⟩
    · have h2 := hJ i _ W W' hj (hu.mono fun k h => .inl h)
      have e : grow (fun k => I k ∨ mach k) W W' = fun k => grow I W W' k ∨ mach k := by
        funext k; simp only [grow]; exact propext ⟨fun x => by rcases x with (x | x) | x <;> first | exact .inl (.inl x) | exact .inr x | exact .inl (.inr x), fun x => by rcases x with (x | x) | x <;> first | exact .inl (.inl x) | exact .inr x | exact .inl (.inr x)⟩
      rwa [e] at h2
    · rcases h with h | h <;> first | exact hd h | omega
    · rcases h with h | h <;> first | exact hl h | omega
    · rcases h with h | h <;> first | exact Nat.lt_of_lt_of_le (hlt k h) hu.size | exact h.2
    · exact (hu.block _ hLs hl).trans hL
    · exact (hu.block _ (by omega) hd).trans hK
  · intro I W W' ⟨c, hj, hd, hl, hlt, hL, hK⟩ hu
    have hLs := (Array.getElem?_eq_some_iff.1 hL).1
    refine ⟨c, ?_, fun h => ?_, fun h => ?_, fun k h => ?_, ?_, ?_⟩
    · have h2 := hJx c _ W W' hj (hu.mono fun k h => .inl h)
      have e : grow (fun k => I k ∨ mach k) W W' = fun k => grow I W W' k ∨ mach k := by
        funext k; simp only [grow]; exact propext ⟨fun x => by rcases x with (x | x) | x <;> first | exact .inl (.inl x) | exact .inr x | exact .inl (.inr x), fun x => by rcases x with (x | x) | x <;> first | exact .inl (.inl x) | exact .inr x | exact .inl (.inr x)⟩
      rwa [e] at h2
    · rcases h with h | h <;> first | exact hd h | omega
    · rcases h with h | h <;> first | exact hl h | omega
    · rcases h with h | h <;> first | exact Nat.lt_of_lt_of_le (hlt k h) hu.size | exact h.2
    · exact (hu.block _ hLs hl).trans hL
    · exact (hu.block _ (by omega) hd).trans hK
  · -- ONE ROUND
    intro i x I W hx ⟨hj, hd, hl, hlt, hL, hK⟩
    have hLs := (Array.getElem?_eq_some_iff.1 hL).1
    have hlt' : ∀ k, (I k ∨ mach k) → k < W.heap.size := fun k h => by
      rcases h with h | h
      · exact hlt k h
      · have := hmn k h; omega
    have hy := run_yield (P := P) (args := x) hL (by rw [hrec]; exact hps x (List.mem_of_getElem? hx))
    rw [hrec] at hy
    refine ⟨fn, _, assign, body, hy, roundIn_of_wpIn hfn (Go.wpIn_mono (hassign _ i x _ W hx hj hlt') ?_)⟩
    clear hy
    intro e a1 Wa hq
    cases e with
    | normal =>
      obtain ⟨hka, hm⟩ := hq
      have hLa := (hka.same _ (.inl (.inr hml))).trans hL
      have hKa := (hka.same _ (.inl (.inr hmd))).trans hK
      have hLas := (Array.getElem?_eq_some_iff.1 hLa).1
      refine ⟨_, run_beginRound hLa (by rw [hrec]), ?_⟩
      have hL2 : (Wa.putObj (w.heap.size + 1) (.loop { rec .ready none with state := .busy })).heap[w.heap.size + 1]? = some (.loop { rec .ready none with state := .busy }) := World.putObj_heap_same hLas
      have hK2 : (Wa.putObj (w.heap.size + 1) (.loop { rec .ready none with state := .busy })).heap[w.heap.size]? = some (.deferred (some [])) := (World.putObj_heap_other (by omega)).trans hKa
      have hm2 : M i x a1 (fun k => I k ∨ mach k) (Wa.putObj (w.heap.size + 1) (.loop { rec .ready none with state := .busy })) :=
        (hM i x a1).same hm ((Upd.refl _ _).putObj (.inl (.inr hml)) _) (by simp)
      have kp : ∀ (W3 W4 : World) (o : Obj), Keeps (fun k => (I k ∨ mach k) ∨ D k) (Wa.putObj (w.heap.size + 1) (.loop { rec .ready none with state := .busy })) W3 → W4 = W3.putObj (w.heap.size + 1) o → Keeps (fun k => I k ∨ D k) W W4 := by
        rintro W3 W4 o hk3 rfl
        refine ⟨by have := hka.size; have := hk3.size; simp at *; omega, fun k hk => ?_⟩
        have hne : k ≠ w.heap.size + 1 := by
          rintro rfl; rcases hk with hk | hk
          · exact hl hk
          · have := hD _ hk; omega
        have hk' : (I k ∨ mach k) ∨ D k := hk.imp .inl id
        exact (World.putObj_heap_other hne).trans ((hk3.same k hk').trans ((World.putObj_heap_other hne).trans (hka.same k hk')))
      have fin : ∀ (jump : Option Code) (W3 : World), Keeps (fun k => (I k ∨ mach k) ∨ D k) (Wa.putObj (w.heap.size + 1) (.loop { rec .ready none with state := .busy })) W3 →
          (Instr.endRound (w.heap.size + 1) jump).run P W3 = .ok (.bool jump.isNone) (W3.putObj (w.heap.size + 1) (.loop (rec (if jump.isNone then .ready else .done) jump))) ∧
          (W3.putObj (w.heap.size + 1) (.loop (rec (if jump.isNone then .ready else .done) jump))).heap[w.heap.size + 1]? = some (.loop (rec (if jump.isNone then .ready else .done) jump)) ∧
          (W3.putObj (w.heap.size + 1) (.loop (rec (if jump.isNone then .ready else .done) jump))).heap[w.heap.size]? = some (.deferred (some [])) ∧ W.heap.size ≤ W3.heap.size := fun jump W3 hk3 => by
        have hl3 := (hk3.same _ (.inl (.inr hml))).trans hL2
        have hr := run_endRound (P := P) jump hl3
        rw [hrec] at hr ⊢
        exact ⟨hr, World.putObj_heap_same (Array.getElem?_eq_some_iff.1 hl3).1, (World.putObj_heap_other (by omega)).trans ((hk3.same _ (.inl (.inr hmd))).trans hK2), by have := hka.size; have := hk3.size; simp at *; omega⟩
      refine Go.wpIn_mono (hbody _ i x _ _ a1 hx hm2 (fun k h => by have := hlt' k h; have := hka.size; simp; omega) ⟨_, hL2⟩) ?_
      rintro e a3 W3 hp
      cases e with
      | normal =>
        obtain ⟨hk3, hj3⟩ := hp
        obtain ⟨hr, hl4, hk4, hsz⟩ := fin none W3 hk3
        exact ⟨_, _, hr, kp W3 _ _ hk3 rfl, .inl ⟨rfl, (hJ (i + 1)).same hj3 ((Upd.refl _ _).putObj (.inl (.inr hml)) _) (by simp), hd, hl, fun k h => by have := hlt k h; simp; omega, hl4, hk4⟩⟩
      | ret =>
        obtain ⟨hk3, hj3⟩ := hp
        obtain ⟨hr, hl4, hk4, hsz⟩ := fin (some .ret) W3 hk3
        exact ⟨_, _, hr, kp W3 _ _ hk3 rfl, .inr ⟨rfl, .ret, (hJx _).same hj3 ((Upd.refl _ _).putObj (.inl (.inr hml)) _) (by simp), hd, hl, fun k h => by have := hlt k h; simp; omega, hl4, hk4⟩⟩
      | exit id =>
        obtain ⟨hk3, hj3⟩ := hp
        obtain ⟨hr, hl4, hk4, hsz⟩ := fin (some (.exit id)) W3 hk3
        exact ⟨_, _, hr, kp W3 _ _ hk3 rfl, .inr ⟨rfl, .exit id, (hJx _).same hj3 ((Upd.refl _ _).putObj (.inl (.inr hml)) _) (by simp), hd, hl, fun k h => by have := hlt k h; simp; omega, hl4, hk4⟩⟩
      | goto t =>
        obtain ⟨hk3, hj3⟩ := hp
        obtain ⟨hr, hl4, hk4, hsz⟩ := fin (some (.goto t)) W3 hk3
        exact ⟨_, _, hr, kp W3 _ _ hk3 rfl, .inr ⟨rfl, .goto t, (hJx _).same hj3 ((Upd.refl _ _).putObj (.inl (.inr hml)) _) (by simp), hd, hl, fun k h => by have := hlt k h; simp; omega, hl4, hk4⟩⟩
      | panic ch => exact hp.elim
      | outgrown => exact hp.elim
    | ret => exact hq.elim
    | exit id => exact hq.elim
    | goto t => exact hq.elim
    | panic ch => exact hq.elim
    | outgrown => exact hq.elim
  · exact ⟨Nat.le_trans hag.size (by omega), fun k hk => ((hu1 nob).block k (hD k hk) (fun f => f)).trans (hag.same k hk)⟩
  · intro k hk; have := hI₀ k hk; omega
  · exact ⟨hJ1, fun h => by have := hI₀ _ h; omega, fun h => by have := hI₀ _ h; omega, fun k h => by have := hI₀ _ h; omega, hL1, hK1⟩
  · rintro e W2 ⟨⟨v, rfl⟩, I', hI1, hI2, (⟨hj, hd, hl, hlt, hL, hK⟩ | ⟨c, hj, hd, hl, hlt, hL, hK⟩)⟩
    · refine ⟨none, _, by have := run_endLoop (P := P) hL (by rw [hrec]; simp); rw [hrec] at this; exact this, hdone w.heap.size (fun k => I' k ∨ mach k) _ ?_ (.inr hmd) (Nat.le_refl _) ?_ ?_ ?_⟩
      · exact (hJ _).same hj ((Upd.refl _ _).putObj (.inl (.inr hml)) _) (by simp)
      · exact (World.putObj_heap_other (by omega)).trans hK
      · exact fun k h => .inl (hI1 k h)
      · intro k h; rcases h with h | h
        · rcases hI2 k h with h | h <;> first | exact .inl h | exact .inr (by omega)
        · have := hmn k h; exact .inr (by omega)
    · refine ⟨some c, _, by have := run_endLoop (P := P) hL (by rw [hrec]; simp); rw [hrec] at this; exact this, hstop w.heap.size c (fun k => I' k ∨ mach k) _ ?_ (.inr hmd) (Nat.le_refl _) ?_ ?_ ?_⟩
      · exact (hJx _).same hj ((Upd.refl _ _).putObj (.inl (.inr hml)) _) (by simp)
      · exact (World.putObj_heap_other (by omega)).trans hK
      · exact fun k h => .inl (hI1 k h)
      · intro k h; rcases h with h | h
        · rcases hI2 k h with h | h <;> first | exact .inl h | exact .inr (by omega)
        · have := hmn k h; exact .inr (by omega)

theorem stab_base (S : Nat → Prop) (w : World) : Stab (fun I W => Upd S w W ∧ ∀ k, I k → S k ∨ w.heap.size ≤ k) := by
  intro I W W' ⟨hu, hI⟩ h
  refine ⟨hu.trans' h (fun i hi hk => (hI i hk).resolve_right (by omega)), fun k hk => ?_⟩
  rcases hk with hk | hk
  · exact hI k hk
  · have := hu.size; exact .inr (by omega)

theorem stab_and {J : (Nat → Prop) → World → Prop} (p : Prop) (hJ : Stab J) : Stab (fun I W => p ∧ J I W) := fun I W W' ⟨hp, hj⟩ hu => ⟨hp, hJ I W W' hj hu⟩
theorem stab_false : Stab (fun _ _ => False) := fun _ _ _ h _ => h

/-- What a party that ranges over another iterator says of its own blocks ('own': whoever ranges over it counts them as the iterator's; 'prot': blocks whose contents C speaks of). -/
def Wrap (J : (Nat → Prop) → World → Prop) (own prot : Nat → Prop) (C : World → Prop) : (Nat → Prop) → World → Prop := fun I W =>
  J (fun k => I k ∨ own k) W ∧ (∀ k, (own k ∨ prot k) → ¬ I k ∧ k < W.heap.size) ∧ C W

theorem stab_wrap {J : (Nat → Prop) → World → Prop} (hJ : Stab J) {own prot : Nat → Prop} {C : World → Prop} (hC : ∀ W W', (∀ k, prot k → W'.heap[k]? = W.heap[k]?) → C W → C W') : Stab (Wrap J own prot C) := by
  intro I W W' ⟨hj, hd, hc⟩ hu
  refine ⟨?_, fun k hk => ⟨fun h => ?_, Nat.lt_of_lt_of_le (hd k hk).2 hu.size⟩, hC W W' (fun k hk => hu.block k (hd k (.inr hk)).2 (hd k (.inr hk)).1) hc⟩
  · have h2 := hJ _ W W' hj (hu.mono fun k h => .inl h)
    have e : grow (fun k => I k ∨ own k) W W' = fun k => grow I W W' k ∨ own k := by
      funext k
      simp only [grow]
      exact propext ⟨fun x => by rcases x with (x | x) | x <;> first | exact .inl (.inl x) | exact .inr x | exact .inl (.inr x), fun x => by rcases x with (x | x) | x <;> first | exact .inl (.inl x) | exact .inr x | exact .inl (.inr x)⟩
    rwa [e] at h2
  · rcases h with h | h
    · exact (hd k hk).1 h
    · have := (hd k hk).2; omega

theorem Wrap.keeps {J J' : (Nat → Prop) → World → Prop} {own prot : Nat → Prop} {C C' : World → Prop} {I : Nat → Prop} {W W' : World} (h : Wrap J own prot C I W) (hs : W.heap.size ≤ W'.heap.size) (hj : J' (fun k => I k ∨ own k) W') (hc : C' W') : Wrap J' own prot C' I W' :=
  ⟨hj, fun k hk => ⟨(h.2.1 k hk).1, Nat.lt_of_lt_of_le (h.2.1 k hk).2 hs⟩, hc⟩

/-- Over an iterator that yields nothing. -/
theorem wpIn_range_nil {P : Program} {gf : FuncId} {lb : Array Value} {D : Nat → Prop} {w₀ : World} (hit : IterSpec P gf lb D w₀ [])
    {g : Operand} {ps : Array Tmp} {assign body : Code} {Q : Exit → Act → World → Prop} {a : Act} {w : World}
    (hg : a.eval g = .func (.func gf) #[] lb) (eg : ∀ args w, (callFunc gf args).run P w = .ok (.enter gf args) w)
    (hD : ∀ k, D k → k < w.heap.size) (hag : Keeps D w₀ w)
    (hdone : ∀ d W, Upd nob w W → w.heap.size ≤ d → W.heap[d]? = some (.deferred (some [])) → Q .normal { a with defers := { target := .collected d, args := #[] } :: a.defers } W) :
    (Code.rangeFunc g ps assign body).wpIn Fence.wide 0 P Q a w :=
  wpIn_range hit hg eg hD hag (fun _ h => by cases h) (fun _ I W => Upd nob w W ∧ ∀ k, I k → nob k ∨ w.heap.size ≤ k) (fun _ _ _ => False) (fun _ => stab_base _ _) (fun _ => stab_false) nob (fun _ h => h.elim) ⟨Upd.refl _ _, fun _ h => h.elim⟩
    (fun _ _ _ _ _ => False) (fun _ _ _ => stab_false) (fun _ _ _ _ _ h => by cases h) (fun _ _ _ _ _ _ h => by cases h)
    (fun d _ W h _ hd hk _ _ => hdone d W h.1 hd hk) (fun _ _ _ _ h => h.elim)

/-- A call by its contract, within the fence. -/
theorem viaCalls {P : Program} {f : FuncId} {args : Array Value} {w : World} {R R' : Ending → World → Prop} (c : Calls P f args w R) (h : ∀ e w', R e w' → R' e w') :
    Fence.wide.fn f ∧ Fence.wide.depth = none ∧ CallsIn Fence.wide 0 P f args w R' := ⟨trivial, rfl, callsIn_wide.2 (c.mono h)⟩
theorem viaCallsR {P : Program} {l : Nat} {f : FuncId} {args : Array Value} {w : World} {R R' : Ending → World → Prop} (c : Calls P f args w R) (h : ∀ e w', R e w' → R' e w') :
    Fence.wide.fn f ∧ Fence.wide.depth = none ∧ CallsIn (Fence.wide.inRound l) 0 P f args w R' := ⟨trivial, rfl, CallsIn.inRound l (callsIn_wide.2 (c.mono h))⟩

theorem roundInRound {F : Fence} {n : Nat} {P : Program} {l l' : Nat} {f : FuncId} {tmps : Array Value} {assign body : Code} {w : World} {R : Ending → World → Prop} (h : RoundIn F n P l f tmps assign body w R) :
    RoundIn (F.inRound l') n P l f tmps assign body w R := h
theorem cell_new1 (w : World) (v : Value) (t : TypeId) : (w.alloc (.cells #[v] t)).cell? ⟨w.heap.size, 0, none⟩ = some v := by
  rw [cell_of_row _ _ _ _ _ _ (heap_alloc_new w _)]; rfl
theorem cell_new1' (w : World) (o : Obj) (v : Value) (t : TypeId) : ((w.alloc o).alloc (.cells #[v] t)).cell? ⟨w.heap.size + 1, 0, none⟩ = some v := by
  have h := cell_new1 (w.alloc o) v t; rwa [World.size_alloc] at h
end Go.Proofs.Ytdpnpkleobjkfaa
