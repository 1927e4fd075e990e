/- Texts put one behind the other: Iter, Law, Tree, Lwalk, Lsound, Rowl, Ord, Path. -/
import Derived.RangeFuncNested
import Derived.RangeFuncBound
import Derived.RangeFuncCalls
import Derived.RangeFuncLeaves
import Derived.WalkKit
import Derived.OwnWalkIn
import Derived.TacticsInMore
import Derived.LoopNIn
import Derived.LoopIn
import Derived.Shelf.Abstract
import Derived.Laws.Rows
import Derived.Laws.ResultCell
import Derived.Deep.MidRow
import Derived.Maps.AppendAt
import Derived.Deep.QuietTactic
import Derived.Test.YtiampoebdmflgaaChecked
import Derived.BigQuiet
import Derived.BigFrame
import Derived.Lib.Hide
import Derived.WalkLawsBesides
import Derived.Great.BuildSlice
import Derived.OrdersIn
import Derived.Deep.RegionHeld3
import Derived.StillTail
/- An iterator ('iter.Seq') and the code that ranges over it: what each promises the other, for iterators that keep state of their own in cells; the law for 'range over a function'. Over any program. -/
namespace Go.Proofs.Ytiampoebdmflgaa
open Go.RowKit
set_option linter.unusedVariables false
structure Upd (S : Nat → Prop) (w w' : World) : Prop where
 os : w'.os = w.os
 tape : w'.tape = w.tape
 output : w'.output = w.output
 size : w.heap.size ≤ w'.heap.size
 block : ∀ k, k < w.heap.size → ¬ S k → w'.heap[k]? = w.heap[k]?
def nob : Nat → Prop := fun _ => False
structure Keeps (K : Nat → Prop) (w w' : World) : Prop where
 size : w.heap.size ≤ w'.heap.size
 same : ∀ k, K k → w'.heap[k]? = w.heap[k]?
theorem Upd.refl (S : Nat → Prop) (w : World) : Upd S w w := ⟨rfl, rfl, rfl, Nat.le_refl _, fun _ _ _ => rfl⟩
theorem Upd.trans {S : Nat → Prop} {a b c : World} (h : Upd S a b) (k : Upd S b c) : Upd S a c :=
 ⟨k.os.trans h.os, k.tape.trans h.tape, k.output.trans h.output, Nat.le_trans h.size k.size, fun i hi hs => (k.block i (Nat.lt_of_lt_of_le hi h.size) hs).trans (h.block i hi hs)⟩
theorem Upd.trans' {S T : Nat → Prop} {a b c : World} (h : Upd S a b) (k : Upd T b c) (hT : ∀ i, i < a.heap.size → T i → S i) : Upd S a c :=
 ⟨k.os.trans h.os, k.tape.trans h.tape, k.output.trans h.output, Nat.le_trans h.size k.size, fun i hi hs => (k.block i (Nat.lt_of_lt_of_le hi h.size) (fun t => hs (hT i hi t))).trans (h.block i hi hs)⟩
theorem Upd.mono {S T : Nat → Prop} {a b : World} (h : Upd S a b) (hs : ∀ k, S k → T k) : Upd T a b :=
 ⟨h.os, h.tape, h.output, h.size, fun k hk ht => h.block k hk (fun s => ht (hs k s))⟩
theorem Upd.alloc {S : Nat → Prop} {a w : World} (h : Upd S a w) (o : Obj) : Upd S a (w.alloc o) :=
 h.trans ⟨rfl, rfl, rfl, by simp, fun k hk _ => Below.heap_alloc _ _ _ hk⟩
theorem Upd.drew {S : Nat → Prop} {a w : World} (h : Upd S a w) : Upd S a w.drew := ⟨h.os, h.tape, h.output, h.size, h.block⟩
theorem Upd.setCell {S : Nat → Prop} {a w : World} (h : Upd S a w) {p : Addr} (hp : S p.block ∨ a.heap.size ≤ p.block) (u : Value) : Upd S a (w.setCell p u) :=
 ⟨h.os, h.tape, h.output, by simp [World.setCell]; exact h.size, fun k hk hs => by
  have hne : k ≠ p.block := by rintro rfl; rcases hp with hp | hp <;> first | exact hs hp | omega
  exact (Below.heap_setCell _ _ _ _ hne).trans (h.block k hk hs)⟩
theorem Upd.putObj {S : Nat → Prop} {a w : World} (h : Upd S a w) {r : Nat} (hr : S r ∨ a.heap.size ≤ r) (o : Obj) : Upd S a (w.putObj r o) :=
 ⟨h.os, h.tape, h.output, by simp; exact h.size, fun k hk hs => by
  have hne : k ≠ r := by rintro rfl; rcases hr with hp | hp <;> first | exact hs hp | omega
  exact (World.putObj_heap_other hne).trans (h.block k hk hs)⟩
theorem Upd.grown {S : Nat → Prop} {a w w' : World} {row : Option Nat} (h : Upd S a w) (hg : w.grownBy w' row) (hr : ∀ k, row = some k → S k ∨ a.heap.size ≤ k) : Upd S a w' :=
 ⟨hg.os.trans h.os, hg.tape.trans h.tape, hg.output.trans h.output, Nat.le_trans h.size hg.size, fun k hk hs => by
  refine (hg.block k (Nat.lt_of_lt_of_le hk h.size) (fun e => ?_)).trans (h.block k hk hs)
  rcases hr k e.symm with h1 | h1 <;> first | exact hs h1 | omega⟩
theorem Upd.below {a w : World} (h : Upd nob a w) : Below a.heap.size a w := ⟨h.os, h.tape, h.output, h.size, fun k hk => h.block k hk (fun f => f)⟩
theorem Upd.of_below {S : Nat → Prop} {a w : World} (h : Below a.heap.size a w) : Upd S a w := ⟨h.os, h.tape, h.output, h.size, fun k hk _ => h.block k hk⟩
theorem Upd.cell {S : Nat → Prop} {w w' : World} (h : Upd S w w') {p : Addr} (hp : p.block < w.heap.size) (hs : ¬ S p.block) : w'.cell? p = w.cell? p := World.cell?_of_block (w := w) (h.block p.block hp hs)
theorem Upd.frozen {S : Nat → Prop} {w w' : World} (h : Upd S w w') {p : Addr} (hp : p.block < w.heap.size) (hs : ¬ S p.block) : w'.frozen? p = w.frozen? p := World.frozen?_of_block (w := w) (h.block p.block hp hs)
theorem Upd.keeps {S : Nat → Prop} {w w' : World} (h : Upd S w w') {K : Nat → Prop} (hK : ∀ k, K k → ¬ S k ∧ k < w.heap.size) : Keeps K w w' :=
 ⟨h.size, fun k hk => h.block k (hK k hk).2 (hK k hk).1⟩
theorem Keeps.refl (K : Nat → Prop) (w : World) : Keeps K w w := ⟨Nat.le_refl _, fun _ _ => rfl⟩
theorem Keeps.trans {K : Nat → Prop} {a b c : World} (h : Keeps K a b) (k : Keeps K b c) : Keeps K a c := ⟨Nat.le_trans h.size k.size, fun i hi => (k.same i hi).trans (h.same i hi)⟩
theorem Keeps.mono {K L : Nat → Prop} {a b : World} (h : Keeps K a b) (hl : ∀ k, L k → K k) : Keeps L a b := ⟨h.size, fun k hk => h.same k (hl k hk)⟩
theorem Keeps.cell {K : Nat → Prop} {w w' : World} (h : Keeps K w w') {p : Addr} (hp : K p.block) : w'.cell? p = w.cell? p := World.cell?_of_block (w := w) (h.same p.block hp)
theorem Keeps.frozen {K : Nat → Prop} {w w' : World} (h : Keeps K w w') {p : Addr} (hp : K p.block) : w'.frozen? p = w.frozen? p := World.frozen?_of_block (w := w) (h.same p.block hp)
def grow (I : Nat → Prop) (W W' : World) : Nat → Prop := fun k => I k ∨ (W.heap.size ≤ k ∧ k < W'.heap.size)
def Stab (J : (Nat → Prop) → World → Prop) : Prop := ∀ I W W', J I W → Upd I W W' → J (grow I W W') W'
theorem grow_same {I : Nat → Prop} {W W' : World} (h : W'.heap.size = W.heap.size) : grow I W W' = I := by
 funext k; refine propext ⟨fun x => ?_, .inl⟩
 rcases x with x | x <;> first | exact x | omega
theorem Stab.same {J : (Nat → Prop) → World → Prop} (hJ : Stab J) {I : Nat → Prop} {W W' : World} (h : J I W) (hu : Upd I W W') (hs : W'.heap.size = W.heap.size) : J I W' := by
 have := hJ I W W' h hu; rwa [grow_same hs] at this
theorem Stab.alloc {J : (Nat → Prop) → World → Prop} (hJ : Stab J) {I : Nat → Prop} {W : World} (h : J I W) (o : Obj) : J (fun k => I k ∨ k = W.heap.size) (W.alloc o) := by
 have := hJ I W _ h ((Upd.refl I W).alloc o)
 have e : grow I W (W.alloc o) = fun k => I k ∨ k = W.heap.size := by
  funext k; simp only [grow, World.size_alloc]; refine propext ⟨fun x => x.imp id (by omega), fun x => x.imp id (by omega)⟩
 rwa [e] at this
def IterSpec (P : Program) (gf : FuncId) (lb : Array Value) (D : Nat → Prop) (w₀ : World) (xs : List (Array Value)) : Prop :=
 ∀ (l : Nat) (J : Nat → (Nat → Prop) → World → Prop) (Jx : (Nat → Prop) → World → Prop), (∀ i, Stab (J i)) → Stab Jx →
  (∀ i x I W, xs[i]? = some x → J i I W → YieldAt Fence.wide 0 P l x W fun e W' =>
   Keeps (fun k => I k ∨ D k) W W' ∧ ((e = .returned (.bool true) ∧ J (i + 1) I W') ∨ (e = .returned (.bool false) ∧ Jx I W'))) →
  ∀ I W, Keeps D w₀ W → (∀ k, I k → k < W.heap.size) → J 0 I W → Calls P gf (#[.func (.yield l) #[] #[]] ++ lb) W fun e W' =>
   (∃ v, e = .returned v) ∧ ∃ I', (∀ k, I k → I' k) ∧ (∀ k, I' k → I k ∨ W.heap.size ≤ k) ∧ (J xs.length I' W' ∨ Jx I' W')
def roundEnd (K : Nat → Prop) (J : (Nat → Prop) → World → Prop) (Jx : Code → (Nat → Prop) → World → Prop) (I : Nat → Prop) (W : World) : Exit → Act → World → Prop
 | .normal, _, W' => Keeps K W W' ∧ J I W'
 | .ret, _, W' => Keeps K W W' ∧ Jx .ret I W'
 | .exit id, _, W' => Keeps K W W' ∧ Jx (.exit id) I W'
 | .goto t, _, W' => Keeps K W W' ∧ Jx (.goto t) I W'
 | .panic _, _, _ => False
 | .outgrown, _, _ => False
theorem wpIn_range {P : Program} {gf : FuncId} {lb : Array Value} {D : Nat → Prop} {w₀ : World} {xs : List (Array Value)} (hit : IterSpec P gf lb D w₀ xs)
    {g : Operand} {ps : Array Tmp} {assign body : Code} {Q : Exit → Act → World → Prop} {a : Act} {w : World}
    (hg : a.eval g = .func (.func gf) #[] lb) (eg : ∀ args w, (callFunc gf args).run P w = .ok (.enter gf args) w)
    (hD : ∀ k, D k → k < w.heap.size) (hag : Keeps D w₀ w) (hps : ∀ x, x ∈ xs → x.size = ps.size)
    (J : Nat → (Nat → Prop) → World → Prop) (Jx : Code → (Nat → Prop) → World → Prop) (hJ : ∀ i, Stab (J i)) (hJx : ∀ c, Stab (Jx c))
    (I₀ : Nat → Prop) (hI₀ : ∀ k, I₀ k → k < w.heap.size) (h0 : J 0 I₀ w)
    (M : Nat → Array Value → Act → (Nat → Prop) → World → Prop) (hM : ∀ i x a, Stab (M i x a))
    (hassign : ∀ l i x I W, xs[i]? = some x → J i I W → (∀ k, I k → k < W.heap.size) → assign.wpIn (Fence.wide.inRound l) 0 P
     (Exit.then (fun a₁ W₁ => Keeps (fun k => I k ∨ D k) W W₁ ∧ M i x a₁ I W₁) (fun _ _ _ => False)) { tmps := (ps.zip x).foldl (fun t (p, v) => t.setIfInBounds p v) a.tmps, defers := [] } W)
    (hbody : ∀ l i x I W a₁, xs[i]? = some x → M i x a₁ I W → (∀ k, I k → k < W.heap.size) → (∃ r, W.heap[l]? = some (.loop r)) →
     body.wpIn (Fence.wide.inRound l) 0 P (roundEnd (fun k => I k ∨ D k) (J (i + 1)) Jx I W) a₁ W)
    (hdone : ∀ d I W, J xs.length I W → I d → w.heap.size ≤ d → W.heap[d]? = some (.deferred (some [])) → (∀ k, I₀ k → I k) → (∀ k, I k → I₀ k ∨ w.heap.size ≤ k) →
     Q .normal { a with defers := { target := .collected d, args := #[] } :: a.defers } W)
    (hstop : ∀ d c I W, Jx c I W → I d → w.heap.size ≤ d → W.heap[d]? = some (.deferred (some [])) → (∀ k, I₀ k → I k) → (∀ k, I k → I₀ k ∨ w.heap.size ≤ k) →
     c.wpIn Fence.wide 0 P Q { a with defers := { target := .collected d, args := #[] } :: a.defers } W) :
    (Code.rangeFunc g ps assign body).wpIn Fence.wide 0 P Q a w := by
 refine wpIn_rangeFunc ?_
 intro fn hfn
 rw [Fence.wide_round]
 obtain ⟨rec, hrec⟩ : ∃ rec : LoopState → Option Code → Loop, rec = fun st pe => { state := st, pending := pe, fn, tmps := a.tmps, params := ps, assign, body, defers := w.heap.size } := ⟨_, rfl⟩
 obtain ⟨W1, hW1⟩ : ∃ W1, (w.alloc (.deferred (some []))).alloc (.loop (rec .ready none)) = W1 := ⟨_, rfl⟩
 obtain ⟨mach, hmach⟩ : ∃ mach : Nat → Prop, mach = fun k => k = w.heap.size ∨ k = w.heap.size + 1 := ⟨_, rfl⟩
 have hs1 : W1.heap.size = w.heap.size + 2 := by rw [← hW1]; simp
 have hL1 : W1.heap[w.heap.size + 1]? = some (.loop (rec .ready none)) := by
  rw [← hW1]; have := World.alloc_heap_new (w.alloc (.deferred (some []))) (.loop (rec .ready none)); rwa [World.size_alloc] at this
 have hK1 : W1.heap[w.heap.size]? = some (.deferred (some [])) := by
  rw [← hW1]; exact (Below.heap_alloc _ _ _ (by simp)).trans (World.alloc_heap_new w _)
 have hu1 : ∀ S, Upd S w W1 := fun S => by rw [← hW1]; exact ((Upd.refl S w).alloc _).alloc _
 have hJ1 : J 0 (fun k => I₀ k ∨ mach k) W1 := by
  have := hJ 0 I₀ w W1 h0 (hu1 _)
  have e : grow I₀ w W1 = fun k => I₀ k ∨ mach k := by
   funext k; simp only [grow, hs1, hmach]; exact propext ⟨fun x => x.imp id (by omega), fun x => x.imp id (by omega)⟩
  rwa [e] at this
 have hml : mach (w.heap.size + 1) := by rw [hmach]; exact .inr rfl
 have hmd : mach w.heap.size := by rw [hmach]; exact .inl rfl
 have hmn : ∀ k, mach k → k = w.heap.size ∨ k = w.heap.size + 1 := fun k h => by rw [hmach] at h; exact h
 refine ⟨w.heap.size + 1, [{ target := .collected w.heap.size, args := #[] }], W1, { target := .fn (.func gf) lb, args := #[.func (.yield (w.heap.size + 1)) #[] #[]] }, W1, gf,
  #[.func (.yield (w.heap.size + 1)) #[] #[]] ++ lb, W1, ?_, ?_, ?_, ?_, fun h => by simp [Fence.wide] at h, ?_⟩
 · rw [← hW1, hrec]; exact run_enterLoop_outer _ _ _ _ _
 · simp only [resolve, hg]
   simp [go_sem]
 · intro f' _; trivial
 · simp [invoke, go_sem, eg]
 refine callsIn_wide.2 ((hit (w.heap.size + 1)
  (fun i I W => J i (fun k => I k ∨ mach k) W ∧ ¬ I w.heap.size ∧ ¬ I (w.heap.size + 1) ∧ (∀ k, I k → k < W.heap.size) ∧ W.heap[w.heap.size + 1]? = some (.loop (rec .ready none)) ∧ W.heap[w.heap.size]? = some (.deferred (some [])))
  (fun I W => ∃ c, Jx c (fun k => I k ∨ mach k) W ∧ ¬ I w.heap.size ∧ ¬ I (w.heap.size + 1) ∧ (∀ k, I k → k < W.heap.size) ∧ W.heap[w.heap.size + 1]? = some (.loop (rec .done (some c))) ∧ W.heap[w.heap.size]? = some (.deferred (some [])))
  ?_ ?_ ?_ I₀ W1 ?_ ?_ ?_).mono ?_)
 · intro i I W W' ⟨hj, hd, hl, hlt, hL, hK⟩ hu
   have hLs := (Array.getElem?_eq_some_iff.1 hL).1
   refine ⟨?_, fun h => ?_, fun h => ?_, fun k h => ?_, ?_, ?_⟩
   · have h2 := hJ i _ W W' hj (hu.mono fun k h => .inl h)
     have e : grow (fun k => I k ∨ mach k) W W' = fun k => grow I W W' k ∨ mach k := by
      funext k; simp only [grow]; exact propext ⟨fun x => by rcases x with (x | x) | x <;> first | exact .inl (.inl x) | exact .inr x | exact .inl (.inr x), fun x => by rcases x with (x | x) | x <;> first | exact .inl (.inl x) | exact .inr x | exact .inl (.inr x)⟩
     rwa [e] at h2
   · rcases h with h | h <;> first | exact hd h | omega
   · rcases h with h | h <;> first | exact hl h | omega
   · rcases h with h | h <;> first | exact Nat.lt_of_lt_of_le (hlt k h) hu.size | exact h.2
   · exact (hu.block _ hLs hl).trans hL
   exact (hu.block _ (by omega) hd).trans hK
 · intro I W W' ⟨c, hj, hd, hl, hlt, hL, hK⟩ hu
   have hLs := (Array.getElem?_eq_some_iff.1 hL).1
   refine ⟨c, ?_, fun h => ?_, fun h => ?_, fun k h => ?_, ?_, ?_⟩
   · have h2 := hJx c _ W W' hj (hu.mono fun k h => .inl h)
     have e : grow (fun k => I k ∨ mach k) W W' = fun k => grow I W W' k ∨ mach k := by
      funext k; simp only [grow]; exact propext ⟨fun x => by rcases x with (x | x) | x <;> first | exact .inl (.inl x) | exact .inr x | exact .inl (.inr x), fun x => by rcases x with (x | x) | x <;> first | exact .inl (.inl x) | exact .inr x | exact .inl (.inr x)⟩
     rwa [e] at h2
   · rcases h with h | h <;> first | exact hd h | omega
   · rcases h with h | h <;> first | exact hl h | omega
   · rcases h with h | h <;> first | exact Nat.lt_of_lt_of_le (hlt k h) hu.size | exact h.2
   · exact (hu.block _ hLs hl).trans hL
   exact (hu.block _ (by omega) hd).trans hK
 · -- ONE ROUND
   intro i x I W hx ⟨hj, hd, hl, hlt, hL, hK⟩
   have hLs := (Array.getElem?_eq_some_iff.1 hL).1
   have hlt' : ∀ k, (I k ∨ mach k) → k < W.heap.size := fun k h => by
    rcases h with h | h
    · exact hlt k h
    have := hmn k h; omega
   have hy := run_yield (P := P) (args := x) hL (by rw [hrec]; exact hps x (List.mem_of_getElem? hx))
   rw [hrec] at hy
   refine ⟨fn, _, assign, body, hy, roundIn_of_wpIn hfn (Go.wpIn_mono (hassign _ i x _ W hx hj hlt') ?_)⟩
   clear hy
   intro e a1 Wa hq
   cases e with
   | normal =>
    obtain ⟨hka, hm⟩ := hq
    have hLa := (hka.same _ (.inl (.inr hml))).trans hL
    have hKa := (hka.same _ (.inl (.inr hmd))).trans hK
    have hLas := (Array.getElem?_eq_some_iff.1 hLa).1
    refine ⟨_, run_beginRound hLa (by rw [hrec]), ?_⟩
    have hL2 : (Wa.putObj (w.heap.size + 1) (.loop { rec .ready none with state := .busy })).heap[w.heap.size + 1]? = some (.loop { rec .ready none with state := .busy }) := World.putObj_heap_same hLas
    have hK2 : (Wa.putObj (w.heap.size + 1) (.loop { rec .ready none with state := .busy })).heap[w.heap.size]? = some (.deferred (some [])) := (World.putObj_heap_other (by omega)).trans hKa
    have hm2 : M i x a1 (fun k => I k ∨ mach k) (Wa.putObj (w.heap.size + 1) (.loop { rec .ready none with state := .busy })) :=
     (hM i x a1).same hm ((Upd.refl _ _).putObj (.inl (.inr hml)) _) (by simp)
    have kp : ∀ (W3 W4 : World) (o : Obj), Keeps (fun k => (I k ∨ mach k) ∨ D k) (Wa.putObj (w.heap.size + 1) (.loop { rec .ready none with state := .busy })) W3 → W4 = W3.putObj (w.heap.size + 1) o → Keeps (fun k => I k ∨ D k) W W4 := by
     rintro W3 W4 o hk3 rfl
     refine ⟨by have := hka.size; have := hk3.size; simp at *; omega, fun k hk => ?_⟩
     have hne : k ≠ w.heap.size + 1 := by
      rintro rfl; rcases hk with hk | hk
      · exact hl hk
      have := hD _ hk; omega
     have hk' : (I k ∨ mach k) ∨ D k := hk.imp .inl id
     exact (World.putObj_heap_other hne).trans ((hk3.same k hk').trans ((World.putObj_heap_other hne).trans (hka.same k hk')))
    have fin : ∀ (jump : Option Code) (W3 : World), Keeps (fun k => (I k ∨ mach k) ∨ D k) (Wa.putObj (w.heap.size + 1) (.loop { rec .ready none with state := .busy })) W3 →
        (Instr.endRound (w.heap.size + 1) jump).run P W3 = .ok (.bool jump.isNone) (W3.putObj (w.heap.size + 1) (.loop (rec (if jump.isNone then .ready else .done) jump))) ∧
        (W3.putObj (w.heap.size + 1) (.loop (rec (if jump.isNone then .ready else .done) jump))).heap[w.heap.size + 1]? = some (.loop (rec (if jump.isNone then .ready else .done) jump)) ∧
        (W3.putObj (w.heap.size + 1) (.loop (rec (if jump.isNone then .ready else .done) jump))).heap[w.heap.size]? = some (.deferred (some [])) ∧ W.heap.size ≤ W3.heap.size := fun jump W3 hk3 => by
     have hl3 := (hk3.same _ (.inl (.inr hml))).trans hL2
     have hr := run_endRound (P := P) jump hl3
     rw [hrec] at hr ⊢
     exact ⟨hr, World.putObj_heap_same (Array.getElem?_eq_some_iff.1 hl3).1, (World.putObj_heap_other (by omega)).trans ((hk3.same _ (.inl (.inr hmd))).trans hK2), by have := hka.size; have := hk3.size; simp at *; omega⟩
    refine Go.wpIn_mono (hbody _ i x _ _ a1 hx hm2 (fun k h => by have := hlt' k h; have := hka.size; simp; omega) ⟨_, hL2⟩) ?_
    rintro e a3 W3 hp
    cases e with
    | normal =>
     obtain ⟨hk3, hj3⟩ := hp
     obtain ⟨hr, hl4, hk4, hsz⟩ := fin none W3 hk3
     exact ⟨_, _, hr, kp W3 _ _ hk3 rfl, .inl ⟨rfl, (hJ (i + 1)).same hj3 ((Upd.refl _ _).putObj (.inl (.inr hml)) _) (by simp), hd, hl, fun k h => by have := hlt k h; simp; omega, hl4, hk4⟩⟩
    | ret =>
     obtain ⟨hk3, hj3⟩ := hp
     obtain ⟨hr, hl4, hk4, hsz⟩ := fin (some .ret) W3 hk3
     exact ⟨_, _, hr, kp W3 _ _ hk3 rfl, .inr ⟨rfl, .ret, (hJx _).same hj3 ((Upd.refl _ _).putObj (.inl (.inr hml)) _) (by simp), hd, hl, fun k h => by have := hlt k h; simp; omega, hl4, hk4⟩⟩
    | exit id =>
     obtain ⟨hk3, hj3⟩ := hp
     obtain ⟨hr, hl4, hk4, hsz⟩ := fin (some (.exit id)) W3 hk3
     exact ⟨_, _, hr, kp W3 _ _ hk3 rfl, .inr ⟨rfl, .exit id, (hJx _).same hj3 ((Upd.refl _ _).putObj (.inl (.inr hml)) _) (by simp), hd, hl, fun k h => by have := hlt k h; simp; omega, hl4, hk4⟩⟩
    | goto t =>
     obtain ⟨hk3, hj3⟩ := hp
     obtain ⟨hr, hl4, hk4, hsz⟩ := fin (some (.goto t)) W3 hk3
     exact ⟨_, _, hr, kp W3 _ _ hk3 rfl, .inr ⟨rfl, .goto t, (hJx _).same hj3 ((Upd.refl _ _).putObj (.inl (.inr hml)) _) (by simp), hd, hl, fun k h => by have := hlt k h; simp; omega, hl4, hk4⟩⟩
    | panic ch => exact hp.elim
    | outgrown => exact hp.elim
   | ret => exact hq.elim
   | exit id => exact hq.elim
   | goto t => exact hq.elim
   | panic ch => exact hq.elim
   | outgrown => exact hq.elim
 · exact ⟨Nat.le_trans hag.size (by omega), fun k hk => ((hu1 nob).block k (hD k hk) (fun f => f)).trans (hag.same k hk)⟩
 · intro k hk; have := hI₀ k hk; omega
 · exact ⟨hJ1, fun h => by have := hI₀ _ h; omega, fun h => by have := hI₀ _ h; omega, fun k h => by have := hI₀ _ h; omega, hL1, hK1⟩
 rintro e W2 ⟨⟨v, rfl⟩, I', hI1, hI2, (⟨hj, hd, hl, hlt, hL, hK⟩ | ⟨c, hj, hd, hl, hlt, hL, hK⟩)⟩
 · refine ⟨none, _, by have := run_endLoop (P := P) hL (by rw [hrec]; simp); rw [hrec] at this; exact this, hdone w.heap.size (fun k => I' k ∨ mach k) _ ?_ (.inr hmd) (Nat.le_refl _) ?_ ?_ ?_⟩
   · exact (hJ _).same hj ((Upd.refl _ _).putObj (.inl (.inr hml)) _) (by simp)
   · exact (World.putObj_heap_other (by omega)).trans hK
   · exact fun k h => .inl (hI1 k h)
   intro k h; rcases h with h | h
   · rcases hI2 k h with h | h <;> first | exact .inl h | exact .inr (by omega)
   have := hmn k h; exact .inr (by omega)
 refine ⟨some c, _, by have := run_endLoop (P := P) hL (by rw [hrec]; simp); rw [hrec] at this; exact this, hstop w.heap.size c (fun k => I' k ∨ mach k) _ ?_ (.inr hmd) (Nat.le_refl _) ?_ ?_ ?_⟩
 · exact (hJx _).same hj ((Upd.refl _ _).putObj (.inl (.inr hml)) _) (by simp)
 · exact (World.putObj_heap_other (by omega)).trans hK
 · exact fun k h => .inl (hI1 k h)
 intro k h; rcases h with h | h
 · rcases hI2 k h with h | h <;> first | exact .inl h | exact .inr (by omega)
 have := hmn k h; exact .inr (by omega)
def Wrap (J : (Nat → Prop) → World → Prop) (own prot : Nat → Prop) (C : World → Prop) : (Nat → Prop) → World → Prop := fun I W =>
 J (fun k => I k ∨ own k) W ∧ (∀ k, (own k ∨ prot k) → ¬ I k ∧ k < W.heap.size) ∧ C W
theorem Wrap.keeps {J J' : (Nat → Prop) → World → Prop} {own prot : Nat → Prop} {C C' : World → Prop} {I : Nat → Prop} {W W' : World} (h : Wrap J own prot C I W) (hs : W.heap.size ≤ W'.heap.size) (hj : J' (fun k => I k ∨ own k) W') (hc : C' W') : Wrap J' own prot C' I W' :=
 ⟨hj, fun k hk => ⟨(h.2.1 k hk).1, Nat.lt_of_lt_of_le (h.2.1 k hk).2 hs⟩, hc⟩
theorem viaCalls {P : Program} {f : FuncId} {args : Array Value} {w : World} {R R' : Ending → World → Prop} (c : Calls P f args w R) (h : ∀ e w', R e w' → R' e w') :
    Fence.wide.fn f ∧ Fence.wide.depth = none ∧ CallsIn Fence.wide 0 P f args w R' := ⟨trivial, rfl, callsIn_wide.2 (c.mono h)⟩
theorem viaCallsR {P : Program} {l : Nat} {f : FuncId} {args : Array Value} {w : World} {R R' : Ending → World → Prop} (c : Calls P f args w R) (h : ∀ e w', R e w' → R' e w') :
    Fence.wide.fn f ∧ Fence.wide.depth = none ∧ CallsIn (Fence.wide.inRound l) 0 P f args w R' := ⟨trivial, rfl, CallsIn.inRound l (callsIn_wide.2 (c.mono h))⟩
end Go.Proofs.Ytiampoebdmflgaa
/- Laws for walks: whole rows loaded and stored, within the fence and outside; blocks known whole. Over any program. -/
namespace Go.Proofs.Ytiampoebdmflgaa
open Go.RowKit
set_option linter.unusedVariables false
def Blk (w : World) (g : Nat) (t : TypeId) (cs : Array Value) : Prop := w.heap[g]? = some (.cells cs t (0, 0))
section
variable {w w' : World} {g : Nat} {t : TypeId} {cs : Array Value}
theorem Blk.lt (h : Blk w g t cs) : g < w.heap.size := (Array.getElem?_eq_some_iff.1 h).1
theorem Blk.cell (h : Blk w g t cs) (i : Nat) : w.cell? ⟨g, i, none⟩ = cs[i]? := cell_of_row w g i cs t (0, 0) h
theorem Blk.frozen (h : Blk w g t cs) (i : Nat) : w.frozen? ⟨g, i, none⟩ = false := frozen_of_row w g i cs t h
theorem Blk.new (w : World) (t : TypeId) (cs : Array Value) : Blk (w.alloc (.cells cs t)) w.heap.size t cs := heap_alloc_new w _
theorem Blk.alloc (h : Blk w g t cs) (o : Obj) : Blk (w.alloc o) g t cs := (Below.heap_alloc w o g h.lt).trans h
theorem Blk.set (h : Blk w g t cs) (i : Nat) (u : Value) : Blk (w.setCell ⟨g, i, none⟩ u) g t (cs.setIfInBounds i u) := heap_setCell_same w g i cs t u h
theorem Blk.same (h : Blk w g t cs) {i : Nat} {u : Value} (hu : cs[i]? = some u) : Blk (w.setCell ⟨g, i, none⟩ u) g t cs := by
 have e : cs.setIfInBounds i u = cs := by
  apply Array.ext (by simp)
  intro j h1 h2
  rw [Array.getElem_setIfInBounds]
  split
  · rename_i e; subst e; exact (Array.getElem?_eq_some_iff.1 hu).2.symm
  rfl
 have := h.set i u
 rwa [e] at this
theorem Blk.far (h : Blk w g t cs) {p : Addr} (hp : g ≠ p.block) (u : Value) : Blk (w.setCell p u) g t cs := (heap_setCell_other w p g u hp).trans h
theorem Blk.below {B : Nat} (h : Blk w g t cs) (hb : Below B w w') (hg : g < B) : Blk w' g t cs := (hb.block g hg).trans h
theorem Blk.upd {S : Nat → Prop} (h : Blk w g t cs) (hb : Upd S w w') (hg : ¬ S g) : Blk w' g t cs := (hb.block g h.lt hg).trans h
theorem Blk.keeps {K : Nat → Prop} (h : Blk w g t cs) (hb : Keeps K w w') (hg : K g) : Blk w' g t cs := (hb.same g hg).trans h
theorem Blk.row (h : Blk w g t cs) (cs' : Array Value) : Blk (w.setRow g cs') g t cs' := setRow_heap w g cs cs' t _ h
theorem Blk.rowFar (h : Blk w g t cs) {k : Nat} (hk : g ≠ k) (cs' : Array Value) : Blk (w.setRow k cs') g t cs := (setRow_other w k g cs' hk).trans h
end
theorem Upd.setRow {S : Nat → Prop} {a w : World} (h : Upd S a w) {g : Nat} (hg : S g ∨ a.heap.size ≤ g) (cs : Array Value) : Upd S a (w.setRow g cs) :=
 ⟨h.os, h.tape, h.output, by simp; exact h.size, fun k hk hs => by
  have hne : k ≠ g := by
   rintro rfl
   rcases hg with hp | hp
   · exact hs hp
   omega
  exact (setRow_other w g k cs hne).trans (h.block k hk hs)⟩
inductive Wide : Fence → Prop where
 | out : Wide Fence.wide
 | within (l : Nat) : Wide (Fence.wide.inRound l)
theorem Wide.sem {F : Fence} (h : Wide F) (ρ : Operand → Value) (o : Oper) (hd : ∀ c, o.op ≠ .defer c) : o.semAt F.round ρ = execOp ρ o := by
 cases h with
 | out => rfl
 | within l => exact Oper.semAt_some l _ _ hd
theorem Wide.fn {F : Fence} (h : Wide F) (f : FuncId) : F.fn f := by cases h <;> trivial
theorem wpListIn_runTo {P : Program} {F : Fence} (hF : Wide F) {ops : Array Oper} {rest : List Oper} {o : Oper} {a : Act} {w : World} {Q : Exit → Act → World → Prop} (hg : o.guard = none) (hd : ∀ c, o.op ≠ .defer c)
    (v : Value) (w' : World) (hrun : (execOp a.eval o).run P w = .ok (.value v) w')
    (h : wpListIn F 0 P ops Q rest (a.put o.dst v) w') : wpListIn F 0 P ops Q (o :: rest) a w := by
 refine wpListIn_plain hg fun K hK => ⟨fun f _ => hF.fn f, ?_⟩
 rw [hF.sem _ _ hd, hrun]
 exact hK _ _ h
theorem run_store_blk {P : Program} {o : Oper} {a : Act} {w : World} (ty : TypeId) (x y : Operand) (ho : o.op = .store ty x y)
    (g : Nat) (cells : Array Value) (hx : a.eval x = .pointer (some ⟨g, 0, none⟩)) (hy : a.eval y = .agg cells)
    (t : TypeId) (old : Array Value) (hg : Blk w g t old) (hi : (P.info? ty).map (·.size) = some cells.size)
    (hold : old.size = cells.size) (h1 : cells.all (·.oneCell') = true) :
    ∃ r, (execOp a.eval o).run P w = .ok r (w.setRow g cells) ∧ (r = .skip ∨ r = .value undef) := by
 unfold execOp
 simp only [ho, hx, hy, Instr.storeAt, Instr.sureAddr, Sem.run_bind, Sem.run_pure, Result.andThen_ok, run_storeVar_row w g t ty old cells hg hi hold h1]
 exact ⟨_, rfl, by simp⟩
theorem Blk.range {w : World} {g : Nat} {t : TypeId} {pre cs post : Array Value} (h : Blk w g t (pre ++ cs ++ post)) : w.rangeAt g pre.size cs.toList := by
 intro j v hv
 rw [h.cell]
 have hj : j < cs.size := by have := (List.getElem?_eq_some_iff.1 hv).1; simpa using this
 rw [Array.getElem?_append_left (by simp; omega), Array.getElem?_append_right (by omega)]
 simpa using hv
theorem wpListIn_store_blk {P : Program} {F : Fence} (hF : Wide F) {ops : Array Oper} {rest : List Oper} {o : Oper} {a : Act} {w : World} {Q : Exit → Act → World → Prop} (hgd : o.guard = none) (ty : TypeId) (x y : Operand) (ho : o.op = .store ty x y) (hdst : o.dst = none)
    (g : Nat) (cells : Array Value) (hx : a.eval x = .pointer (some ⟨g, 0, none⟩)) (hy : a.eval y = .agg cells)
    (t : TypeId) (old : Array Value) (hg : Blk w g t old) (hi : (P.info? ty).map (·.size) = some cells.size)
    (hold : old.size = cells.size) (h1 : cells.all (·.oneCell') = true)
    (h : wpListIn F 0 P ops Q rest a (w.setRow g cells)) : wpListIn F 0 P ops Q (o :: rest) a w := by
 obtain ⟨r, hrun, hr⟩ := run_store_blk (P := P) ty x y ho g cells hx hy t old hg hi hold h1
 refine wpListIn_plain hgd fun K hK => ⟨fun f _ => hF.fn f, ?_⟩
 rw [hF.sem _ _ (by intro c; rw [ho]; simp), hrun]
 have h' := hK _ _ h
 rcases hr with rfl | rfl
 · rw [Oper.uponIn_skip, hdst]; exact h'
 rw [Oper.uponIn_value, hdst]; exact h'
/-! ### A struct put together out of parts -/
theorem splice_get (off k : Nat) : ∀ (l : List Value) (s : Nat) (acc : Array Value), off + s + l.length ≤ acc.size →
    ((l.zipIdx s).foldl (fun a (x : Value × Nat) => a.setIfInBounds (off + x.2) x.1) acc)[k]? = if off + s ≤ k ∧ k < off + s + l.length then l[k - (off + s)]? else acc[k]?
 | [], s, acc, _ => by simp; omega
 | x :: l, s, acc, h => by
  simp only [List.length_cons] at h
  have ih := splice_get off k l (s + 1) (acc.setIfInBounds (off + s) x) (by simp; omega)
  simp only [List.zipIdx_cons, List.foldl_cons]
  rw [ih]
  by_cases h1 : k = off + s
  · subst h1
    rw [if_neg (by omega), if_pos (by simp), Array.getElem?_setIfInBounds_self_of_lt (by omega)]
    simp
  by_cases h2 : off + s ≤ k ∧ k < off + s + (x :: l).length
  · rw [if_pos h2, if_pos (by simp only [List.length_cons] at h2; omega)]
    rw [show k - (off + s) = (k - (off + (s + 1))) + 1 by omega]
    simp
  rw [if_neg h2, if_neg (by simp only [List.length_cons] at h2; omega)]
  exact Array.getElem?_setIfInBounds_ne (Ne.symm h1)
theorem splice_eq (cs cells pre post : Array Value) (hc : cells.size = pre.size + cs.size + post.size) (h1 : ∀ k, k < pre.size → cells[k]? = pre[k]?) (h2 : ∀ k, k < post.size → cells[pre.size + cs.size + k]? = post[k]?) :
    cs.zipIdx.foldl (fun a (x : Value × Nat) => a.setIfInBounds (pre.size + x.2) x.1) cells = pre ++ cs ++ post := by
 apply Array.ext_getElem?
 intro k
 rw [← Array.foldl_toList]
 have hz : cs.zipIdx.toList = cs.toList.zipIdx 0 := by simp
 rw [hz, splice_get pre.size k cs.toList 0 cells (by simp; omega)]
 by_cases hk : pre.size ≤ k ∧ k < pre.size + cs.size
 · rw [if_pos (by simp; omega), Array.getElem?_append_left (by simp; omega), Array.getElem?_append_right (by omega)]
   simp
 rw [if_neg (by simp; omega)]
 by_cases hk1 : k < pre.size
 · rw [Array.getElem?_append_left (by simp; omega), Array.getElem?_append_left hk1]
   exact h1 k hk1
 rw [Array.getElem?_append_right (by simp; omega)]
 by_cases hk2 : k < cells.size
 · have := h2 (k - (pre.size + cs.size)) (by omega)
   rw [show pre.size + cs.size + (k - (pre.size + cs.size)) = k by omega] at this
   rw [this, Array.size_append]
 rw [Array.getElem?_eq_none (by omega), Array.getElem?_eq_none (by simp; omega)]
theorem run_build_op {P : Program} {o : Oper} {a : Act} {w : World} (t : TypeId) (parts : Array (Nat × Operand)) (ho : o.op = .build t parts) (cells : Array Value)
    (h : P.built t (parts.map fun (i, x) => (i, a.eval x)).toList = some cells) : (execOp a.eval o).run P w = .ok (.value (.agg cells)) w := by
 have := run_build (P := P) w t (parts.map fun (i, x) => (i, a.eval x)) cells h
 unfold execOp
 simp only [ho, Sem.run_bind, Sem.run_pure, Result.andThen_ok, this]
theorem fill_one {n : Nat} {cells ms : Array Value} (hc : cells.size = n) (hm : ms.size = n) : Instr.fill (fun i => some (i * n, n)) cells [(0, .agg ms)] = some ms := by
 have hs := splice_eq ms cells #[] #[] (by simp; omega) (by intro k hk; simp at hk) (by intro k hk; simp at hk)
 simp only [Array.append_empty, Array.empty_append, List.size_toArray, List.length_nil, Nat.zero_add] at hs
 have h0 : (Value.agg ms).cells = ms := rfl
 simp only [Instr.fill, h0, Nat.zero_mul, Nat.zero_add]
 rw [if_neg (by simp [hm, hc]), hs]
theorem wp_append_at {P : Program} {o : Oper} {a : Act} {w : World} {K : Act → World → Prop} {Q : Exit → Act → World → Prop} (s x : Operand) (t : TypeId)
    (ho : o.op = .call { callee := .builtin .append, args := #[s, x], argTypes := #[t, t] })
    (base : Nat) (e : TypeId) (i : TypeInfo) (z : Value) (size bytes : Nat) (ht : P.underlying t = some (.slice e)) (hi : P.info? e = some i) (hz : i.zero = some z)
    (hsize : i.size = size) (hby : i.bytes = bytes) (hzs : z.cells.size = size) (hsz : 0 < size)
    (v : Value) (n : Nat) (xs : List Value) (hs : a.eval s = v) (hown : w.ownsRow base e size v n xs)
    (ad : Addr) (m c : Nat) (news : List Value) (hx : a.eval x = .slice (some ad) m c) (hl : news.length = m * size) (hnews : ∀ j u, news[j]? = some u → w.cell? (ad.add j) = some u) (h1 : ∀ u ∈ news, u.oneCell' = true)
    (h63 : n + m ≤ maxLen) (hbytes : (n + m) * bytes ≤ 140737488355328) (hbase : base ≤ w.heap.size)
    (h : ∀ v' w', w'.ownsRow base e size v' (n + m) (xs ++ news) → w.grownBy w' v.ownBlock → (v'.ownBlock = v.ownBlock ∨ v'.ownBlock = some w.heap.size) → K (a.put o.dst v') w') : o.wp P a w K Q := by
 obtain ⟨v', w', hrun, h2, h3, _, h4⟩ := run_append_own_at (P := P) w base t o.type e i z size bytes ht hi hz hsize hby hzs hsz v n xs hown ad m c news hl hnews h1 h63 hbytes hbase
 unfold Oper.wp execOp
 simp only [ho, resolve, invoke, builtin, Sem.run_bind, Sem.run_pure, Result.andThen_ok, List.map_toArray, List.map_cons, List.map_nil, hs, hx, hrun]
 exact h v' w' h2 h3 h4
end Go.Proofs.Ytiampoebdmflgaa
/- Levels and terms as trees; what it means that cells of memory read as one. Over any program. -/
namespace Go.Proofs.Ytiampoebdmflgaa
open Go.RowKit
set_option linter.unusedVariables false
inductive Lv where
 | mk (k n : Int) (ks : List Lv)
inductive Tm where
 | mk (k n : Int) (nm : ByteArray) (lv : Lv) (ls : List Lv) (ks : List Tm)
def Lv.k : Lv → Int | .mk k _ _ => k
def Lv.n : Lv → Int | .mk _ n _ => n
def Lv.ks : Lv → List Lv | .mk _ _ ks => ks
def Tm.k : Tm → Int | .mk k _ _ _ _ _ => k
def Tm.n : Tm → Int | .mk _ n _ _ _ _ => n
def Tm.nm : Tm → ByteArray | .mk _ _ nm _ _ _ => nm
def Tm.lv : Tm → Lv | .mk _ _ _ lv _ _ => lv
def Tm.ls : Tm → List Lv | .mk _ _ _ _ ls _ => ls
def Tm.ks : Tm → List Tm | .mk _ _ _ _ _ ks => ks
theorem Lv.ind {C : Lv → Prop} (h : ∀ k n ks, (∀ l ∈ ks, C l) → C (.mk k n ks)) (l : Lv) : C l :=
 Lv.rec (motive_1 := C) (motive_2 := fun ks => ∀ l ∈ ks, C l) (fun k n ks ih => h k n ks ih) (fun _ hl => by cases hl)
  (fun l ls h1 h2 x hx => (List.mem_cons.1 hx).elim (fun e => e ▸ h1) (fun e => h2 x e)) l
theorem Tm.ind {C : Tm → Prop} (h : ∀ k n nm lv ls ks, (∀ t ∈ ks, C t) → C (.mk k n nm lv ls ks)) (t : Tm) : C t :=
 Tm.rec (motive_1 := C) (motive_2 := fun ks => ∀ t ∈ ks, C t) (fun k n nm lv ls ks ih => h k n nm lv ls ks ih) (fun _ hl => by cases hl)
  (fun l ls h1 h2 x hx => (List.mem_cons.1 hx).elim (fun e => e ▸ h1) (fun e => h2 x e)) t
def InI (z : Int) : Prop := -9223372036854775808 ≤ z ∧ z ≤ 9223372036854775807
def rowAt (w : World) (a : Addr) (cs : Array Value) : Prop := ∀ j v, cs[j]? = some v → w.cell? (a.add j) = some v
theorem Addr_add_block (a : Addr) (n : Nat) : (a.add n).block = a.block := by unfold Addr.add; split <;> rfl
theorem Addr_add_add (a : Addr) (i j : Nat) : (a.add i).add j = a.add (i + j) := by
 unfold Addr.add
 by_cases hi : i = 0 <;> by_cases hj : j = 0 <;> simp [hi, hj, Nat.add_assoc]
def Old (D : Nat → Prop) (w w' : World) : Prop := ∀ k, D k → w'.heap[k]? = w.heap[k]?
theorem Old.refl (D : Nat → Prop) (w : World) : Old D w w := fun _ _ => rfl
theorem Old.trans {D : Nat → Prop} {a b c : World} (h : Old D a b) (k : Old D b c) : Old D a c := fun i hi => (k i hi).trans (h i hi)
theorem Old.mono {D E : Nat → Prop} {a b : World} (h : Old D a b) (hc : ∀ k, E k → D k) : Old E a b := fun i hi => h i (hc i hi)
theorem Old.of_below {D : Nat → Prop} {B : Nat} {a b : World} (h : Below B a b) (hD : ∀ k, D k → k < B) : Old D a b := fun k hk => h.block k (hD k hk)
theorem Old.of_upd {D : Nat → Prop} {S : Nat → Prop} {a b : World} (h : Upd S a b) (hS : ∀ k, D k → ¬ S k ∧ k < a.heap.size) : Old D a b :=
 fun k hk => h.block k (hS k hk).2 (hS k hk).1
theorem Old.cell {D : Nat → Prop} {a b : World} (h : Old D a b) {p : Addr} (hp : D p.block) : b.cell? p = a.cell? p := World.cell?_of_block (h p.block hp)
theorem rowAt.old {D : Nat → Prop} {w w' : World} {a : Addr} {cs : Array Value} (h : rowAt w a cs) (ho : Old D w w') (hb : D a.block) : rowAt w' a cs :=
 fun j v hv => (ho.cell (by rw [Addr_add_block]; exact hb)).trans (h j v hv)
mutual
def LvIs (D : Nat → Prop) (w : World) : Lv → Array Value → Prop
 | .mk k n ks, cs => ∃ A c, cs = #[.int .i64 k, .int .i64 n, .slice A ks.length c] ∧ InI k ∧ InI n ∧ (ks.length * 40 ≤ 140737488351232 ∧ ks.length ≤ c) ∧ LvsAt D w ks A 0
def LvsAt (D : Nat → Prop) (w : World) : List Lv → Option Addr → Nat → Prop
 | [], _, _ => True
 | l :: ls, A, i => (∃ a cs, A = some a ∧ D a.block ∧ rowAt w (a.add (i * 3)) cs ∧ LvIs D w l cs) ∧ LvsAt D w ls A (i + 1)
end
mutual
def TmIs (D : Nat → Prop) (w : World) : Tm → Array Value → Prop
 | .mk k n nm lv ls ks, cs => ∃ x y z A c A' c', cs = #[.int .i64 k, .int .i64 n, .string nm, x, y, z, .slice A ls.length c, .slice A' ks.length c'] ∧ InI k ∧ InI n ∧ nm.size ≤ 140737488351232 ∧
     LvIs D w lv #[x, y, z] ∧ (ls.length * 40 ≤ 140737488351232 ∧ ls.length ≤ c) ∧ LvsAt D w ls A 0 ∧ (ks.length * 120 ≤ 140737488351232 ∧ ks.length ≤ c') ∧ TmsAt D w ks A' 0
def TmsAt (D : Nat → Prop) (w : World) : List Tm → Option Addr → Nat → Prop
 | [], _, _ => True
 | t :: ts, A, i => (∃ a cs, A = some a ∧ D a.block ∧ rowAt w (a.add (i * 8)) cs ∧ TmIs D w t cs) ∧ TmsAt D w ts A (i + 1)
end
theorem LvsAt.at_ {D : Nat → Prop} {w : World} : ∀ {ks : List Lv} {A : Option Addr} {i : Nat}, LvsAt D w ks A i → ∀ {j : Nat} {l : Lv}, ks[j]? = some l →
    ∃ a cs, A = some a ∧ D a.block ∧ rowAt w (a.add ((i + j) * 3)) cs ∧ LvIs D w l cs
 | [], _, _, _, _, _, h => by simp at h
 | x :: ks, A, i, hk, 0, l, h => by
  simp only [LvsAt] at hk
  simp only [List.getElem?_cons_zero, Option.some.injEq] at h
  subst h; exact hk.1
 | x :: ks, A, i, hk, j + 1, l, h => by
  simp only [LvsAt] at hk
  have := LvsAt.at_ hk.2 (j := j) (l := l) (by simpa using h)
  rwa [show i + 1 + j = i + (j + 1) by omega] at this
theorem LvsAt.mk {D : Nat → Prop} {w : World} {A : Option Addr} : ∀ {ks : List Lv} {i : Nat}, (∀ j l, ks[j]? = some l → ∃ a cs, A = some a ∧ D a.block ∧ rowAt w (a.add ((i + j) * 3)) cs ∧ LvIs D w l cs) → LvsAt D w ks A i
 | [], _, _ => by simp only [LvsAt]
 | x :: ks, i, h => by
  simp only [LvsAt]
  refine ⟨h 0 x rfl, LvsAt.mk fun j l hj => ?_⟩
  have := h (j + 1) l (by simpa using hj)
  rwa [show i + 1 + j = i + (j + 1) by omega]
theorem TmsAt.at_ {D : Nat → Prop} {w : World} : ∀ {ks : List Tm} {A : Option Addr} {i : Nat}, TmsAt D w ks A i → ∀ {j : Nat} {l : Tm}, ks[j]? = some l →
    ∃ a cs, A = some a ∧ D a.block ∧ rowAt w (a.add ((i + j) * 8)) cs ∧ TmIs D w l cs
 | [], _, _, _, _, _, h => by simp at h
 | x :: ks, A, i, hk, 0, l, h => by
  simp only [TmsAt] at hk
  simp only [List.getElem?_cons_zero, Option.some.injEq] at h
  subst h; exact hk.1
 | x :: ks, A, i, hk, j + 1, l, h => by
  simp only [TmsAt] at hk
  have := TmsAt.at_ hk.2 (j := j) (l := l) (by simpa using h)
  rwa [show i + 1 + j = i + (j + 1) by omega] at this
theorem TmsAt.mk {D : Nat → Prop} {w : World} {A : Option Addr} : ∀ {ks : List Tm} {i : Nat}, (∀ j l, ks[j]? = some l → ∃ a cs, A = some a ∧ D a.block ∧ rowAt w (a.add ((i + j) * 8)) cs ∧ TmIs D w l cs) → TmsAt D w ks A i
 | [], _, _ => by simp only [TmsAt]
 | x :: ks, i, h => by
  simp only [TmsAt]
  refine ⟨h 0 x rfl, TmsAt.mk fun j l hj => ?_⟩
  have := h (j + 1) l (by simpa using hj)
  rwa [show i + 1 + j = i + (j + 1) by omega]
theorem LvIs.old {D D' : Nat → Prop} {w w' : World} (ho : Old D w w') (hD : ∀ k, D k → D' k) (l : Lv) : ∀ cs, LvIs D w l cs → LvIs D' w' l cs := by
 induction l using Lv.ind with
 | h k n ks ih =>
  intro cs h
  simp only [LvIs] at h ⊢
  obtain ⟨A, c, h1, h2, h3, h4, h5⟩ := h
  refine ⟨A, c, h1, h2, h3, h4, LvsAt.mk fun j l hj => ?_⟩
  obtain ⟨a, cs, ha, hb, hr, hl⟩ := h5.at_ hj
  exact ⟨a, cs, ha, hD _ hb, hr.old ho (by rw [Addr_add_block]; exact hb), ih l (List.mem_of_getElem? hj) cs hl⟩
theorem LvsAt.old {D D' : Nat → Prop} {w w' : World} (ho : Old D w w') (hD : ∀ k, D k → D' k) {ks : List Lv} {A : Option Addr} {i : Nat} (h : LvsAt D w ks A i) : LvsAt D' w' ks A i :=
 LvsAt.mk fun j l hj => by
  obtain ⟨a, cs, ha, hb, hr, hl⟩ := h.at_ hj
  exact ⟨a, cs, ha, hD _ hb, hr.old ho (by rw [Addr_add_block]; exact hb), hl.old ho hD⟩
theorem TmIs.old {D D' : Nat → Prop} {w w' : World} (ho : Old D w w') (hD : ∀ k, D k → D' k) (t : Tm) : ∀ cs, TmIs D w t cs → TmIs D' w' t cs := by
 induction t using Tm.ind with
 | h k n nm lv ls ks ih =>
  intro cs h
  simp only [TmIs] at h ⊢
  obtain ⟨x, y, z, A, c, A', c', h1, h2, h3, h4, h5, h6, h7, h8, h9⟩ := h
  refine ⟨x, y, z, A, c, A', c', h1, h2, h3, h4, h5.old ho hD, h6, h7.old ho hD, h8, TmsAt.mk fun j l hj => ?_⟩
  obtain ⟨a, cs, ha, hb, hr, hl⟩ := h9.at_ hj
  exact ⟨a, cs, ha, hD _ hb, hr.old ho (by rw [Addr_add_block]; exact hb), ih l (List.mem_of_getElem? hj) cs hl⟩
theorem TmsAt.old {D D' : Nat → Prop} {w w' : World} (ho : Old D w w') (hD : ∀ k, D k → D' k) {ks : List Tm} {A : Option Addr} {i : Nat} (h : TmsAt D w ks A i) : TmsAt D' w' ks A i :=
 TmsAt.mk fun j l hj => by
  obtain ⟨a, cs, ha, hb, hr, hl⟩ := h.at_ hj
  exact ⟨a, cs, ha, hD _ hb, hr.old ho (by rw [Addr_add_block]; exact hb), hl.old ho hD⟩
def Within (D : Nat → Prop) (w : World) : Prop := ∀ k, D k → k < w.heap.size
theorem Within.up {D S : Nat → Prop} {w w' : World} (h : Within D w) (hu : Upd S w w') : Within D w' := fun k hk => Nat.lt_of_lt_of_le (h k hk) hu.size
theorem Within.old {D : Nat → Prop} {w w' : World} (h : Within D w) (hu : Upd nob w w') : Old D w w' := Old.of_upd hu fun k hk => ⟨fun f => f, h k hk⟩
theorem Within.grow {D : Nat → Prop} {w w' : World} (h : Within D w) (hs : w.heap.size ≤ w'.heap.size) : Within (grow D w w') w' := fun k hk => hk.elim (fun a => Nat.lt_of_lt_of_le (h k a) hs) (·.2)
/-! ### Rows of cells anywhere in a block -/
theorem run_loadVar_at {P : Program} (w : World) (p : Addr) (ty : TypeId) (cs : List Value) (d : TypeDesc) (hc : ∀ j v, cs[j]? = some v → w.cell? (p.add j) = some v)
    (hu : P.underlying ty = some d) (hd : d.isRow = true) (hi : (P.info? ty).map (·.size) = some cs.length) :
    (loadVar ty p).run P w = .ok (.agg cs.toArray) w := by
 have hl : (loadCells p cs.length).run P w = .ok cs.toArray w := run_loadCells_list (P := P) w p cs hc
 cases hq : P.info? ty with
 | none => simp [hq] at hi
 | some i =>
  have hs : i.size = cs.length := by simpa [hq] using hi
  have hagg : (isAgg ty).run P w = .ok true w := by
   unfold isAgg
   rw [Sem.run_bind, run_underlying hu w]
   cases d <;> simp_all
  unfold loadVar
  rw [Sem.run_bind, hagg]
  simp only [loadCells] at hl
  simp [go_sem, sizeOf, typeInfo, hq, hs, hl]
theorem run_load_at {P : Program} {o : Oper} {a : Act} {w : World} (ty : TypeId) (x : Operand) (ho : o.op = .load ty x)
    (p : Addr) (hx : a.eval x = .pointer (some p)) (cs : Array Value) (d : TypeDesc) (hg : rowAt w p cs)
    (hu : P.underlying ty = some d) (hd : d.isRow = true) (hi : (P.info? ty).map (·.size) = some cs.size) :
    (execOp a.eval o).run P w = .ok (.value (.agg cs)) w := by
 have := run_loadVar_at (P := P) w p ty cs.toList d (fun j v hv => hg j v (by simpa using hv)) hu hd (by simpa using hi)
 unfold execOp
 simp only [ho, hx, Instr.loadAt, Instr.sureAddr, Sem.run_bind, Sem.run_pure, Result.andThen_ok, this]
theorem wpList_at {P : Program} {ops : Array Oper} {rest : List Oper} {o : Oper} {a : Act} {w : World} {Q : Exit → Act → World → Prop} (hgd : o.guard = none) (ty : TypeId) (x : Operand) (ho : o.op = .load ty x)
    (p : Addr) (hx : a.eval x = .pointer (some p)) (cs : Array Value) (d : TypeDesc) (hg : rowAt w p cs)
    (hu : P.underlying ty = some d) (hd : d.isRow = true) (hi : (P.info? ty).map (·.size) = some cs.size)
    (h : wpList P ops Q rest (a.put o.dst (.agg cs)) w) : wpList P ops Q (o :: rest) a w := by
 refine wpList_plain hgd fun K hK => ?_
 unfold Oper.wp
 rw [run_load_at ty x ho p hx cs d hg hu hd hi]
 exact hK _ _ h
theorem owp_load_at {P : Program} {o : Oper} {a : Act} {w : World} {Q : Exit → Act → World → Prop} {K : Act → World → Prop} (ty : TypeId) (x : Operand) (ho : o.op = .load ty x)
    (p : Addr) (hx : a.eval x = .pointer (some p)) (cs : Array Value) (d : TypeDesc) (hg : rowAt w p cs)
    (hu : P.underlying ty = some d) (hd : d.isRow = true) (hi : (P.info? ty).map (·.size) = some cs.size)
    (h : K (a.put o.dst (.agg cs)) w) : o.wp P a w K Q := by
 unfold Oper.wp
 rw [run_load_at ty x ho p hx cs d hg hu hd hi]
 exact h
theorem Blk.rowAt {w : World} {g : Nat} {t : TypeId} {cs : Array Value} (h : Blk w g t cs) : rowAt w ⟨g, 0, none⟩ cs := fun j v hv => by
 have e : (Addr.add ⟨g, 0, none⟩ j) = ⟨g, j, none⟩ := by unfold Addr.add; split <;> simp_all
 rw [e, h.cell]; exact hv
theorem World_drewN_eq (w : World) (n : Nat) : w.drewN n = { w with drawn := w.drawn + n } := rfl
theorem below_drewN {B : Nat} {a w : World} (h : Below B a w) (n : Nat) : Below B a (w.drewN n) := by rw [World_drewN_eq]; exact ⟨h.os, h.tape, h.output, h.size, h.block⟩
theorem upd_drewN {S : Nat → Prop} {a w : World} (h : Upd S a w) (n : Nat) : Upd S a (w.drewN n) := by rw [World_drewN_eq]; exact ⟨h.os, h.tape, h.output, h.size, h.block⟩
theorem wpList_run {P : Program} {ops : Array Oper} {rest : List Oper} {o : Oper} {a : Act} {w : World} {Q : Exit → Act → World → Prop} (hgd : o.guard = none) (v : Value) (w' : World)
    (hrun : (execOp a.eval o).run P w = .ok (.value v) w') (h : wpList P ops Q rest (a.put o.dst v) w') : wpList P ops Q (o :: rest) a w := by
 refine wpList_plain hgd fun K hK => ?_
 unfold Oper.wp
 rw [hrun]
 exact hK _ _ h
theorem run_index_at {P : Program} {o : Oper} {a : Act} {w : World} (ty : TypeId) (x y : Operand) (ho : o.op = .indexAddr ty x y) (A : Option Addr) (ad : Addr) (n c : Nat)
    (hx : a.eval x = .slice A n c) (hA : A = some ad) (j : Nat) (hy : a.eval y = .int .i64 j) (hj : j < n) (e : TypeId) (hu : P.underlying ty = some (.slice e)) (sz : Nat) (hs : (P.info? e).map (·.size) = some sz) :
    (execOp a.eval o).run P w = .ok (.value (.pointer (some (ad.add (j * sz))))) w := by
 subst hA
 cases hq : P.info? e with
 | none => simp [hq] at hs
 | some i =>
  have hsz : i.size = sz := by simpa [hq] using hs
  unfold execOp
  simp only [ho, hx, hy]
  simp [Instr.indexAt, asIntOf, run_underlying hu, go_sem, sizeOf, typeInfo, hq, hsz, hj]
theorem wpList_index_at {P : Program} {ops : Array Oper} {rest : List Oper} {o : Oper} {a : Act} {w : World} {Q : Exit → Act → World → Prop} (hgd : o.guard = none) (ty : TypeId) (x y : Operand) (ho : o.op = .indexAddr ty x y) (A : Option Addr) (ad : Addr) (n c : Nat)
    (hx : a.eval x = .slice A n c) (hA : A = some ad) (j : Nat) (hy : a.eval y = .int .i64 j) (hj : j < n) (e : TypeId) (hu : P.underlying ty = some (.slice e)) (sz : Nat) (hs : (P.info? e).map (·.size) = some sz)
    (h : wpList P ops Q rest (a.put o.dst (.pointer (some (ad.add (j * sz))))) w) : wpList P ops Q (o :: rest) a w :=
 wpList_run hgd _ _ (run_index_at ty x y ho A ad n c hx hA j hy hj e hu sz hs) h
theorem Within.drew {D : Nat → Prop} {w : World} (h : Within D w) : Within D w.drew := h
theorem LvIs.drew {D : Nat → Prop} {w : World} {l : Lv} {cs : Array Value} (h : LvIs D w l cs) : LvIs D w.drew l cs := LvIs.old (w := w) (w' := w.drew) (fun _ _ => rfl) (fun _ h => h) l cs h
theorem TmIs.drew {D : Nat → Prop} {w : World} {l : Tm} {cs : Array Value} (h : TmIs D w l cs) : TmIs D w.drew l cs := TmIs.old (w := w) (w' := w.drew) (fun _ _ => rfl) (fun _ h => h) l cs h
theorem row_on {W X : World} {p : Addr} {cs : Array Value} (h : rowAt W p cs) (hb : p.block < W.heap.size) (hx : ∀ q : Addr, q.block < W.heap.size → X.cell? q = W.cell? q) : rowAt X p cs :=
 fun j v hv => (hx _ (by rw [Addr_add_block]; exact hb)).trans (h j v hv)
theorem cells_of_upd {W X : World} (h : Upd nob W X) : ∀ q : Addr, q.block < W.heap.size → X.cell? q = W.cell? q := fun q hq => h.cell hq (fun f => f)
theorem this_op {P : Program} {ops : Array Oper} {Q : Exit → Act → World → Prop} {rest : List Oper} {a : Act} {w : World} (x : Op) {d : Option Tmp} {t : TypeId} {p : String} {af : Array Edge} {g : Option (Nat × Bool)}
    (h : wpList P ops Q ({ dst := d, op := x, type := t, pos := p, after := af, guard := g } :: rest) a w) : wpList P ops Q ({ dst := d, op := x, type := t, pos := p, after := af, guard := g } :: rest) a w := h
def here (w : World) : Nat → Prop := fun k => k < w.heap.size
theorem here_old {w w' : World} (h : Upd nob w w') : Old (here w) w w' := fun k hk => h.block k hk (fun f => f)
theorem here_up {S : Nat → Prop} {w w' : World} (h : Upd S w w') : ∀ k, here w k → here w' k := fun _ hk => Nat.lt_of_lt_of_le hk h.size
theorem here_in (w : World) : Within (here w) w := fun _ h => h
theorem this_opIn {P : Program} {F : Fence} {n : Nat} {ops : Array Oper} {Q : Exit → Act → World → Prop} {rest : List Oper} {a : Act} {w : World} (x : Op) {d : Option Tmp} {t : TypeId} {p : String} {af : Array Edge} {g : Option (Nat × Bool)}
    (h : wpListIn F n P ops Q ({ dst := d, op := x, type := t, pos := p, after := af, guard := g } :: rest) a w) : wpListIn F n P ops Q ({ dst := d, op := x, type := t, pos := p, after := af, guard := g } :: rest) a w := h
theorem wpListIn_at {P : Program} {F : Fence} (hF : Wide F) {ops : Array Oper} {rest : List Oper} {o : Oper} {a : Act} {w : World} {Q : Exit → Act → World → Prop} (hgd : o.guard = none) (ty : TypeId) (x : Operand) (ho : o.op = .load ty x)
    (p : Addr) (hx : a.eval x = .pointer (some p)) (cs : Array Value) (d : TypeDesc) (hg : rowAt w p cs)
    (hu : P.underlying ty = some d) (hd : d.isRow = true) (hi : (P.info? ty).map (·.size) = some cs.size)
    (h : wpListIn F 0 P ops Q rest (a.put o.dst (.agg cs)) w) : wpListIn F 0 P ops Q (o :: rest) a w :=
 wpListIn_runTo hF hgd (by intro c; rw [ho]; simp) _ _ (run_load_at ty x ho p hx cs d hg hu hd hi) h
theorem wpListIn_index_at {P : Program} {F : Fence} (hF : Wide F) {ops : Array Oper} {rest : List Oper} {o : Oper} {a : Act} {w : World} {Q : Exit → Act → World → Prop} (hgd : o.guard = none) (ty : TypeId) (x y : Operand) (ho : o.op = .indexAddr ty x y) (A : Option Addr) (ad : Addr) (n c : Nat)
    (hx : a.eval x = .slice A n c) (hA : A = some ad) (j : Nat) (hy : a.eval y = .int .i64 j) (hj : j < n) (e : TypeId) (hu : P.underlying ty = some (.slice e)) (sz : Nat) (hs : (P.info? e).map (·.size) = some sz)
    (h : wpListIn F 0 P ops Q rest (a.put o.dst (.pointer (some (ad.add (j * sz))))) w) : wpListIn F 0 P ops Q (o :: rest) a w :=
 wpListIn_runTo hF hgd (by intro c; rw [ho]; simp) _ _ (run_index_at ty x y ho A ad n c hx hA j hy hj e hu sz hs) h
end Go.Proofs.Ytiampoebdmflgaa
/- level.kids, right, walk, sound. -/
namespace Go.Proofs.Ytiampoebdmflgaa
open Go.RowKit
set_option linter.unusedVariables false
set_option maxRecDepth 100000
set_option maxHeartbeats 4000000
def lar (k : Int) : Int := if k = 1 then 0 else if k = 2 then 0 else if k = 3 then 1 else if k = 4 then 2 else -1
theorem lkids_any (k : Int) (w : World) : Calls Try.prog 125 #[.int .i64 k] w fun e w' => e = .returned (.int .i64 (lar k)) ∧ w' = w := by
 unfold lar
 by_cases h1 : k = 1
 · subst h1
   go_enter Try.func125, Try.ntmps125
   go_wp2
   go_ret
   exact ⟨rfl, rfl⟩
 have e1 : (k == 1) = false := by simpa using h1
 by_cases h2 : k = 2
 · subst h2
   go_enter Try.func125, Try.ntmps125
   go_wp2
   go_ret
   exact ⟨rfl, rfl⟩
 have e2 : (k == 2) = false := by simpa using h2
 by_cases h3 : k = 3
 · subst h3
   go_enter Try.func125, Try.ntmps125
   go_wp2
   go_ret
   exact ⟨rfl, rfl⟩
 have e3 : (k == 3) = false := by simpa using h3
 by_cases h4 : k = 4
 · subst h4
   go_enter Try.func125, Try.ntmps125
   go_wp2
   go_ret
   exact ⟨rfl, rfl⟩
 have e4 : (k == 4) = false := by simpa using h4
 rw [if_neg h1, if_neg h2, if_neg h3, if_neg h4]
 go_enter Try.func125, Try.ntmps125
 go_wp2
 go_ret
 exact ⟨rfl, rfl⟩
def lright (most mostV k n : Int) (m : Nat) : Bool :=
 !((m : Int) != lar k) && (if k = 1 then decide (0 ≤ n) && decide (n ≤ most) else if k = 3 then decide (1 ≤ n) && decide (n ≤ most) else if k = 2 then decide (0 ≤ n) && decide (n ≤ mostV) else true)
theorem lright_any (k n : Int) (m : Nat) (A : Option Addr) (c : Nat) (most mostV : Int) (w : World) :
    Calls Try.prog 104 #[.agg #[.int .i64 k, .int .i64 n, .slice A m c], .int .i64 most, .int .i64 mostV] w fun e w' => e = .returned (.bool (lright most mostV k n m)) ∧ Below w.heap.size w w' := by
 obtain ⟨b, hb⟩ : ∃ b, ((m : Int) != lar k) = b := ⟨_, rfl⟩
 go_enter Try.func104, Try.ntmps104
 go_wp2
 go_quiet ((go_at_call 125; exact Calls.quiet_of_same (lkids_any _ _)))
 cases b with
 | true =>
  go_wp2
  go_ret
  exact ⟨by unfold lright; rw [hb]; rfl, below_drewN ((Below.refl _ _).alloc (Nat.le_refl _) _) _⟩
 | false =>
  go_wp2
  all_goals
   go_ret
   refine ⟨?_, below_drewN ((Below.refl _ _).alloc (Nat.le_refl _) _) _⟩
   unfold lright
   rw [hb]
   simp_all
   try omega
/-! ### level.walk, over whatever visits -/
mutual
def lwalk {σ : Type} (step : σ → Lv → Int → Int × σ) : Lv → Int → σ → Int × σ
 | .mk k n ks, d, s => if (step s (.mk k n ks) d).1 = 0 then lwalks step ks (d + 1) (step s (.mk k n ks) d).2 else step s (.mk k n ks) d
def lwalks {σ : Type} (step : σ → Lv → Int → Int × σ) : List Lv → Int → σ → Int × σ
 | [], _, s => (0, s)
 | l :: ls, d, s => if (lwalk step l d s).1 = 0 then lwalks step ls d (lwalk step l d s).2 else lwalk step l d s
end
mutual
def Lv.height : Lv → Nat
 | .mk _ _ ks => Lv.heights ks + 1
def Lv.heights : List Lv → Nat
 | [] => 0
 | l :: ls => max l.height (Lv.heights ls)
end
theorem Lv.height_mem : ∀ {ks : List Lv} {l : Lv}, l ∈ ks → l.height ≤ Lv.heights ks
 | x :: ks, l, h => by
  simp only [Lv.heights]
  rcases List.mem_cons.1 h with rfl | h
  · omega
  have := Lv.height_mem h; omega
mutual
def Lv.All (G : Lv → Prop) : Lv → Prop
 | .mk k n ks => G (.mk k n ks) ∧ Lv.Alls G ks
def Lv.Alls (G : Lv → Prop) : List Lv → Prop
 | [] => True
 | l :: ls => l.All G ∧ Lv.Alls G ls
end
theorem Lv.Alls.at_ {G : Lv → Prop} : ∀ {ks : List Lv} {j : Nat}, Lv.Alls G ks → ∀ h : j < ks.length, (ks[j]).All G
 | _ :: _, 0, hk, _ => hk.1
 | _ :: _, _ + 1, hk, h => Lv.Alls.at_ hk.2 (by simpa using h)
mutual
theorem Lv.all_true : ∀ l : Lv, l.All fun _ => True
 | .mk _ _ ks => ⟨trivial, Lv.alls_true ks⟩
theorem Lv.alls_true : ∀ ks : List Lv, Lv.Alls (fun _ => True) ks
 | [] => trivial
 | l :: ls => ⟨Lv.all_true l, Lv.alls_true ls⟩
end
structure LVisit (P : Program) (vf : FuncId) (lb : Array Value) (D S : Nat → Prop) {σ : Type} (R : σ → World → Prop) (step : σ → Lv → Int → Int × σ) (G : Lv → Prop) : Prop where
 enter : ∀ args w, (callFunc vf args).run P w = .ok (.enter vf args) w
 keep : ∀ {s W W'}, R s W → Upd nob W W' → R s W'
 ge : ∀ k, D k → ¬ S k
 lt : ∀ s W, R s W → ∀ k, S k → k < W.heap.size
 call : ∀ l cs d s W, G l → LvIs D W l cs → R s W → Within D W → 0 ≤ d → d ≤ 4611686018427387904 → Calls P vf (#[.agg cs, .int .i64 d] ++ lb) W fun e W' =>
  e = .returned (.int .i64 (step s l d).1) ∧ InI (step s l d).1 ∧ R (step s l d).2 W' ∧ Upd S W W'
theorem lv_size : (Try.prog.info? 24).map (·.size) = some 3 := by kernel_rfl
theorem lwalk_any {vf : FuncId} {lb : Array Value} {D S : Nat → Prop} {σ : Type} {R : σ → World → Prop} {step : σ → Lv → Int → Int × σ} {G : Lv → Prop} (V : LVisit Try.prog vf lb D S R step G) (l : Lv) :
    ∀ (_ : l.All G) (cs : Array Value) (d : Int) (s : σ) (w : World), LvIs D w l cs → R s w → Within D w → 0 ≤ d → (d + l.height ≤ 4611686018427387904 ∨ (d ≤ 4611686018427387904 ∧ ∀ s l d, 4611686018427387904 ≤ d → (step s l d).1 ≠ 0)) →
     Calls Try.prog 102 #[.agg cs, .int .i64 d, .func (.func vf) #[] lb] w fun e w' =>
      e = .returned (.int .i64 (lwalk step l d s).1) ∧ R (lwalk step l d s).2 w' ∧ Upd S w w' := by
 induction l using Lv.ind with
 | h k n ks ih =>
  intro hG cs d s w hl hR hB h0 hd
  have hl0 := hl
  have HG := Lib.hid hG
  clear hG
  simp only [LvIs] at hl
  obtain ⟨A, c, rfl, hk, hn, hlen, hks⟩ := hl
  have hdle : d ≤ 4611686018427387904 := by
   rcases hd with h | h
   · omega
   exact h.1
  have he := V.enter
  obtain ⟨⟨re, rs⟩, hX⟩ : ∃ X, lwalk step (.mk k n ks) d s = X := ⟨_, rfl⟩
  rw [hX]
  have HX := Lib.hid hX; clear hX
  go_enter Try.func102, Try.ntmps102
  go_wp2_with fail
  have hu0 : Upd nob w (w.alloc (.cells #[.int .i64 k, .int .i64 n, .slice A ks.length c] 24)) := (Upd.refl _ _).alloc _
  have hb0 := Blk.new w 24 #[.int .i64 k, .int .i64 n, .slice A ks.length c]
  refine (V.call (.mk k n ks) _ d s _ HG.out.1 (hl0.old (hB.old hu0) (fun _ h => h)) (V.keep hR hu0) (hB.up hu0) h0 hdle).mono ?_
  rintro e w1 ⟨rfl, hi1, hR1, hu1⟩
  have hb1 := hb0.upd hu1 (fun h => by have := V.lt _ _ hR _ h; omega)
  have hu01 : Upd S w w1 := (hu0.mono (fun _ f => f.elim)).trans hu1
  have c2 : w1.cell? ⟨w.heap.size, 2, none⟩ = some (.slice A ks.length c) := hb1.cell 2
  have hsl : ∀ k, S k → k < w.heap.size := V.lt _ _ hR
  clear hb0 hu0 hu1
  obtain ⟨⟨e1, s1⟩, hr1⟩ : ∃ y, step s (.mk k n ks) d = y := ⟨_, rfl⟩
  rw [hr1] at hR1 hi1 ⊢
  have HX2 : Hid ((if e1 = 0 then lwalks step ks (d + 1) s1 else (e1, s1)) = (re, rs)) := Lib.hid (by have := HX.out; simp only [lwalk, hr1] at this; exact this)
  clear HX
  by_cases hz : e1 = 0
  case neg =>
   have t1 : (e1 != 0) = true := by simpa using hz
   go_wp2
   go_ret
   have h2 := HX2.out
   rw [if_neg hz] at h2
   injection h2 with h3 h4
   subst h3 h4
   exact ⟨rfl, hR1, hu01⟩
  subst hz
  have hd1 : IntKind.i64.wrap (d + 1) = d + 1 := IntWalk.i64_in _ (by omega)
  have H1 := Lib.hid hb1; have HR1 := Lib.hid hr1; clear hb1 hr1
  go_wp2_with fail
  go_loopw [21] (fun v wr => ∃ j : Nat, j ≤ ks.length ∧ v = .int .i64 j ∧ ∃ sj, R sj wr ∧ Upd S w wr ∧ lwalks step ks (d + 1) s1 = lwalks step (ks.drop j) (d + 1) sj) (fun v _ => ks.length - (intOf v).toNat)
  case atStart => exact ⟨0, Nat.zero_le _, rfl, s1, hR1, hu01, rfl⟩
  case round =>
   obtain ⟨j, hj, rfl, sj, hRj, huj, hsj⟩ := hrel
   have HS := Lib.hid hsj; clear hsj
   rcases Nat.lt_or_ge j ks.length with hlt | hge
   · have t1 : decide ((j : Int) < ks.length) = true := by simp [hlt]
     obtain ⟨a, cs', hA, hab, hrow, hl'⟩ := hks.at_ (List.getElem?_eq_getElem hlt)
     rw [Nat.zero_add] at hrow
     have how : Old D w wr := Old.of_upd huj fun k hk => ⟨V.ge k hk, hB k hk⟩
     have hrow' := hrow.old how (by rw [Addr_add_block]; exact hab)
     have hl2 := hl'.old how (fun _ h => h)
     obtain ⟨⟨k', n', ks'⟩, hlj⟩ : ∃ y, ks[j] = y := ⟨_, rfl⟩
     rw [hlj] at hl2
     have hl3 := hl2
     simp only [LvIs] at hl2
     obtain ⟨A', c', rfl, _, _, _, _⟩ := hl2
     clear hrow hl'
     have HA := Lib.hid hA; clear hA
     go_wp2_with (first
      | (refine wpList_index_at rfl 22 (.tmp 19) (.tmp 21) rfl _ a _ _ rfl HA.out j rfl hlt 24 Try.underlying22 3 lv_size ?_)
      | (refine wpList_at rfl 24 (.tmp 23) rfl (a.add (j * 3)) rfl _ _ hrow' Try.underlying24 rfl lv_size ?_))
     have hua : Upd nob wr (wr.alloc (.cells #[.int .i64 k', .int .i64 n', .slice A' ks'.length c'] 24)) := (Upd.refl _ _).alloc _
     have hmem : ks[j] ∈ ks := List.getElem_mem hlt
     have hhj := Lv.height_mem hmem
     refine (ih ks[j] hmem (HG.out.2.at_ hlt) _ (d + 1) sj _ (by rw [hlj]; exact hl3.old ((hB.up huj).old hua) (fun _ h => h)) (V.keep hRj hua) ((hB.up huj).up hua) (by omega) ?_).mono ?_
     · rcases hd with h | ⟨h, h'⟩
       · left; simp only [Lv.height] at h; omega
       right; exact ⟨by have : ¬ 4611686018427387904 ≤ d := fun hh => h' _ _ _ hh (congrArg Prod.fst HR1.out); omega, h'⟩
     rintro e w2 ⟨rfl, hR2, hu2⟩
     have hd2 : lwalks step (ks.drop j) (d + 1) sj = if (lwalk step ks[j] (d + 1) sj).1 = 0 then lwalks step (ks.drop (j + 1)) (d + 1) (lwalk step ks[j] (d + 1) sj).2 else lwalk step ks[j] (d + 1) sj := by
      rw [List.drop_eq_getElem_cons hlt]; simp only [lwalks]
     have huj2 : Upd S w w2 := huj.trans ((hua.mono (fun _ f => f.elim)).trans hu2)
     obtain ⟨⟨e2, s2⟩, hr2⟩ : ∃ y, lwalk step ks[j] (d + 1) sj = y := ⟨_, rfl⟩
     rw [hr2] at hd2 hR2 ⊢
     have HD2 := Lib.hid hd2; clear hd2 hr2
     by_cases hz2 : e2 = 0
     · subst hz2
       go_wp2_with fail
       case roundEnd =>
        refine ⟨⟨j + 1, by omega, by simp, s2, hR2, huj2, ?_⟩, by simp [intOf]; omega⟩
        rw [HS.out, HD2.out, if_pos trivial]
     have t2 : (e2 != 0) = true := by simpa using hz2
     go_wp2_with fail
     go_ret
     have h2 := HX2.out
     rw [if_pos trivial, HS.out, HD2.out, if_neg hz2] at h2
     injection h2 with h3 h4
     subst h3 h4
     exact ⟨rfl, hR2, huj2⟩
   have t1 : decide ((j : Int) < ks.length) = false := by simp; omega
   go_wp2_with fail
   go_ret
   have h2 := HX2.out
   rw [if_pos trivial, HS.out, List.drop_eq_nil_of_le hge] at h2
   simp only [lwalks] at h2
   injection h2 with h3 h4
   subst h3 h4
   exact ⟨rfl, hRj, huj⟩
end Go.Proofs.Ytiampoebdmflgaa
/- level.sound: the visit, the call. -/
namespace Go.Proofs.Ytiampoebdmflgaa
open Go.RowKit
set_option linter.unusedVariables false
set_option maxRecDepth 100000
set_option maxHeartbeats 4000000
theorem ret_i {k : IntKind} {a b : Int} (h : a = b) : Ending.returned (.int k a) = .returned (.int k b) := by rw [h]
def sndStep (s : Int) (l : Lv) (d : Int) : Int × Int :=
 (if 1000 < wrap64 (s + 1) ∨ 256 < d ∨ lright 1099511627776 1000 l.k l.n l.ks.length = false then 1 else 0, wrap64 (s + 1))
def lsnd (l : Lv) : Bool := (lwalk sndStep l 1 0).1 == 0
theorem snd1_any (l : Lv) (cs : Array Value) (D : Nat → Prop) (d s : Int) (nb : Nat) (w : World) (hl : LvIs D w l cs) (hb : Blk w nb 3 #[.int .i64 s]) :
    Calls Try.prog 103 #[.agg cs, .int .i64 d, .pointer (some ⟨nb, 0, none⟩)] w fun e w' =>
     e = .returned (.int .i64 (sndStep s l d).1) ∧ Blk w' nb 3 #[.int .i64 (sndStep s l d).2] ∧ Upd (fun k => k = nb) w w' := by
 obtain ⟨k, n, ks⟩ := l
 simp only [LvIs] at hl
 obtain ⟨A, c, rfl, _, _, _, _⟩ := hl
 have c0 : w.cell? ⟨nb, 0, none⟩ = some (.int .i64 s) := hb.cell 0
 have f0 := hb.frozen 0
 have hlt := hb.lt
 obtain ⟨R, hR⟩ : ∃ R, lright 1099511627776 1000 k n ks.length = R := ⟨_, rfl⟩
 simp only [sndStep, Lv.k, Lv.n, Lv.ks, hR]
 obtain ⟨r, hr⟩ : ∃ r : Int, (if 1000 < wrap64 (s + 1) ∨ 256 < d ∨ R = false then 1 else 0) = r := ⟨_, rfl⟩
 rw [hr]
 have HR := Lib.hid hr; clear hr
 obtain ⟨W2, hW2⟩ : ∃ W2, (w.setCell ⟨nb, 0, none⟩ (.int .i64 (wrap64 (s + 1)))).alloc (.cells #[.int .i64 k, .int .i64 n, .slice A ks.length c] 24) = W2 := ⟨_, rfl⟩
 have hu2 : Upd (fun k => k = nb) w W2 := by rw [← hW2]; exact ((Upd.refl (fun k => k = nb) w).setCell (p := ⟨nb, 0, none⟩) (.inl rfl) _).alloc _
 have B2 : Hid (Blk W2 nb 3 #[.int .i64 (wrap64 (s + 1))]) := Lib.hid (by rw [← hW2]; exact (hb.set 0 _).alloc _)
 have HW2 := Lib.hid hW2; clear hW2 hb
 cases R with
 | true =>
  go_enter Try.func103, Try.ntmps103
  go_wp2_with ((go_at_call 104; refine (lright_any _ _ _ _ _ _ _ _).mono ?_; rintro e w3 ⟨rfl, hb3⟩; rw [hR]))
  all_goals
   go_ret
   obtain rfl := HW2.out
   refine ⟨ret_i ?_, ?_⟩
   · rw [← HR.out]
     first
      | (refine (if_pos ?_).symm; (first | (simp; done) | (simp; omega)))
      | (refine (if_neg ?_).symm; simp; omega)
   first
     | exact ⟨B2.out, hu2⟩
     | exact ⟨B2.out.below hb3 B2.out.lt, hu2.trans (Upd.of_below hb3)⟩
 | false =>
  go_enter Try.func103, Try.ntmps103
  go_wp2_with ((go_at_call 104; refine (lright_any _ _ _ _ _ _ _ _).mono ?_; rintro e w3 ⟨rfl, hb3⟩; rw [hR]))
  all_goals
   go_ret
   obtain rfl := HW2.out
   refine ⟨ret_i ?_, ?_⟩
   · rw [← HR.out]
     first
      | (refine (if_pos ?_).symm; (first | (simp; done) | (simp; omega)))
      | (refine (if_neg ?_).symm; simp; omega)
   first
     | exact ⟨B2.out, hu2⟩
     | exact ⟨B2.out.below hb3 B2.out.lt, hu2.trans (Upd.of_below hb3)⟩
theorem snd_visit (nb : Nat) (D : Nat → Prop) (hD : ¬ D nb) : LVisit Try.prog 103 #[.pointer (some ⟨nb, 0, none⟩)] D (fun k => k = nb) (fun s w => Blk w nb 3 #[.int .i64 s]) sndStep (fun _ => True) where
 enter := fun _ _ => by go_simp
 keep := fun h hu => h.upd hu (fun f => f)
 ge := fun k hk e => hD (e ▸ hk)
 lt := fun s W h k e => by subst e; exact h.lt
 call := fun l cs d s W _ hl hr hd h0 h1 => (snd1_any l cs D d s nb W hl hr).mono fun e w' ⟨h1, h2, h3⟩ => ⟨h1, by simp only [sndStep]; split <;> (unfold InI; omega), h2, h3⟩
theorem sound_any (l : Lv) (cs : Array Value) (D : Nat → Prop) (w : World) (hD : Within D w) (hl : LvIs D w l cs) :
    Calls Try.prog 78 #[.agg cs] w fun e w' => e = .returned (.bool (lsnd l)) ∧ Below w.heap.size w w' := by
 obtain ⟨⟨re, rs⟩, hX⟩ : ∃ X, lwalk sndStep l 1 0 = X := ⟨_, rfl⟩
 have hls : lsnd l = (re == 0) := by unfold lsnd; rw [hX]
 rw [hls]
 have HL := Lib.hid hls; clear hls
 have HX := Lib.hid hX; clear hX
 obtain ⟨k, n, ks⟩ := l
 have hl0 := Lib.hid hl
 simp only [LvIs] at hl
 obtain ⟨A, c, rfl, _, _, _, _⟩ := hl
 go_enter Try.func78, Try.ntmps78
 go_wp2_with fail
 obtain ⟨W1, hW1⟩ : ∃ W1, (w.alloc (.cells #[.int .i64 k, .int .i64 n, .slice A ks.length c] 24)).alloc (.cells #[.int .i64 0] 3) = W1 := ⟨_, rfl⟩
 have hu1 : Upd nob w W1 := by rw [← hW1]; exact ((Upd.refl _ _).alloc _).alloc _
 have hb1 : Blk W1 (w.heap.size + 1) 3 #[.int .i64 0] := by
  rw [← hW1]
  have := Blk.new (w.alloc (.cells #[.int .i64 k, .int .i64 n, .slice A ks.length c] 24)) 3 #[.int .i64 0]
  rwa [World.size_alloc] at this
 rw [hW1]
 refine (lwalk_any (snd_visit (w.heap.size + 1) D fun h => by have := hD _ h; omega) (.mk k n ks) (Lv.all_true _) _ 1 0 W1 (hl0.out.old (hD.old hu1) (fun _ h => h)) hb1 (hD.up hu1) (by omega) (.inr ⟨by omega, ?_⟩)).mono ?_
 · intro s l d hd
   simp only [sndStep]
   rw [if_pos (.inr (.inl (by omega)))]; decide
 rintro e w2 ⟨rfl, hb2, hu2⟩
 rw [HX.out] at hb2 ⊢
 have hfin : Below w.heap.size w w2 := hu1.below.trans ⟨hu2.os, hu2.tape, hu2.output, hu2.size, fun i hi => hu2.block i (Nat.lt_of_lt_of_le hi hu1.size) (by omega)⟩
 clear hb2 hu2 hu1 hb1 hW1
 go_wp2
 go_ret
 exact ⟨rfl, hfin⟩
end Go.Proofs.Ytiampoebdmflgaa
/- A slice of the call's own that holds rows of cells (structs): append of one. Over any program. -/
namespace Go.Proofs.Ytiampoebdmflgaa
open Go.RowKit
set_option linter.unusedVariables false
theorem owp_store_blk {P : Program} {o : Oper} {a : Act} {w : World} {Q : Exit → Act → World → Prop} {K : Act → World → Prop} (ty : TypeId) (x y : Operand) (ho : o.op = .store ty x y) (hdst : o.dst = none)
    (g : Nat) (cells : Array Value) (hx : a.eval x = .pointer (some ⟨g, 0, none⟩)) (hy : a.eval y = .agg cells)
    (t : TypeId) (old : Array Value) (hg : Blk w g t old) (hi : (P.info? ty).map (·.size) = some cells.size)
    (hold : old.size = cells.size) (h1 : cells.all (·.oneCell') = true) (h : K a (w.setRow g cells)) : o.wp P a w K Q := by
 obtain ⟨r, hr, hc⟩ := run_store_blk (P := P) (w := w) ty x y ho g cells hx hy t old hg hi hold h1
 unfold Oper.wp
 rw [hr]
 rcases hc with rfl | rfl
 · simp only [Oper.upon]; rw [hdst]; exact h
 simp only [Oper.upon]; rw [hdst]; exact h
theorem map_take_succ {α β : Type} (f : α → β) (l : List α) (j : Nat) (h : j < l.length) : (l.take (j + 1)).map f = (l.take j).map f ++ [f l[j]] := by
 rw [List.take_succ_eq_append_getElem h, List.map_append]; rfl
theorem take_map_succ {α β : Type} (f : α → β) (l : List α) (j : Nat) (h : j < l.length) : (l.map f).take (j + 1) = (l.map f).take j ++ [f l[j]] := by
 rw [List.take_succ_eq_append_getElem (by simpa using h)]; simp
def cat (rows : List (Array Value)) : List Value := rows.flatMap (·.toList)
theorem cat_app (a b : List (Array Value)) : cat (a ++ b) = cat a ++ cat b := by simp [cat]
theorem cat_get : ∀ (rows : List (Array Value)) (size : Nat), (∀ r ∈ rows, r.size = size) → ∀ (j : Nat) (h : j < rows.length) (i : Nat) (x : Value), rows[j][i]? = some x → (cat rows)[j * size + i]? = some x
 | [], _, _, j, h, _, _, _ => absurd h (by simp)
 | r :: rows, size, hs, 0, h, i, x, hx => by
  have hx' : r.toList[i]? = some x := by simpa using hx
  have hi := (List.getElem?_eq_some_iff.1 hx').1
  simp only [cat, List.flatMap_cons, Nat.zero_mul, Nat.zero_add]
  rw [List.getElem?_append_left hi]; exact hx'
 | r :: rows, size, hs, j + 1, h, i, x, hx => by
  have h1 := hs r (by simp)
  have h2 := cat_get rows size (fun q hq => hs q (by simp [hq])) j (by simpa using h) i x (by simpa using hx)
  simp only [cat, List.flatMap_cons] at h2 ⊢
  rw [List.getElem?_append_right (by simp [h1, Nat.succ_mul]; omega), ← h2]
  congr 1
  simp [h1, Nat.succ_mul]; omega
structure Rows (w : World) (base : Nat) (e : TypeId) (size : Nat) (v : Value) (rows : List (Array Value)) : Prop where
 own : w.ownsRow base e size v rows.length (cat rows)
 sz : ∀ r ∈ rows, r.size = size
section
variable {w w' : World} {base : Nat} {e : TypeId} {size : Nat} {v : Value} {rows : List (Array Value)}
theorem Rows.nil_ : Rows w base e size (.slice none 0 0) [] := ⟨⟨by simp [cat], .inl ⟨rfl, rfl⟩⟩, fun _ h => by cases h⟩
theorem Rows.old (h : Rows w base e size v rows) (hk : ∀ g, v.ownBlock = some g → w'.heap[g]? = w.heap[g]?) : Rows w' base e size v rows := by
 refine ⟨⟨h.own.1, ?_⟩, h.sz⟩
 rcases h.own.2 with h0 | ⟨g, cap, cur, hv, hb, hh, h1, h2, h3, h4⟩
 · exact .inl h0
 exact .inr ⟨g, cap, cur, hv, hb, (hk g (by rw [hv]; rfl)).trans hh, h1, h2, h3, h4⟩
theorem Rows.lt (h : Rows w base e size v rows) {g : Nat} (hg : v.ownBlock = some g) : base ≤ g ∧ g < w.heap.size := by
 rcases h.own.2 with ⟨rfl, _⟩ | ⟨g', cap, cur, rfl, hb, hh, _⟩
 · simp [Value.ownBlock] at hg
 obtain rfl : g' = g := by simpa [Value.ownBlock] using hg
 exact ⟨hb, (Array.getElem?_eq_some_iff.1 hh).1⟩
theorem Rows.upd {S : Nat → Prop} (h : Rows w base e size v rows) (hu : Upd S w w') (hS : ∀ g, v.ownBlock = some g → ¬ S g) : Rows w' base e size v rows :=
 h.old fun g hg => hu.block g (h.lt hg).2 (hS g hg)
theorem Rows.form (h : Rows w base e size v rows) : ∃ A c, v = .slice A rows.length c ∧ rows.length ≤ c := by
 rcases h.own.2 with ⟨rfl, h0⟩ | ⟨g, cap, cur, rfl, _, _, h1, _⟩
 · exact ⟨none, 0, by rw [h0], by omega⟩
 exact ⟨_, _, rfl, h1⟩
theorem Rows.at_ (h : Rows w base e size v rows) {j : Nat} (hj : j < rows.length) :
    ∃ g cap, v = .slice (some ⟨g, 0, none⟩) rows.length cap ∧ rowAt w (Addr.add ⟨g, 0, none⟩ (j * size)) rows[j] := by
 rcases h.own.2 with ⟨_, h0⟩ | ⟨g, cap, cur, hv, _, hh, hcap, _, hcs, htk⟩
 · omega
 refine ⟨g, cap, hv, fun i x hx => ?_⟩
 have h1 := cat_get rows size h.sz j hj i x hx
 rw [← htk, List.getElem?_take] at h1
 split at h1
 · rw [Addr_add_add]
   have e2 : (Addr.add ⟨g, 0, none⟩ (j * size + i)) = ⟨g, j * size + i, none⟩ := by unfold Addr.add; split <;> simp_all
   rw [e2, cell_of_row w g _ cur e (0, 0) hh]; simpa using h1
 cases h1
end
theorem info_split {P : Program} {t : TypeId} {z : Value} {s b : Nat} (h : (P.info? t).map (fun i => (i.zero, i.size, i.bytes)) = some (some z, s, b)) : ∃ i, P.info? t = some i ∧ i.zero = some z ∧ i.size = s ∧ i.bytes = b := by
 cases hi : P.info? t with
 | none => rw [hi] at h; cases h
 | some i => rw [hi] at h; simp at h; exact ⟨i, rfl, h.1, h.2.1, h.2.2⟩
theorem owp_append1 {P : Program} {o : Oper} {a : Act} {w : World} {K : Act → World → Prop} {Q : Exit → Act → World → Prop} (s x : Operand) (t : TypeId)
    (ho : o.op = .call { callee := .builtin .append, args := #[s, x], argTypes := #[t, t] })
    (base : Nat) (e : TypeId) (z : Value) (size bytes : Nat) (ht : P.underlying t = some (.slice e)) (hi : (P.info? e).map (fun i => (i.zero, i.size, i.bytes)) = some (some z, size, bytes)) (hzs : z.cells.size = size) (hsz : 0 < size)
    (v : Value) (rows : List (Array Value)) (hs : a.eval s = v) (hr : Rows w base e size v rows) (g : Nat) (r : Array Value) (hx : a.eval x = .slice (some ⟨g, 0, none⟩) 1 1) (hg : Blk w g e r) (hrs : r.size = size) (hone : r.all (·.oneCell') = true)
    (hlen : (rows.length + 1) * bytes ≤ 140737488355328) (h63 : rows.length + 1 ≤ 9223372036854775807) (hbase : base ≤ w.heap.size)
    (h : ∀ v' w', Rows w' base e size v' (rows ++ [r]) → Upd (fun k => v.ownBlock = some k) w w' → (v'.ownBlock = v.ownBlock ∨ v'.ownBlock = some w.heap.size) → K (a.put o.dst v') w') : o.wp P a w K Q := by
 obtain ⟨i, h1, h2, h3, h4⟩ := info_split hi
 refine wp_append_at s x t ho base e i z size bytes ht h1 h2 h3 h4 hzs hsz v rows.length (cat rows) hs hr.own ⟨g, 0, none⟩ 1 1 r.toList hx (by simp [hrs]) ?_ ?_ (by simpa [maxLen] using h63) hlen hbase ?_
 · intro j u hu
   exact hg.rowAt j u (by simpa using hu)
 · intro u hu
   have := Array.all_eq_true.1 hone
   obtain ⟨j, hj, e⟩ := Array.getElem_of_mem (Array.mem_toList_iff.1 hu)
   exact e ▸ this j hj
 intro v' w' how hgr hat
 refine h v' w' ⟨?_, ?_⟩ ((Upd.refl _ w).grown hgr fun k hk => .inl hk) hat
 · rw [List.length_append, cat_app]
   simpa [cat] using how
 intro q hq
 rcases List.mem_append.1 hq with hq | hq
 · exact hr.sz q hq
 rw [List.mem_singleton.1 hq]; exact hrs
theorem owp_build1 {P : Program} {o : Oper} {a : Act} {w : World} {K : Act → World → Prop} {Q : Exit → Act → World → Prop} (t e : TypeId) (x : Operand) (ho : o.op = .buildSlice t 1 #[(0, x)]) (z : Value) (size bytes : Nat)
    (ht : P.underlying t = some (.slice e)) (hi : (P.info? e).map (fun i => (i.zero, i.size, i.bytes)) = some (some z, size, bytes)) (hsz : 0 < size) (hsz2 : size ≤ 1000) (r : Array Value) (hx : a.eval x = .agg r) (hrs : r.size = size)
    (h : K (a.put o.dst (.slice (some ⟨w.heap.size, 0, none⟩) 1 1)) (w.alloc (.cells r e))) : o.wp P a w K Q := by
 obtain ⟨i, h1, h2, h3, h4⟩ := info_split hi
 refine wp_buildSlice t e 1 #[(0, x)] ho r i z ht h1 h2 (by rw [h3]; omega) (by rw [h3]; omega) ?_ h
 rw [h3]
 refine Eq.trans (congrArg (Instr.fill _ _) (a₂ := [(0, .agg r)]) ?_) (fill_one (n := size) ?_ hrs)
 · simp [hx]
 rw [Array.size_map, Array.size_range]; omega
theorem wpList_build1 {P : Program} {ops : Array Oper} {rest : List Oper} {o : Oper} {a : Act} {w : World} {Q : Exit → Act → World → Prop} (hgd : o.guard = none) (t e : TypeId) (x : Operand) (ho : o.op = .buildSlice t 1 #[(0, x)]) (z : Value) (size bytes : Nat)
    (ht : P.underlying t = some (.slice e)) (hi : (P.info? e).map (fun i => (i.zero, i.size, i.bytes)) = some (some z, size, bytes)) (hsz : 0 < size) (hsz2 : size ≤ 1000) (r : Array Value) (hx : a.eval x = .agg r) (hrs : r.size = size)
    (h : wpList P ops Q rest (a.put o.dst (.slice (some ⟨w.heap.size, 0, none⟩) 1 1)) (w.alloc (.cells r e))) : wpList P ops Q (o :: rest) a w :=
 wpList_plain hgd fun K hK => owp_build1 t e x ho z size bytes ht hi hsz hsz2 r hx hrs (hK _ _ h)
theorem LvIs.oneCell {D : Nat → Prop} {w : World} : ∀ {l : Lv} {cs : Array Value}, LvIs D w l cs → cs.size = 3 ∧ cs.all (·.oneCell') = true
 | .mk _ _ _, cs, h => by
  simp only [LvIs] at h
  obtain ⟨A, c, rfl, _⟩ := h
  exact ⟨rfl, by simp [Value.oneCell']⟩
theorem TmIs.oneCell {D : Nat → Prop} {w : World} : ∀ {l : Tm} {cs : Array Value}, TmIs D w l cs → cs.size = 8 ∧ cs.all (·.oneCell') = true
 | .mk _ _ _ lv _ _, cs, h => by
  simp only [TmIs] at h
  obtain ⟨x, y, z, A, c, A', c', rfl, _, _, _, h2, _⟩ := h
  have := h2.oneCell.2
  refine ⟨rfl, ?_⟩
  simp [Value.oneCell'] at this ⊢
  exact this
structure Reading (α : Type) (n : Nat) where
 is : (Nat → Prop) → World → α → Array Value → Prop
 old : ∀ {D D' : Nat → Prop} {w w' : World} {l : α} {cs : Array Value}, Old D w w' → (∀ k, D k → D' k) → is D w l cs → is D' w' l cs
 cells : ∀ {D : Nat → Prop} {w : World} {l : α} {cs : Array Value}, is D w l cs → cs.size = n ∧ cs.all (·.oneCell') = true
def lvR : Reading Lv 3 := ⟨LvIs, fun ho hD h => h.old ho hD, fun h => h.oneCell⟩
def tmR : Reading Tm 8 := ⟨TmIs, fun ho hD h => h.old ho hD, fun h => h.oneCell⟩
variable {α : Type} {n : Nat}
def RRows (R : Reading α n) (D : Nat → Prop) (w : World) (ls : List α) (rows : List (Array Value)) : Prop := rows.length = ls.length ∧ ∀ (i : Nat) l r, ls[i]? = some l → rows[i]? = some r → R.is D w l r
theorem RRows.nil_ {R : Reading α n} {D : Nat → Prop} {w : World} : RRows R D w [] [] := ⟨rfl, fun _ _ _ h => by simp at h⟩
theorem RRows.old {R : Reading α n} {D D' : Nat → Prop} {w w' : World} {ls : List α} {rows : List (Array Value)} (h : RRows R D w ls rows) (ho : Old D w w') (hD : ∀ k, D k → D' k) : RRows R D' w' ls rows := ⟨h.1, fun i l r a b => R.old ho hD (h.2 i l r a b)⟩
theorem RRows.push {R : Reading α n} {D : Nat → Prop} {w : World} {ls : List α} {rows : List (Array Value)} {l : α} {r : Array Value} (h : RRows R D w ls rows) (hl : R.is D w l r) : RRows R D w (ls ++ [l]) (rows ++ [r]) := by
 refine ⟨by simp [h.1], fun i l' r' a b => ?_⟩
 rcases Nat.lt_or_ge i ls.length with hi | hi
 · rw [List.getElem?_append_left hi] at a
   rw [List.getElem?_append_left (by rw [h.1]; exact hi)] at b
   exact h.2 i l' r' a b
 rw [List.getElem?_append_right hi] at a
 rw [List.getElem?_append_right (by rw [h.1]; exact hi)] at b
 have h0 : i - ls.length = 0 := by
  have := (List.getElem?_eq_some_iff.1 a).1
  simp at this; omega
 rw [h0] at a
 rw [h.1, h0] at b
 simp at a b
 subst a b; exact hl
def cd (E : Nat → Prop) (base : Nat) (w : World) (v : Value) : Nat → Prop := fun x => (E x ∨ (base ≤ x ∧ x < w.heap.size)) ∧ v.ownBlock ≠ some x
structure Coll (R : Reading α n) (E : Nat → Prop) (base : Nat) (e : TypeId) (w : World) (v : Value) (ls : List α) : Prop where
 rows : ∃ rows, Rows w base e n v rows ∧ RRows R (cd E base w v) w ls rows
section
variable {R : Reading α n} {E : Nat → Prop} {base : Nat} {e : TypeId} {w w' : World} {v : Value} {ls : List α}
theorem Coll.nil_ : Coll R E base e w (.slice none 0 0) [] := ⟨[], Rows.nil_, RRows.nil_⟩
theorem Coll.form (h : Coll R E base e w v ls) : ∃ A c, v = .slice A ls.length c ∧ ls.length ≤ c := by
 obtain ⟨rows, hr, hl⟩ := h.rows
 obtain ⟨A, c, hv, hc⟩ := hr.form
 exact ⟨A, c, by rw [hv, hl.1], by rw [← hl.1]; exact hc⟩
theorem Coll.lt (h : Coll R E base e w v ls) {g : Nat} (hg : v.ownBlock = some g) : base ≤ g ∧ g < w.heap.size := by
 obtain ⟨rows, hr, hl⟩ := h.rows
 exact hr.lt hg
theorem Coll.upd {S : Nat → Prop} (h : Coll R E base e w v ls) (hu : Upd S w w') (hS : ∀ k, S k → k < base ∧ ¬ E k) (hE : ∀ k, E k → k < w.heap.size) : Coll R E base e w' v ls := by
 obtain ⟨rows, hr, hl⟩ := h.rows
 refine ⟨rows, hr.upd hu (fun g hg hs => by have := (hr.lt hg).1; have := (hS g hs).1; omega), hl.old ?_ ?_⟩
 · intro k hk
   refine hu.block k ?_ (fun hs => ?_)
   · rcases hk.1 with h1 | h1
     · exact hE k h1
     exact h1.2
   rcases hk.1 with h1 | h1
   · exact (hS k hs).2 h1
   have := (hS k hs).1; omega
 intro k hk
 exact ⟨hk.1.imp id (fun h => ⟨h.1, Nat.lt_of_lt_of_le h.2 hu.size⟩), hk.2⟩
theorem Coll.drew (h : Coll R E base e w v ls) (hE : ∀ k, E k → k < w.heap.size) : Coll R E base e w.drew v ls := h.upd ((Upd.refl nob w).drew) (fun _ f => f.elim) hE
theorem Coll.push {g : Nat} {r : Array Value} {l : α} {v' : Value} {Dl : Nat → Prop} {rows : List (Array Value)} (hr : Rows w base e n v rows) (hrr : RRows R (cd E base w v) w ls rows) (hE : ∀ k, E k → k < base)
    (hl : R.is Dl w l r) (hDl : ∀ x, Dl x → cd E base w v x) (hr' : Rows w' base e n v' (rows ++ [r])) (hu : Upd (fun k => v.ownBlock = some k) w w') (hat : v'.ownBlock = v.ownBlock ∨ v'.ownBlock = some w.heap.size) (hb : base ≤ w.heap.size) :
    Coll R E base e w' v' (ls ++ [l]) := by
 have ho : Old (cd E base w v) w w' := fun k hk => hu.block k (hk.1.elim (fun h1 => Nat.lt_of_lt_of_le (hE k h1) hb) (fun h1 => h1.2)) hk.2
 have hd : ∀ k, cd E base w v k → cd E base w' v' k := fun k hk => by
  refine ⟨hk.1.imp id (fun h => ⟨h.1, Nat.lt_of_lt_of_le h.2 hu.size⟩), ?_⟩
  rcases hat with h1 | h1
  · rw [h1]; exact hk.2
  rw [h1]; intro h2
  have h2 : w.heap.size = k := by simpa using h2
  rcases hk.1 with h3 | h3
  · have := hE k h3; omega
  omega
 exact ⟨rows ++ [r], hr', (hrr.old ho hd).push (R.old (ho.mono hDl) (fun k hk => hd k (hDl k hk)) hl)⟩
theorem owp_collect {P : Program} {o : Oper} {a : Act} {K : Act → World → Prop} {Q : Exit → Act → World → Prop} (s x : Operand) (t : TypeId)
    (ho : o.op = .call { callee := .builtin .append, args := #[s, x], argTypes := #[t, t] }) (z : Value) (bytes : Nat) (ht : P.underlying t = some (.slice e)) (hi : (P.info? e).map (fun i => (i.zero, i.size, i.bytes)) = some (some z, n, bytes)) (hzs : z.cells.size = n) (hsz : 0 < n)
    (hs : a.eval s = v) (hc : Coll R E base e w v ls) (hE : ∀ k, E k → k < base) (g : Nat) (r : Array Value) (hx : a.eval x = .slice (some ⟨g, 0, none⟩) 1 1) (hg : Blk w g e r) (l : α) (Dl : Nat → Prop) (hl : R.is Dl w l r) (hDl : ∀ x, Dl x → cd E base w v x)
    (N : Nat) (hN : ls.length = N) (hlen : (N + 1) * bytes ≤ 140737488355328) (h63 : N + 1 ≤ 9223372036854775807) (hb : base ≤ w.heap.size)
    (h : ∀ A c w', Coll R E base e w' (.slice A (N + 1) c) (ls ++ [l]) → Upd (fun k => v.ownBlock = some k) w w' → ((Value.slice A (N + 1) c).ownBlock = v.ownBlock ∨ (Value.slice A (N + 1) c).ownBlock = some w.heap.size) → K (a.put o.dst (.slice A (N + 1) c)) w') : o.wp P a w K Q := by
 subst hN
 obtain ⟨rows, hr, hrr⟩ := hc.rows
 refine owp_append1 s x t ho base e z n bytes ht hi hzs hsz v rows hs hr g r hx hg (R.cells hl).1 (R.cells hl).2 (by rw [hrr.1]; exact hlen) (by rw [hrr.1]; exact h63) hb ?_
 intro v' w' hr' hu hat
 have hc' := Coll.push (g := g) hr hrr hE hl hDl hr' hu hat hb
 obtain ⟨A, c, hv, _⟩ := hc'.form
 rw [List.length_append, List.length_singleton] at hv
 subst hv
 exact h A c w' hc' hu hat
theorem wpList_collect {P : Program} {ops : Array Oper} {rest : List Oper} {o : Oper} {a : Act} {Q : Exit → Act → World → Prop} (hgd : o.guard = none) (s x : Operand) (t : TypeId)
    (ho : o.op = .call { callee := .builtin .append, args := #[s, x], argTypes := #[t, t] }) (z : Value) (bytes : Nat) (ht : P.underlying t = some (.slice e)) (hi : (P.info? e).map (fun i => (i.zero, i.size, i.bytes)) = some (some z, n, bytes)) (hzs : z.cells.size = n) (hsz : 0 < n)
    (hs : a.eval s = v) (hc : Coll R E base e w v ls) (hE : ∀ k, E k → k < base) (g : Nat) (r : Array Value) (hx : a.eval x = .slice (some ⟨g, 0, none⟩) 1 1) (hg : Blk w g e r) (l : α) (Dl : Nat → Prop) (hl : R.is Dl w l r) (hDl : ∀ x, Dl x → cd E base w v x)
    (N : Nat) (hN : ls.length = N) (hlen : (N + 1) * bytes ≤ 140737488355328) (h63 : N + 1 ≤ 9223372036854775807) (hb : base ≤ w.heap.size)
    (h : ∀ A c w', Coll R E base e w' (.slice A (N + 1) c) (ls ++ [l]) → Upd (fun k => v.ownBlock = some k) w w' → ((Value.slice A (N + 1) c).ownBlock = v.ownBlock ∨ (Value.slice A (N + 1) c).ownBlock = some w.heap.size) → wpList P ops Q rest (a.put o.dst (.slice A (N + 1) c)) w') : wpList P ops Q (o :: rest) a w :=
 wpList_plain hgd fun _ hK => owp_collect s x t ho z bytes ht hi hzs hsz hs hc hE g r hx hg l Dl hl hDl N hN hlen h63 hb fun A c w' h1 h2 h3 => hK _ _ (h A c w' h1 h2 h3)
end
theorem Coll.lvs {E D : Nat → Prop} {base : Nat} {e : TypeId} {w : World} {v : Value} {ls : List Lv} (h : Coll lvR E base e w v ls) (hD : ∀ x, E x ∨ (base ≤ x ∧ x < w.heap.size) → D x) : ∃ A c, v = .slice A ls.length c ∧ ls.length ≤ c ∧ LvsAt D w ls A 0 := by
 obtain ⟨rows, hr, hrr⟩ := h.rows
 obtain ⟨A, c, hv, hcp⟩ := hr.form
 refine ⟨A, c, by rw [hv, ← hrr.1], by rw [← hrr.1]; exact hcp, LvsAt.mk fun j l hj => ?_⟩
 have hjl : j < rows.length := by have := (List.getElem?_eq_some_iff.1 hj).1; rw [hrr.1]; exact this
 obtain ⟨g, cap, hv2, hrow⟩ := hr.at_ hjl
 have hA : A = some ⟨g, 0, none⟩ := by rw [hv] at hv2; injection hv2
 have hlt := hr.lt (g := g) (by rw [hv2]; rfl)
 exact ⟨⟨g, 0, none⟩, rows[j], hA, hD _ (.inr hlt), by rw [Nat.zero_add]; exact hrow, lvR.old (Old.refl _ _) (fun k hk => hD k hk.1) (hrr.2 j l rows[j] hj (List.getElem?_eq_getElem hjl))⟩
theorem Coll.tms {E D : Nat → Prop} {base : Nat} {e : TypeId} {w : World} {v : Value} {ls : List Tm} (h : Coll tmR E base e w v ls) (hD : ∀ x, E x ∨ (base ≤ x ∧ x < w.heap.size) → D x) : ∃ A c, v = .slice A ls.length c ∧ ls.length ≤ c ∧ TmsAt D w ls A 0 := by
 obtain ⟨rows, hr, hrr⟩ := h.rows
 obtain ⟨A, c, hv, hcp⟩ := hr.form
 refine ⟨A, c, by rw [hv, ← hrr.1], by rw [← hrr.1]; exact hcp, TmsAt.mk fun j l hj => ?_⟩
 have hjl : j < rows.length := by have := (List.getElem?_eq_some_iff.1 hj).1; rw [hrr.1]; exact this
 obtain ⟨g, cap, hv2, hrow⟩ := hr.at_ hjl
 have hA : A = some ⟨g, 0, none⟩ := by rw [hv] at hv2; injection hv2
 have hlt := hr.lt (g := g) (by rw [hv2]; rfl)
 exact ⟨⟨g, 0, none⟩, rows[j], hA, hD _ (.inr hlt), by rw [Nat.zero_add]; exact hrow, tmR.old (Old.refl _ _) (fun k hk => hD k hk.1) (hrr.2 j l rows[j] hj (List.getElem?_eq_getElem hjl))⟩
end Go.Proofs.Ytiampoebdmflgaa
/- A region that draws its order, within a round of a range over a function: it may be shown as outside. -/
namespace Go.Proofs.Ytiampoebdmflgaa
open Go.RowKit
set_option linter.unusedVariables false
variable {P : Program} {ops : Array Oper} {Q : Exit → Act → World → Prop} {md : Region.Mode} {ro : Option Nat}
theorem rows_in {row : String} {args : Array Value} {w : World} {R : Value → World → Prop} (h : _root_.Go.Rows P row args w R) : RowsIn { Fence.wide with round := ro } 0 P row args w R :=
 fun c cs _ => let ⟨v, w', r, s⟩ := h c cs; ⟨v, w', r, stepsIn_wide.2 s⟩
theorem wpIn_of_wp_op {o : Oper} {a : Act} {w : World} {K : Act → World → Prop} (hQ : ∀ a w, ¬ Q .outgrown a w) (hd : ∀ c, o.op ≠ .defer c) (h : o.wp P a w K Q ∨ (o.asks P a w ∧ LetsOut Q)) :
    o.wpIn { Fence.wide with round := ro } 0 P a w K Q := by
 rcases h with h | ⟨_, a', w', hq⟩
 case inr => exact (hQ _ _ hq).elim
 refine ⟨fun _ _ => trivial, ?_⟩
 have e : o.semAt ({ Fence.wide with round := ro } : Fence).round a.eval = execOp a.eval o := by
  cases ro with
  | none => rfl
  | some l => exact Oper.semAt_some l _ _ hd
 rw [e]
 unfold Oper.wp at h
 generalize (execOp a.eval o).run P w = r at *
 cases r with
 | ok n w' =>
  cases n <;> simp only [Oper.upon, Oper.uponIn] at h ⊢ <;>
   first
    | exact h
    | exact ⟨fun h => by simp [Fence.wide] at h, callsIn_wide.2 h⟩
    | exact ⟨fun h => by simp [Fence.wide] at h, rows_in h⟩
 | halt x w' => cases x <;> simp only [Oper.upon, Oper.uponIn] at h ⊢ <;> exact h
theorem wpOpIn_of {i : Nat} {K K' : Act → World → Prop} {a : Act} {w : World} (hQ : ∀ a w, ¬ Q .outgrown a w) (hd : ∀ (j : Nat) (o : Oper) (c : Call), ops[j]? = some o → o.op ≠ .defer c) (hK : ∀ a w, K a w → K' a w) (h : wpOp P ops Q i K a w) :
    wpOpIn { Fence.wide with round := ro } 0 P ops Q i K' a w := by
 unfold wpOp at h
 unfold wpOpIn
 split
 · rename_i hn
   simp only [hn] at h
   exact hK _ _ h
 rename_i o ho
 simp only [ho] at h
 split
 · rename_i hw
   simp only [hw, if_true] at h
   exact Oper.wpIn_mono hK (wpIn_of_wp_op hQ (fun c => hd i o c ho) h)
 rename_i hw
 simp only [hw] at h
 exact ⟨fun _ _ => trivial, hK _ _ h⟩
theorem wpAnyIn_of (hQ : ∀ a w, ¬ Q .outgrown a w) (hd : ∀ (j : Nat) (o : Oper) (c : Call), ops[j]? = some o → o.op ≠ .defer c) : ∀ (fuel : Nat) (listed : Array Bool) (a : Act) (w : World), wpAny P md ops Q fuel listed a w →
    wpAnyIn { Fence.wide with round := ro } 0 P md ops Q fuel listed a w
 | 0, _, _, _, h => h
 | fuel + 1, _, _, _, h => ⟨h.1, fun i hi => wpOpIn_of hQ hd (fun a w h => wpAnyIn_of hQ hd fuel _ a w h) (h.2 i hi)⟩
def noDefer (ops : Array Oper) : Bool := ops.all fun o => match o.op with | .defer _ => false | _ => true
theorem noDefer_spec (h : noDefer ops = true) (j : Nat) (o : Oper) (c : Call) (ho : ops[j]? = some o) : o.op ≠ .defer c := by
 intro e
 obtain ⟨hj, hv⟩ := Array.getElem?_eq_some_iff.1 ho
 have := (Array.all_eq_true.1 h) j hj
 rw [hv] at this
 simp [e] at this
end Go.Proofs.Ytiampoebdmflgaa
/- A region that draws its order, in phases: what holds on the way is asked for until operation z is carried out; what is taken first need only be awaited by z through others. -/
namespace Go.Proofs.Ytiampoebdmflgaa
open Go.RowKit
set_option linter.unusedVariables false
variable {P : Program} {ops : Array Oper} {Q : Exit → Act → World → Prop} {md : Region.Mode}
def Closed (md : Region.Mode) (ops : Array Oper) (listed : Array Bool) : Prop :=
 ∀ k o, ops[k]? = some o → listed.getD k false = true → ∀ e ∈ o.after, Region.binds md e = true → listed.getD e.on false = true
def closedB (md : Region.Mode) (ops : Array Oper) (listed : Array Bool) : Bool :=
 (List.range ops.size).all fun k => match ops[k]? with | some o => !listed.getD k false || o.after.all fun e => !Region.binds md e || listed.getD e.on false | none => true
theorem closed_of {listed : Array Bool} (h : closedB md ops listed = true) : Closed md ops listed := by
 intro k o ho hk e he hb
 have hlt := (Array.getElem?_eq_some_iff.1 ho).1
 have := (List.all_eq_true.1 h) k (by simpa using hlt)
 rw [ho] at this
 simp only [hk, Bool.not_true, Bool.false_or] at this
 obtain ⟨n, hn, hne⟩ := Array.getElem_of_mem he
 have := (Array.all_eq_true.1 this) n hn
 rw [hne] at this
 simpa [hb] using this
def pathB (md : Region.Mode) (ops : Array Oper) : Nat → List Nat → Nat → Bool
 | z, [], i => Region.waitsFor md ops z i
 | z, k :: l, i => Region.waitsFor md ops z k && pathB md ops k l i
theorem path_listed {listed : Array Bool} (hc : Closed md ops listed) {i : Nat} : ∀ (l : List Nat) (z : Nat), pathB md ops z l i = true → (∀ o, ops[z]? = some o → ∀ e ∈ o.after, Region.binds md e = true → listed.getD e.on false = true) → listed.getD i false = true
 | [], z, h, ha => by
  obtain ⟨oz, hoz, e, he, hb, heq⟩ := Region.waitsFor_spec h
  rw [← heq]; exact ha oz hoz e he hb
 | k :: l, z, h, ha => by
  simp only [pathB, Bool.and_eq_true] at h
  obtain ⟨oz, hoz, e, he, hb, heq⟩ := Region.waitsFor_spec h.1
  have hk : listed.getD k false = true := by rw [← heq]; exact ha oz hoz e he hb
  exact path_listed hc l k h.2 (fun o ho => hc k o ho hk)
theorem getD_false_true {listed : Array Bool} {i : Nat} (h1 : listed.getD i true = false) (h2 : listed.getD i false = true) : False := by
 rcases Nat.lt_or_ge i listed.size with h | h
 · simp [h] at h1 h2; rw [h1] at h2; cases h2
 simp [Array.getElem?_eq_none h] at h2
theorem closed_set {listed : Array Bool} (hc : Closed md ops listed) {j : Nat} (hj : j ∈ Region.ready md ops listed) : Closed md ops (listed.setIfInBounds j true) := by
 obtain ⟨hun, oj, hoj, hall⟩ := mem_ready.1 hj
 have up : ∀ k, listed.getD k false = true → (listed.setIfInBounds j true).getD k false = true := by
  intro k hk
  by_cases h : j = k
  · subst h; exact (getD_false_true hun hk).elim
  rw [getD_set_ne false h]; exact hk
 intro k o ho hk e he hb
 by_cases h : j = k
 · subst h
   rw [hoj] at ho
   cases ho
   exact up _ (hall e he hb)
 rw [getD_set_ne false h] at hk
 exact up _ (hc k o ho hk e he hb)
def wpAnyE (P : Program) (md : Region.Mode) (ops : Array Oper) (Q : Exit → Act → World → Prop) (S : World → Prop) (z : Nat) : Nat → Array Bool → Act → World → Prop
 | 0, listed, a, w => Region.ready md ops listed = [] ∧ Q .normal a w
 | fuel + 1, listed, a, w =>
  (Region.ready md ops listed = [] → Q .normal a w) ∧
  ∀ i ∈ Region.ready md ops listed, wpOp P ops Q i (fun a' w' => (i ≠ z → S w' ∧ wpAnyE P md ops Q S z fuel (listed.setIfInBounds i true) a' w') ∧ (i = z → wpAny P md ops Q fuel (listed.setIfInBounds i true) a' w')) a w
theorem wpAny_of_E (S : World → Prop) (z : Nat) : ∀ (fuel : Nat) (listed : Array Bool) (a : Act) (w : World), wpAnyE P md ops Q S z fuel listed a w → wpAny P md ops Q fuel listed a w
 | 0, _, _, _, h => h
 | fuel + 1, _, _, _, h => ⟨h.1, fun i hi => wpOp_mono (fun a' w' h' => by
     by_cases hz : i = z
     · exact h'.2 hz
     exact wpAny_of_E S z fuel _ a' w' (h'.1 hz).2) (h.2 i hi)⟩
theorem wpAnyE_first {S : World → Prop} {z i : Nat} {oi : Oper} {v : Value} (hi : ops[i]? = some oi) (hiz : i ≠ z) (l : List Nat) (hz : pathB md ops z l i = true) (hsel : ∀ (j : Nat) (o : Oper) cs b, ops[j]? = some o → o.op ≠ .select cs b)
    (hQ : ∀ c a w, Q (.panic c) (a.put oi.dst v) w → Q (.panic c) a w) :
    ∀ (fuel : Nat) (listed : Array Bool) (a : Act) (w : World), Closed md ops listed →
     (∀ j oj, ops[j]? = some oj → j ≠ i → listed.getD j true = false → (∀ e ∈ oj.after, Region.binds md e = true → e.on ≠ i) → oi.apart ops oj = true) →
     i ∈ Region.ready md ops listed → YieldsIf P ops S oi v a → S w →
     wpAnyE P md ops Q S z fuel (listed.setIfInBounds i true) (a.put oi.dst v) w → wpAnyE P md ops Q S z (fuel + 1) listed a w := by
 intro fuel
 induction fuel with
 | zero =>
  intro listed a w _ _ hr hy hS H
  refine ⟨fun h => (by rw [h] at hr; cases hr), fun j hj => ?_⟩
  by_cases hji : j = i
  · subst hji; exact hy.wpOp hi hS ⟨fun _ => ⟨hS, H⟩, fun h => absurd h hiz⟩
  have := ready_mono hj hji
  rw [H.1] at this
  cases this
 | succ fuel ih =>
  intro listed a w hcl hfree hr hy hS H
  refine ⟨fun h => (by rw [h] at hr; cases hr), fun j hj => ?_⟩
  by_cases hji : j = i
  · subst hji; exact hy.wpOp hi hS ⟨fun _ => ⟨hS, H⟩, fun h => absurd h hiz⟩
  have h1 := H.2 j (ready_mono hj hji)
  obtain ⟨hjun, oj, hoj, hall⟩ := mem_ready.1 hj
  have hnot : ∀ e ∈ oj.after, Region.binds md e = true → e.on ≠ i := fun e he hb heq => by
   have h1 := hall e he hb
   rw [heq] at h1
   exact getD_false_true (mem_ready.1 hr).1 h1
  have hjz : j ≠ z := by
   rintro rfl
   refine getD_false_true (mem_ready.1 hr).1 (path_listed hcl l j hz fun o ho => ?_)
   rw [hoj] at ho
   cases ho
   exact hall
  have h2 := wpOp_putIf hoj (hfree j oj hoj hji hjun hnot) (fun cs b => hsel i oi cs b hi) (fun cs b => hsel j oj cs b hoj) hQ hy h1
  have hfree' : ∀ k ok, ops[k]? = some ok → k ≠ i → (listed.setIfInBounds j true).getD k true = false →
      (∀ e ∈ ok.after, Region.binds md e = true → e.on ≠ i) → oi.apart ops ok = true := fun k ok hk hki hun hno => by
   refine hfree k ok hk hki ?_ hno
   by_cases hjk : j = k
   · subst hjk; exact hjun
   rw [getD_set_ne true hjk] at hun; exact hun
  refine wpOp_mono (fun a' w' h3 => ⟨fun _ => ⟨(h3.2.1 hjz).1, ih (listed.setIfInBounds j true) a' w' (closed_set hcl hj) hfree' (ready_mono hr (Ne.symm hji)) h3.1 (h3.2.1 hjz).1 ?_⟩, fun h => absurd h hjz⟩) h2
  rw [Array.setIfInBounds_comm _ _ hji]
  exact (h3.2.1 hjz).2
def takes (md : Region.Mode) (ops : Array Oper) (listed : Array Bool) (z i : Nat) (l : List Nat) : Bool :=
 !(i == z) && pathB md ops z l i && Region.noSelect ops && Region.free md ops listed i && (Region.ready md ops listed).contains i && closedB md ops listed
theorem wpAnyE_take {S : World → Prop} {z i : Nat} {oi : Oper} {v : Value} {fuel : Nat} {listed : Array Bool} {a : Act} {w : World} (l : List Nat) (hi : ops[i]? = some oi) (ht : takes md ops listed z i l = true)
    (hQ : ∀ c a w, Q (.panic c) (a.put oi.dst v) w → Q (.panic c) a w) (hy : YieldsIf P ops S oi v a) (hS : S w)
    (h : wpAnyE P md ops Q S z fuel (listed.setIfInBounds i true) (a.put oi.dst v) w) : wpAnyE P md ops Q S z (fuel + 1) listed a w := by
 simp only [takes, Bool.and_eq_true] at ht
 obtain ⟨⟨⟨⟨⟨h1, h2⟩, h3⟩, h4⟩, h5⟩, h6⟩ := ht
 exact wpAnyE_first hi (by simpa using h1) l h2 (Region.noSelect_spec h3) hQ fuel listed a w (closed_of h6) (Region.free_spec hi h4) (by simpa using h5) hy hS h
theorem eT {S : World → Prop} {z : Nat} (i : Nat) {oi : Oper} (v : Value) {fuel : Nat} {listed : Array Bool} {a : Act} {w : World} (l : List Nat) (hi : ops[i]? = some oi) (ht : takes md ops listed z i l = true) (hg : Region.wanted oi (yielded ops a.tmps) = true) (hr : ∀ X, S X → (execOp a.eval oi).run P X = .ok (.value v) X) (hS : S w)
 (h : wpAnyE P md ops (NoPanic Q) S z fuel (listed.setIfInBounds i true) (a.put oi.dst v) w) : wpAnyE P md ops (NoPanic Q) S z (fuel + 1) listed a w := wpAnyE_take l hi ht (fun _ _ _ h => h) (.inl ⟨hg, hr⟩) hS h
theorem hT {S : World → Prop} (i : Nat) {oi : Oper} (v : Value) {fuel : Nat} {listed : Array Bool} {a : Act} {w : World} (hi : ops[i]? = some oi) (hc : (Region.noSelect ops && Region.free md ops listed i && (Region.ready md ops listed).contains i) = true) (hg : Region.wanted oi (yielded ops a.tmps) = true) (hr : ∀ X, S X → (execOp a.eval oi).run P X = .ok (.value v) X) (hS : S w)
 (h : wpAnyH P md ops (NoPanic Q) S fuel (listed.setIfInBounds i true) (a.put oi.dst v) w) : wpAnyH P md ops (NoPanic Q) S (fuel + 1) listed a w := by
 simp only [Bool.and_eq_true] at hc
 exact wpAnyH_take hi hc.1.1 hc.1.2 hc.2 (fun _ _ _ h => h) (.inl ⟨hg, hr⟩) hS h
theorem wpAnyE_one {S : World → Prop} {z i : Nat} {o : Oper} {fuel : Nat} {listed : Array Bool} {a : Act} {w : World} (hr : Region.ready md ops listed = [i]) (hiz : (i == z) = false) (ho : ops[i]? = some o) (hg : Region.wanted o (yielded ops a.tmps) = true)
    (h : ∀ K : Act → World → Prop, (∀ a' w', S w' → wpAnyE P md ops Q S z fuel (listed.setIfInBounds i true) a' w' → K a' w') → o.wp P a w K Q) : wpAnyE P md ops Q S z (fuel + 1) listed a w := by
 refine ⟨fun h => (by rw [hr] at h; cases h), fun j hj => ?_⟩
 obtain rfl : j = i := by rw [hr] at hj; simpa using hj
 have hne : j ≠ z := by simpa using hiz
 unfold wpOp
 rw [ho]
 simp only [hg, if_true]
 exact .inl (h _ fun a' w' h1 h2 => ⟨fun _ => ⟨h1, h2⟩, fun h => absurd h hne⟩)
theorem wpAnyE_z {S : World → Prop} {z : Nat} {o : Oper} {fuel : Nat} {listed : Array Bool} {a : Act} {w : World} (hr : Region.ready md ops listed = [z]) (ho : ops[z]? = some o) (hg : Region.wanted o (yielded ops a.tmps) = true)
    (h : ∀ K : Act → World → Prop, (∀ a' w', wpAny P md ops Q fuel (listed.setIfInBounds z true) a' w' → K a' w') → o.wp P a w K Q) : wpAnyE P md ops Q S z (fuel + 1) listed a w := by
 refine ⟨fun h => (by rw [hr] at h; cases h), fun j hj => ?_⟩
 obtain rfl : j = z := by rw [hr] at hj; simpa using hj
 unfold wpOp
 rw [ho]
 simp only [hg, if_true]
 exact .inl (h _ fun a' w' h2 => ⟨fun h => absurd rfl h, fun _ => h2⟩)
theorem wpAny_one {i : Nat} {o : Oper} {fuel : Nat} {listed : Array Bool} {a : Act} {w : World} (hr : Region.ready md ops listed = [i]) (ho : ops[i]? = some o) (hg : Region.wanted o (yielded ops a.tmps) = true)
    (h : ∀ K : Act → World → Prop, (∀ a' w', wpAny P md ops Q fuel (listed.setIfInBounds i true) a' w' → K a' w') → o.wp P a w K Q) : wpAny P md ops Q (fuel + 1) listed a w := by
 refine ⟨fun h => (by rw [hr] at h; cases h), fun j hj => ?_⟩
 obtain rfl : j = i := by rw [hr] at hj; simpa using hj
 unfold wpOp
 rw [ho]
 simp only [hg, if_true]
 exact .inl (h _ fun a' w' h2 => h2)
theorem wpAny_done {listed : Array Bool} {a : Act} {w : World} (hr : Region.ready md ops listed = []) (h : Q .normal a w) : ∀ fuel, wpAny P md ops Q fuel listed a w
 | 0 => ⟨hr, h⟩
 | _ + 1 => ⟨fun _ => h, by rw [hr]; simp⟩
theorem wp_region_P {id : Nat} {a : Act} {w : World} (hm : P.follows .mixedOrders = true)
    (h : wpAny P .any ops (NoPanic Q) ops.size (Array.replicate ops.size false) a { w with drawn := w.drawn + 1 }) : (Code.region id ops true).wp P Q a w :=
 wp_region_noPanic (wp_region_any hm h)
end Go.Proofs.Ytiampoebdmflgaa
