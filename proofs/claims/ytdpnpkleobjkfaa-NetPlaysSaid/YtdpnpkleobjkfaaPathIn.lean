/- Drawn regions in phases within a round of a range over a function (XPath's laws, fenced): a yield may stand in them. -/
import Derived.Test.YtdpnpkleobjkfaaPath
namespace Go.Proofs.Ytdpnpkleobjkfaa
open Go.RowKit

variable {P : Program} {ops : Array Oper} {Q : Exit → Act → World → Prop} {md : Region.Mode} {ro : Option Nat} {S : World → Prop}

theorem semAt_ro {o : Oper} (ρ : Operand → Value) (hd : ∀ c, o.op ≠ .defer c) : o.semAt ({ Fence.wide with round := ro } : Fence).round ρ = execOp ρ o := by
  cases ro with
  | none => rfl
  | some l => exact Oper.semAt_some l _ _ hd

theorem yields_wpOpI {i : Nat} {o : Oper} {v : Value} {a : Act} (hd : ∀ c, o.op ≠ .defer c) (hi : ops[i]? = some o) (hy : YieldsIf P ops S o v a)
    {K : Act → World → Prop} {w : World} (hS : S w) (h : K (a.put o.dst v) w) : wpOpIn { Fence.wide with round := ro } 0 P ops Q i K a w := by
  unfold Go.wpOpIn
  simp only [hi]
  rcases hy with ⟨hw, hv⟩ | ⟨hw, rfl⟩
  · simp only [hw, if_true, Oper.wpIn]
    rw [semAt_ro _ hd, hv w hS]
    exact ⟨fun _ _ => trivial, h⟩
  · simp only [hw, Bool.false_eq_true, if_false]; exact ⟨fun _ _ => trivial, h⟩

theorem wpOpI_putIf {j : Nat} {oi oj : Oper} {v : Value} (hdj : ∀ c, oj.op ≠ .defer c) (hj : ops[j]? = some oj) (hap : oi.apart ops oj = true)
    (hsi : ∀ cs b, oi.op ≠ .select cs b) (hsj : ∀ cs b, oj.op ≠ .select cs b)
    (hQ : ∀ c a w, Q (.panic c) (a.put oi.dst v) w → Q (.panic c) a w) {K : Act → World → Prop} {a : Act} {w : World}
    (hy : YieldsIf P ops S oi v a) (h : wpOpIn { Fence.wide with round := ro } 0 P ops Q j K (a.put oi.dst v) w) :
    wpOpIn { Fence.wide with round := ro } 0 P ops Q j (fun a' w' => YieldsIf P ops S oi v a' ∧ K (a'.put oi.dst v) w') a w := by
  obtain ⟨h1, h2, h3⟩ := Oper.apart_spec hap
  have keep : ∀ (a : Act), YieldsIf P ops S oi v a → ∀ u, YieldsIf P ops S oi v (a.put oj.dst u) := fun a hy u =>
    hy.of_same (execOp_put oi hsi a oj.dst u h3) (wanted_put oi a oj.dst u h3)
  have keepD : ∀ d, YieldsIf P ops S oi v { a with defers := d :: a.defers } := fun d => hy.of_same rfl rfl
  unfold wpOpIn at *
  simp only [hj] at *
  rw [wanted_put oj a oi.dst v h1, about_put oj w a oi.dst v h1] at h
  split
  · rename_i hw
    simp only [hw, if_true] at h
    unfold Oper.wpIn at *
    refine ⟨fun _ _ => trivial, ?_⟩
    have h := h.2
    rw [semAt_ro _ hdj, execOp_put oj hsj a oi.dst v h1] at h
    rw [semAt_ro _ hdj]
    generalize (execOp a.eval oj).run P w = r at *
    cases r with
    | ok x w' =>
      cases x <;> simp only [Oper.uponIn] at h ⊢
      case value u => exact ⟨keep a hy u, by rw [← Act.put_comm a v u h2]; exact h⟩
      case skip => exact ⟨keep a hy _, by rw [← Act.put_comm a v undef h2]; exact h⟩
      case defer d =>
        refine ⟨keep _ (keepD d) _, ?_⟩
        rw [← Act.put_comm _ v undef h2, ← Act.put_defers]
        exact h
      case enter f args =>
        refine ⟨h.1, CallsIn.mono h.2 fun e w'' he => ?_⟩
        cases e with
        | returned u => exact ⟨keep a hy u, by rw [← Act.put_comm a v u h2]; exact he⟩
        | panicked c => exact hQ _ _ _ he
        | outgrown => exact he
      case row row args => exact ⟨h.1, RowsIn.mono h.2 fun u w'' he => ⟨keep a hy u, by rw [← Act.put_comm a v u h2]; exact he⟩⟩
      case round l f tmps assign body =>
        refine ⟨h.1, RoundIn.mono h.2 fun e w'' he => ?_⟩
        cases e with
        | returned u => exact ⟨keep a hy u, by rw [← Act.put_comm a v u h2]; exact he⟩
        | panicked c => exact hQ _ _ _ he
        | outgrown => exact he
    | halt x w' =>
      cases x <;> simp only [Oper.uponIn] at h ⊢
      case panic u => exact hQ _ _ _ h
  · rename_i hw
    simp only [hw] at h
    exact ⟨fun _ _ => trivial, keep a hy _, by rw [← Act.put_comm a v undef h2]; exact h.2⟩

/-- Whatever order is picked from here on; S holds behind every operation until number z is carried out. -/
def wpAnyF (ro : Option Nat) (P : Program) (md : Region.Mode) (ops : Array Oper) (Q : Exit → Act → World → Prop) (S : World → Prop) (z : Nat) : Nat → Array Bool → Act → World → Prop
  | 0, listed, a, w => Region.ready md ops listed = [] ∧ Q .normal a w
  | fuel + 1, listed, a, w =>
    (Region.ready md ops listed = [] → Q .normal a w) ∧
    ∀ i ∈ Region.ready md ops listed, wpOpIn { Fence.wide with round := ro } 0 P ops Q i (fun a' w' => (i ≠ z → S w' ∧ wpAnyF ro P md ops Q S z fuel (listed.setIfInBounds i true) a' w') ∧ (i = z → wpAnyIn { Fence.wide with round := ro } 0 P md ops Q fuel (listed.setIfInBounds i true) a' w')) a w

theorem wpAnyIn_of_F (S : World → Prop) (z : Nat) : ∀ (fuel : Nat) (listed : Array Bool) (a : Act) (w : World), wpAnyF ro P md ops Q S z fuel listed a w → wpAnyIn { Fence.wide with round := ro } 0 P md ops Q fuel listed a w
  | 0, _, _, _, h => h
  | fuel + 1, _, _, _, h => ⟨h.1, fun i hi => wpOpIn_mono (fun a' w' h' => by
      by_cases hz : i = z
      · exact h'.2 hz
      · exact wpAnyIn_of_F S z fuel _ a' w' (h'.1 hz).2) (h.2 i hi)⟩

theorem wpAnyF_first {S : World → Prop} {z i : Nat} {oi : Oper} {v : Value} (hi : ops[i]? = some oi) (hiz : i ≠ z) (l : List Nat) (hz : pathB md ops z l i = true) (hsel : ∀ (j : Nat) (o : Oper) cs b, ops[j]? = some o → o.op ≠ .select cs b) (hnd : ∀ (j : Nat) (o : Oper) (c : Call), ops[j]? = some o → o.op ≠ .defer c)
    (hQ : ∀ c a w, Q (.panic c) (a.put oi.dst v) w → Q (.panic c) a w) :
    ∀ (fuel : Nat) (listed : Array Bool) (a : Act) (w : World), Closed md ops listed →
      (∀ j oj, ops[j]? = some oj → j ≠ i → listed.getD j true = false → (∀ e ∈ oj.after, Region.binds md e = true → e.on ≠ i) → oi.apart ops oj = true) →
      i ∈ Region.ready md ops listed → YieldsIf P ops S oi v a → S w →
      wpAnyF ro P md ops Q S z fuel (listed.setIfInBounds i true) (a.put oi.dst v) w → wpAnyF ro P md ops Q S z (fuel + 1) listed a w := by
  intro fuel
  induction fuel with
  | zero =>
    intro listed a w _ _ hr hy hS H
    refine ⟨fun h => (by rw [h] at hr; cases hr), fun j hj => ?_⟩
    by_cases hji : j = i
    · subst hji; exact yields_wpOpI (fun c => hnd _ _ c hi) hi hy hS ⟨fun _ => ⟨hS, H⟩, fun h => absurd h hiz⟩
    · have := ready_mono hj hji
      rw [H.1] at this
      cases this
  | succ fuel ih =>
    intro listed a w hcl hfree hr hy hS H
    refine ⟨fun h => (by rw [h] at hr; cases hr), fun j hj => ?_⟩
    by_cases hji : j = i
    · subst hji; exact yields_wpOpI (fun c => hnd _ _ c hi) hi hy hS ⟨fun _ => ⟨hS, H⟩, fun h => absurd h hiz⟩
    · have h1 := H.2 j (ready_mono hj hji)
      obtain ⟨hjun, oj, hoj, hall⟩ := mem_ready.1 hj
      have hnot : ∀ e ∈ oj.after, Region.binds md e = true → e.on ≠ i := fun e he hb heq => by
        have h1 := hall e he hb
        rw [heq] at h1
        exact getD_false_true (mem_ready.1 hr).1 h1
      have hjz : j ≠ z := by
        rintro rfl
        refine getD_false_true (mem_ready.1 hr).1 (path_listed hcl l j hz fun o ho => ?_)
        rw [hoj] at ho
        cases ho
        exact hall
      have h2 := wpOpI_putIf (fun c => hnd j oj c hoj) hoj (hfree j oj hoj hji hjun hnot) (fun cs b => hsel i oi cs b hi) (fun cs b => hsel j oj cs b hoj) hQ hy h1
      have hfree' : ∀ k ok, ops[k]? = some ok → k ≠ i → (listed.setIfInBounds j true).getD k true = false →
          (∀ e ∈ ok.after, Region.binds md e = true → e.on ≠ i) → oi.apart ops ok = true := fun k ok hk hki hun hno => by
        refine hfree k ok hk hki ?_ hno
        by_cases hjk : j = k
        · subst hjk; exact hjun
        · rw [getD_set_ne true hjk] at hun; exact hun
      refine wpOpIn_mono (fun a' w' h3 => ⟨fun _ => ⟨(h3.2.1 hjz).1, ih (listed.setIfInBounds j true) a' w' (closed_set hcl hj) hfree' (ready_mono hr (Ne.symm hji)) h3.1 (h3.2.1 hjz).1 ?_⟩, fun h => absurd h hjz⟩) h2
      rw [Array.setIfInBounds_comm _ _ hji]
      exact (h3.2.1 hjz).2

theorem wpAnyF_take {S : World → Prop} {z i : Nat} {oi : Oper} {v : Value} {fuel : Nat} {listed : Array Bool} {a : Act} {w : World} (l : List Nat) (hi : ops[i]? = some oi) (hd : noDefer ops = true) (ht : takes md ops listed z i l = true)
    (hQ : ∀ c a w, Q (.panic c) (a.put oi.dst v) w → Q (.panic c) a w) (hy : YieldsIf P ops S oi v a) (hS : S w)
    (h : wpAnyF ro P md ops Q S z fuel (listed.setIfInBounds i true) (a.put oi.dst v) w) : wpAnyF ro P md ops Q S z (fuel + 1) listed a w := by
  simp only [takes, Bool.and_eq_true] at ht
  obtain ⟨⟨⟨⟨⟨h1, h2⟩, h3⟩, h4⟩, h5⟩, h6⟩ := ht
  exact wpAnyF_first hi (by simpa using h1) l h2 (Region.noSelect_spec h3) (noDefer_spec hd) hQ fuel listed a w (closed_of h6) (Region.free_spec hi h4) (by simpa using h5) hy hS h

/-- One alone may come up, ahead of z. -/
theorem wpAnyF_one {S : World → Prop} {z i : Nat} {o : Oper} {fuel : Nat} {listed : Array Bool} {a : Act} {w : World} (hr : Region.ready md ops listed = [i]) (hiz : (i == z) = false) (ho : ops[i]? = some o) (hg : Region.wanted o (yielded ops a.tmps) = true)
    (h : ∀ K : Act → World → Prop, (∀ a' w', S w' → wpAnyF ro P md ops Q S z fuel (listed.setIfInBounds i true) a' w' → K a' w') → o.wpIn { Fence.wide with round := ro } 0 P a w K Q) : wpAnyF ro P md ops Q S z (fuel + 1) listed a w := by
  refine ⟨fun h => (by rw [hr] at h; cases h), fun j hj => ?_⟩
  obtain rfl : j = i := by rw [hr] at hj; simpa using hj
  have hne : j ≠ z := by simpa using hiz
  unfold wpOpIn
  rw [ho]
  simp only [hg, if_true]
  exact (h _ fun a' w' h1 h2 => ⟨fun _ => ⟨h1, h2⟩, fun h => absurd h hne⟩)

/-- z alone may come up. -/
theorem wpAnyF_z {S : World → Prop} {z : Nat} {o : Oper} {fuel : Nat} {listed : Array Bool} {a : Act} {w : World} (hr : Region.ready md ops listed = [z]) (ho : ops[z]? = some o) (hg : Region.wanted o (yielded ops a.tmps) = true)
    (h : ∀ K : Act → World → Prop, (∀ a' w', wpAnyIn { Fence.wide with round := ro } 0 P md ops Q fuel (listed.setIfInBounds z true) a' w' → K a' w') → o.wpIn { Fence.wide with round := ro } 0 P a w K Q) : wpAnyF ro P md ops Q S z (fuel + 1) listed a w := by
  refine ⟨fun h => (by rw [hr] at h; cases h), fun j hj => ?_⟩
  obtain rfl : j = z := by rw [hr] at hj; simpa using hj
  unfold wpOpIn
  rw [ho]
  simp only [hg, if_true]
  exact (h _ fun a' w' h2 => ⟨fun h => absurd rfl h, fun _ => h2⟩)

/-- One alone may come up. -/
theorem wpAnyIn_one {i : Nat} {o : Oper} {fuel : Nat} {listed : Array Bool} {a : Act} {w : World} (hr : Region.ready md ops listed = [i]) (ho : ops[i]? = some o) (hg : Region.wanted o (yielded ops a.tmps) = true)
    (h : ∀ K : Act → World → Prop, (∀ a' w', wpAnyIn { Fence.wide with round := ro } 0 P md ops Q fuel (listed.setIfInBounds i true) a' w' → K a' w') → o.wpIn { Fence.wide with round := ro } 0 P a w K Q) : wpAnyIn { Fence.wide with round := ro } 0 P md ops Q (fuel + 1) listed a w := by
  refine ⟨fun h => (by rw [hr] at h; cases h), fun j hj => ?_⟩
  obtain rfl : j = i := by rw [hr] at hj; simpa using hj
  unfold wpOpIn
  rw [ho]
  simp only [hg, if_true]
  exact (h _ fun a' w' h2 => h2)

theorem wpAnyIn_done' {listed : Array Bool} {a : Act} {w : World} (hr : Region.ready md ops listed = []) (h : Q .normal a w) : ∀ fuel, wpAnyIn { Fence.wide with round := ro } 0 P md ops Q fuel listed a w
  | 0 => ⟨hr, h⟩
  | _ + 1 => ⟨fun _ => h, by rw [hr]; simp⟩

theorem wpIn_region_F {id : Nat} {a : Act} {w : World} (hm : P.follows .mixedOrders = true)
    (h : wpAnyIn { Fence.wide with round := ro } 0 P .any ops Q ops.size (Array.replicate ops.size false) a { w with drawn := w.drawn + 1 }) : (Code.region id ops true).wpIn { Fence.wide with round := ro } 0 P Q a w :=
  wpIn_region_any hm h
end Go.Proofs.Ytdpnpkleobjkfaa
