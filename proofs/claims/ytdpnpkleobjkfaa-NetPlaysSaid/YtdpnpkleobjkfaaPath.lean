/- A region that draws its order, in phases: what holds on the way is asked for until operation z is carried out; what is taken first need only be awaited by z through others. -/
import Derived.Test.YtdpnpkleobjkfaaOrd
namespace Go.Proofs.Ytdpnpkleobjkfaa
open Go.RowKit

variable {P : Program} {ops : Array Oper} {Q : Exit → Act → World → Prop} {md : Region.Mode}

/-- What has come up had all that it waits for. -/
def Closed (md : Region.Mode) (ops : Array Oper) (listed : Array Bool) : Prop :=
  ∀ k o, ops[k]? = some o → listed.getD k false = true → ∀ e ∈ o.after, Region.binds md e = true → listed.getD e.on false = true
def closedB (md : Region.Mode) (ops : Array Oper) (listed : Array Bool) : Bool :=
  (List.range ops.size).all fun k => match ops[k]? with | some o => !listed.getD k false || o.after.all fun e => !Region.binds md e || listed.getD e.on false | none => true
theorem closed_of {listed : Array Bool} (h : closedB md ops listed = true) : Closed md ops listed := by
  intro k o ho hk e he hb
  have hlt := (Array.getElem?_eq_some_iff.1 ho).1
  have := (List.all_eq_true.1 h) k (by simpa using hlt)
  rw [ho] at this
  simp only [hk, Bool.not_true, Bool.false_or] at this
  obtain ⟨n, hn, hne⟩ := Array.getElem_of_mem he
  have := (Array.all_eq_true.1 this) n hn
  rw [hne] at this
  simpa [hb] using this

/-- z waits for i through these. -/
def pathB (md : Region.Mode) (ops : Array Oper) : Nat → List Nat → Nat → Bool
  | z, [], i => Region.waitsFor md ops z i
  | z, k :: l, i => Region.waitsFor md ops z k && pathB md ops k l i
theorem path_listed {listed : Array Bool} (hc : Closed md ops listed) {i : Nat} : ∀ (l : List Nat) (z : Nat), pathB md ops z l i = true → (∀ o, ops[z]? = some o → ∀ e ∈ o.after, Region.binds md e = true → listed.getD e.on false = true) → listed.getD i false = true
  | [], z, h, ha => by
    obtain ⟨oz, hoz, e, he, hb, heq⟩ := Region.waitsFor_spec h
    rw [← heq]; exact ha oz hoz e he hb
  | k :: l, z, h, ha => by
    simp only [pathB, Bool.and_eq_true] at h
    obtain ⟨oz, hoz, e, he, hb, heq⟩ := Region.waitsFor_spec h.1
    have hk : listed.getD k false = true := by rw [← heq]; exact ha oz hoz e he hb
    exact path_listed hc l k h.2 (fun o ho => hc k o ho hk)

theorem getD_false_true {listed : Array Bool} {i : Nat} (h1 : listed.getD i true = false) (h2 : listed.getD i false = true) : False := by
  rcases Nat.lt_or_ge i listed.size with h | h
  · simp [h] at h1 h2; rw [h1] at h2; cases h2
  · simp [Array.getElem?_eq_none h] at h2

theorem closed_set {listed : Array Bool} (hc : Closed md ops listed) {j : Nat} (hj : j ∈ Region.ready md ops listed) : Closed md ops (listed.setIfInBounds j true) := by
  obtain ⟨hun, oj, hoj, hall⟩ := mem_ready.1 hj
  have up : ∀ k, listed.getD k false = true → (listed.setIfInBounds j true).getD k false = true := by
    intro k hk
    by_cases h : j = k
    · subst h; exact (getD_false_true hun hk).elim
    · rw [getD_set_ne false h]; exact hk
  intro k o ho hk e he hb
  by_cases h : j = k
  · subst h
    rw [hoj] at ho
    cases ho
    exact up _ (hall e he hb)
  · rw [getD_set_ne false h] at hk
    exact up _ (hc k o ho hk e he hb)

/-- Whatever order is picked from here on; S holds behind every operation until number z is carried out. -/
def wpAnyE (P : Program) (md : Region.Mode) (ops : Array Oper) (Q : Exit → Act → World → Prop) (S : World → Prop) (z : Nat) : Nat → Array Bool → Act → World → Prop
  | 0, listed, a, w => Region.ready md ops listed = [] ∧ Q .normal a w
  | fuel + 1, listed, a, w =>
    (Region.ready md ops listed = [] → Q .normal a w) ∧
    ∀ i ∈ Region.ready md ops listed, wpOp P ops Q i (fun a' w' => (i ≠ z → S w' ∧ wpAnyE P md ops Q S z fuel (listed.setIfInBounds i true) a' w') ∧ (i = z → wpAny P md ops Q fuel (listed.setIfInBounds i true) a' w')) a w

theorem wpAny_of_E (S : World → Prop) (z : Nat) : ∀ (fuel : Nat) (listed : Array Bool) (a : Act) (w : World), wpAnyE P md ops Q S z fuel listed a w → wpAny P md ops Q fuel listed a w
  | 0, _, _, _, h => h
  | fuel + 1, _, _, _, h => ⟨h.1, fun i hi => wpOp_mono (fun a' w' h' => by
      by_cases hz : i = z
      · exact h'.2 hz
      · exact wpAny_of_E S z fuel _ a' w' (h'.1 hz).2) (h.2 i hi)⟩

theorem wpAnyE_first {S : World → Prop} {z i : Nat} {oi : Oper} {v : Value} (hi : ops[i]? = some oi) (hiz : i ≠ z) (l : List Nat) (hz : pathB md ops z l i = true) (hsel : ∀ (j : Nat) (o : Oper) cs b, ops[j]? = some o → o.op ≠ .select cs b)
    (hQ : ∀ c a w, Q (.panic c) (a.put oi.dst v) w → Q (.panic c) a w) :
    ∀ (fuel : Nat) (listed : Array Bool) (a : Act) (w : World), Closed md ops listed →
      (∀ j oj, ops[j]? = some oj → j ≠ i → listed.getD j true = false → (∀ e ∈ oj.after, Region.binds md e = true → e.on ≠ i) → oi.apart ops oj = true) →
      i ∈ Region.ready md ops listed → YieldsIf P ops S oi v a → S w →
      wpAnyE P md ops Q S z fuel (listed.setIfInBounds i true) (a.put oi.dst v) w → wpAnyE P md ops Q S z (fuel + 1) listed a w := by
  intro fuel
  induction fuel with
  | zero =>
    intro listed a w _ _ hr hy hS H
    refine ⟨fun h => (by rw [h] at hr; cases hr), fun j hj => ?_⟩
    by_cases hji : j = i
    · subst hji; exact hy.wpOp hi hS ⟨fun _ => ⟨hS, H⟩, fun h => absurd h hiz⟩
    · have := ready_mono hj hji
      rw [H.1] at this
      cases this
  | succ fuel ih =>
    intro listed a w hcl hfree hr hy hS H
    refine ⟨fun h => (by rw [h] at hr; cases hr), fun j hj => ?_⟩
    by_cases hji : j = i
    · subst hji; exact hy.wpOp hi hS ⟨fun _ => ⟨hS, H⟩, fun h => absurd h hiz⟩
    · have h1 := H.2 j (ready_mono hj hji)
      obtain ⟨hjun, oj, hoj, hall⟩ := mem_ready.1 hj
      have hnot : ∀ e ∈ oj.after, Region.binds md e = true → e.on ≠ i := fun e he hb heq => by
        have h1 := hall e he hb
        rw [heq] at h1
        exact getD_false_true (mem_ready.1 hr).1 h1
      have hjz : j ≠ z := by
        rintro rfl
        refine getD_false_true (mem_ready.1 hr).1 (path_listed hcl l j hz fun o ho => ?_)
        rw [hoj] at ho
        cases ho
        exact hall
      have h2 := wpOp_putIf hoj (hfree j oj hoj hji hjun hnot) (fun cs b => hsel i oi cs b hi) (fun cs b => hsel j oj cs b hoj) hQ hy h1
      have hfree' : ∀ k ok, ops[k]? = some ok → k ≠ i → (listed.setIfInBounds j true).getD k true = false →
          (∀ e ∈ ok.after, Region.binds md e = true → e.on ≠ i) → oi.apart ops ok = true := fun k ok hk hki hun hno => by
        refine hfree k ok hk hki ?_ hno
        by_cases hjk : j = k
        · subst hjk; exact hjun
        · rw [getD_set_ne true hjk] at hun; exact hun
      refine wpOp_mono (fun a' w' h3 => ⟨fun _ => ⟨(h3.2.1 hjz).1, ih (listed.setIfInBounds j true) a' w' (closed_set hcl hj) hfree' (ready_mono hr (Ne.symm hji)) h3.1 (h3.2.1 hjz).1 ?_⟩, fun h => absurd h hjz⟩) h2
      rw [Array.setIfInBounds_comm _ _ hji]
      exact (h3.2.1 hjz).2

/-- All that is asked of a piece's numbers, in one. -/
def takes (md : Region.Mode) (ops : Array Oper) (listed : Array Bool) (z i : Nat) (l : List Nat) : Bool :=
  !(i == z) && pathB md ops z l i && Region.noSelect ops && Region.free md ops listed i && (Region.ready md ops listed).contains i && closedB md ops listed

theorem wpAnyE_take {S : World → Prop} {z i : Nat} {oi : Oper} {v : Value} {fuel : Nat} {listed : Array Bool} {a : Act} {w : World} (l : List Nat) (hi : ops[i]? = some oi) (ht : takes md ops listed z i l = true)
    (hQ : ∀ c a w, Q (.panic c) (a.put oi.dst v) w → Q (.panic c) a w) (hy : YieldsIf P ops S oi v a) (hS : S w)
    (h : wpAnyE P md ops Q S z fuel (listed.setIfInBounds i true) (a.put oi.dst v) w) : wpAnyE P md ops Q S z (fuel + 1) listed a w := by
  simp only [takes, Bool.and_eq_true] at ht
  obtain ⟨⟨⟨⟨⟨h1, h2⟩, h3⟩, h4⟩, h5⟩, h6⟩ := ht
  exact wpAnyE_first hi (by simpa using h1) l h2 (Region.noSelect_spec h3) hQ fuel listed a w (closed_of h6) (Region.free_spec hi h4) (by simpa using h5) hy hS h

/-- One alone may come up, ahead of z. -/
theorem wpAnyE_one {S : World → Prop} {z i : Nat} {o : Oper} {fuel : Nat} {listed : Array Bool} {a : Act} {w : World} (hr : Region.ready md ops listed = [i]) (hiz : (i == z) = false) (ho : ops[i]? = some o) (hg : Region.wanted o (yielded ops a.tmps) = true)
    (h : ∀ K : Act → World → Prop, (∀ a' w', S w' → wpAnyE P md ops Q S z fuel (listed.setIfInBounds i true) a' w' → K a' w') → o.wp P a w K Q) : wpAnyE P md ops Q S z (fuel + 1) listed a w := by
  refine ⟨fun h => (by rw [hr] at h; cases h), fun j hj => ?_⟩
  obtain rfl : j = i := by rw [hr] at hj; simpa using hj
  have hne : j ≠ z := by simpa using hiz
  unfold wpOp
  rw [ho]
  simp only [hg, if_true]
  exact .inl (h _ fun a' w' h1 h2 => ⟨fun _ => ⟨h1, h2⟩, fun h => absurd h hne⟩)

/-- z alone may come up. -/
theorem wpAnyE_z {S : World → Prop} {z : Nat} {o : Oper} {fuel : Nat} {listed : Array Bool} {a : Act} {w : World} (hr : Region.ready md ops listed = [z]) (ho : ops[z]? = some o) (hg : Region.wanted o (yielded ops a.tmps) = true)
    (h : ∀ K : Act → World → Prop, (∀ a' w', wpAny P md ops Q fuel (listed.setIfInBounds z true) a' w' → K a' w') → o.wp P a w K Q) : wpAnyE P md ops Q S z (fuel + 1) listed a w := by
  refine ⟨fun h => (by rw [hr] at h; cases h), fun j hj => ?_⟩
  obtain rfl : j = z := by rw [hr] at hj; simpa using hj
  unfold wpOp
  rw [ho]
  simp only [hg, if_true]
  exact .inl (h _ fun a' w' h2 => ⟨fun h => absurd rfl h, fun _ => h2⟩)

/-- One alone may come up. -/
theorem wpAny_one {i : Nat} {o : Oper} {fuel : Nat} {listed : Array Bool} {a : Act} {w : World} (hr : Region.ready md ops listed = [i]) (ho : ops[i]? = some o) (hg : Region.wanted o (yielded ops a.tmps) = true)
    (h : ∀ K : Act → World → Prop, (∀ a' w', wpAny P md ops Q fuel (listed.setIfInBounds i true) a' w' → K a' w') → o.wp P a w K Q) : wpAny P md ops Q (fuel + 1) listed a w := by
  refine ⟨fun h => (by rw [hr] at h; cases h), fun j hj => ?_⟩
  obtain rfl : j = i := by rw [hr] at hj; simpa using hj
  unfold wpOp
  rw [ho]
  simp only [hg, if_true]
  exact .inl (h _ fun a' w' h2 => h2)

theorem wpAny_done {listed : Array Bool} {a : Act} {w : World} (hr : Region.ready md ops listed = []) (h : Q .normal a w) : ∀ fuel, wpAny P md ops Q fuel listed a w
  | 0 => ⟨hr, h⟩
  | _ + 1 => ⟨fun _ => h, by rw [hr]; simp⟩

theorem wp_region_P {id : Nat} {a : Act} {w : World} (hm : P.follows .mixedOrders = true)
    (h : wpAny P .any ops (NoPanic Q) ops.size (Array.replicate ops.size false) a { w with drawn := w.drawn + 1 }) : (Code.region id ops true).wp P Q a w :=
  wp_region_noPanic (wp_region_any hm h)
end Go.Proofs.Ytdpnpkleobjkfaa
