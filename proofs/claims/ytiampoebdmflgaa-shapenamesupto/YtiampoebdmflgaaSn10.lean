/- Texts put one behind the other: Open, Opend, Small, AnyS, Ylmay, Ymay0, Tlift, Ytmay, Ytop, Nlaw0. -/
import Derived.Test.YtiampoebdmflgaaRows
import Derived.Test.YtiampoebdmflgaaSn2
import Derived.Test.YtiampoebdmflgaaSn4
import Derived.WalkKit
import Derived.ProofKit
import Derived.OpenShut
import Derived.JoinedCond
import Derived.Lib.SmallJoins
import Derived.Deep.Slices
import Derived.Test.YtiampoebdmflgaaSn7
import Derived.Test.YtiampoebdmflgaaSn9
import Derived.Test.YtiampoebdmflgaaSn0
import Derived.Test.YtiampoebdmflgaaSn5
/- What an argument reads as: levels, terms, constructors, and how great they are where the bulk is bounded. -/
namespace Go.Proofs.Ytiampoebdmflgaa
open Go.ChangeShapes Go.WideShapes Go.ChangeAt Go.RowKit Go.Joins Go.Deep
set_option linter.unusedVariables false
set_option linter.unusedVariables false
set_option maxRecDepth 100000
mutual
def Lv.wt : Lv → Nat
 | .mk _ _ ks => Lv.wts ks + 1
def Lv.wts : List Lv → Nat
 | [] => 0
 | l :: ls => l.wt + Lv.wts ls
end
mutual
def Tm.wt : Tm → Nat
 | .mk _ _ nm lv ls ks => nm.size + lv.wt + Lv.wts ls + Tm.wts ks + 1
def Tm.wts : List Tm → Nat
 | [] => 0
 | l :: ls => l.wt + Tm.wts ls
end
theorem Lv.wts_sum : ∀ l : List Lv, Lv.wts l = (l.map Lv.wt).sum
 | [] => rfl
 | x :: l => by simp only [Lv.wts, List.map_cons, List.sum_cons, Lv.wts_sum l]
theorem Tm.wts_sum : ∀ l : List Tm, Tm.wts l = (l.map Tm.wt).sum
 | [] => rfl
 | x :: l => by simp only [Tm.wts, List.map_cons, List.sum_cons, Tm.wts_sum l]
mutual
theorem Tm.height_wt : ∀ t : Tm, t.height ≤ t.wt
 | .mk k n nm lv ls ks => by
  have := Tm.heights_wt ks
  simp only [Tm.height, Tm.wt]; omega
theorem Tm.heights_wt : ∀ l : List Tm, Tm.heights l ≤ Tm.wts l
 | [] => by simp [Tm.heights, Tm.wts]
 | x :: l => by
  have h1 := Tm.height_wt x
  have h2 := Tm.heights_wt l
  simp only [Tm.heights, Tm.wts]; omega
end
namespace bulks
theorem one_le {H : Type} (d : DataW H) : 1 ≤ Rows.uptoBulk d := by
 cases d with
 | lit l => cases l <;> simp [Rows.uptoBulk]
 | nil => simp [Rows.uptoBulk]
 | ptr d => simp [Rows.uptoBulk]
 | slice elems spare => simp [Rows.uptoBulk]
 | agg parts => simp [Rows.uptoBulk]
 | iface t d => simp [Rows.uptoBulk]
 | map entries => simp [Rows.uptoBulk]
 | held h => simp [Rows.uptoBulk]
end bulks
theorem list_of {α : Type} {P : Nat → α → Prop} : ∀ n : Nat, (∀ i, i < n → ∃ x, P i x) → ∃ l : List α, l.length = n ∧ ∀ i (h : i < l.length), P i l[i]
 | 0, _ => ⟨[], rfl, fun i h => absurd h (by simp)⟩
 | n + 1, h => by
  obtain ⟨l, hl, hp⟩ := list_of n (fun i hi => h i (by omega))
  obtain ⟨x, hx⟩ := h n (by omega)
  refine ⟨l ++ [x], by simp [hl], fun i hi => ?_⟩
  by_cases hin : i < l.length
  · rw [List.getElem_append_left hin]; exact hp i hin
  have : i = n := by simp at hi; omega
  subst this
  rw [List.getElem_append_right (by omega)]
  simp [hl]; exact hx
theorem bulk_sum {α H : Type} (f : α → Nat) : ∀ (l : List α) (ds : List (DataW H)), l.length = ds.length → (∀ i (h : i < l.length) (k : i < ds.length), f l[i] ≤ Rows.uptoBulk ds[i]) → (l.map f).sum ≤ Rows.uptoBulkAll ds
 | [], [], _, _ => by simp
 | [], _ :: _, h, _ => by cases h
 | _ :: _, [], h, _ => by cases h
 | x :: l, d :: ds, h, k => by
  have h1 := k 0 (by simp) (by simp)
  have h2 := bulk_sum f l ds (by simpa using h) (fun i h k' => by have := k (i + 1) (by simpa using h) (by simpa using k'); simpa using this)
  simp only [List.map_cons, List.sum_cons, Rows.uptoBulkAll]
  simp only [List.getElem_cons_zero] at h1
  omega
theorem bulk_mem {H : Type} : ∀ {ds : List (DataW H)} {i : Nat} {d : DataW H}, ds[i]? = some d → Rows.uptoBulk d ≤ Rows.uptoBulkAll ds
 | [], i, d, h => by simp at h
 | x :: ds, 0, d, h => by
  simp only [List.getElem?_cons_zero, Option.some.injEq] at h
  subst h; simp only [Rows.uptoBulkAll]; omega
 | x :: ds, i + 1, d, h => by
  have := bulk_mem (ds := ds) (i := i) (d := d) (by simpa using h)
  simp only [Rows.uptoBulkAll]; omega
section
variable {H : Type} {enc : TypeId × Value → H} {w : World} {sp : Nat → Bool} {held : Bool}
theorem open_row {α : Type} {R : α → Array Value → Prop} {f : α → Nat} {t e : TypeId} {k fuel : Nat} {c : Value} {d : DataW H} {ps : List MemPlace} (ht : Try.prog.underlying t = some (.slice e)) (hc : Try.prog.cellsOf e = k) (hk : 0 < k)
    (hel : ∀ n cs d ps, n < fuel → DataW.trod enc Try.prog w 0 sp held n e cs = some (d, ps) → Rows.uptoBulk d ≤ 1048576 → ∃ x, R x cs.toArray ∧ f x ≤ Rows.uptoBulk d)
    (h : DataW.trod enc Try.prog w 0 sp held fuel t [c] = some (d, ps)) (hb : Rows.uptoBulk d ≤ 1048576) :
    ∃ A cap, ∃ l : List α, c = .slice A l.length cap ∧ l.length ≤ cap ∧ l.length ≤ 1048576 ∧ (∀ j x, l[j]? = some x → ∃ a cs, A = some a ∧ There w a.block ∧ rowAt w (a.add (j * k)) cs ∧ R x cs) ∧ (l.map f).sum + 1 ≤ Rows.uptoBulk d ∧ (∀ x, x ∈ l → f x ≤ Rows.uptoBulk d) := by
 rcases DataW.trod_slice ht h with ⟨h1, h2⟩ | ⟨a, len, cap, elems, rest, n, hn, hcs, hx, _, hl, hm, hlen, hall, _⟩
 · simp only [List.cons.injEq, and_true] at h1
   simp only [Prod.mk.injEq] at h2
   obtain ⟨rfl, rfl⟩ := h2
   exact ⟨none, 0, [], h1, by simp, by simp, fun j x hj => by simp at hj, by simp [Rows.uptoBulk], fun x hx => by cases hx⟩
 simp only [List.cons.injEq, and_true] at hcs
 simp only [Prod.mk.injEq] at hx
 obtain ⟨rfl, _⟩ := hx
 subst hlen
 simp only [Rows.uptoBulk] at hb ⊢
 obtain ⟨l, hll, hlp⟩ := list_of (P := fun i (x : α) => (∃ cs, There w a.block ∧ rowAt w (a.add (i * k)) cs ∧ R x cs) ∧ ∀ (h : i < (elems.map (·.1)).length), f x ≤ Rows.uptoBulk (elems.map (·.1))[i]) elems.length (fun i hi => by
  have h1 := hall i hi
  rw [List.getElem?_eq_getElem hi] at h1
  obtain ⟨cs, h2, h3⟩ := Option.bind_eq_some_iff.1 h1
  rw [hc] at h2
  obtain ⟨_, h4, h5⟩ := World.cells?_some h2
  have h6 : (elems.map (·.1))[i]? = some elems[i].1 := by rw [List.getElem?_map, List.getElem?_eq_getElem hi]; rfl
  obtain ⟨x, h7, h8⟩ := hel n cs elems[i].1 elems[i].2 (by omega) h3 (by have := bulk_mem h6; omega)
  refine ⟨x, ⟨cs.toArray, ?_, fun j v hv => ?_, h7⟩, fun hh => ?_⟩
  · have h9 := h5 0 hk
    rw [List.getElem?_eq_getElem (by omega)] at h9
    have := cell_there h9
    rwa [Addr_add_block, Addr_add_block] at this
  · have hj : j < cs.length := by have := (Array.getElem?_eq_some_iff.1 hv).1; simpa using this
    rw [h5 j (by omega), ← hv]; simp
  simpa using h8)
 have hs := bulk_sum f l (elems.map (·.1)) (by simp [hll]) (fun i h k => (hlp i h).2 k)
 refine ⟨some a, cap, l, by rw [hll]; exact hcs, by rw [hll]; exact hl, ?_, fun j x hj => ?_, by omega, fun x hx => ?_⟩
 · have : elems.length ≤ Rows.uptoBulkAll (elems.map (·.1)) := by
     have := bulk_sum (fun _ : DataW H × List MemPlace => 1) elems (elems.map (·.1)) (by simp) (fun i h k => bulks.one_le _)
     have e : ∀ l : List (DataW H × List MemPlace), (l.map fun _ => 1).sum = l.length := by intro l; induction l with | nil => rfl | cons x l ih => simp only [List.map_cons, List.sum_cons, ih, List.length_cons]; omega
     rwa [e] at this
   omega
 · obtain ⟨hj1, rfl⟩ := List.getElem?_eq_some_iff.1 hj
   obtain ⟨cs, h1, h2, h3⟩ := (hlp j hj1).1
   exact ⟨a, cs, rfl, h1, h2, h3⟩
 obtain ⟨i, hi, rfl⟩ := List.getElem_of_mem hx
 have h1 := (hlp i hi).2 (by simp; omega)
 have h2 := List.getElem?_eq_getElem (l := elems.map (·.1)) (i := i) (by simp; omega)
 have := bulk_mem h2
 omega
theorem trods2 {P : Program} {t : TypeId} {f0 f1 : Field} {fuel : Nat} {cs : List Value} {x : DataW H × List MemPlace} (ht : P.underlying t = some (.struct #[f0, f1])) (h : DataW.trod enc P w 0 sp held fuel t cs = some x) :
    ∃ y0 y1 n, fuel = n + 1 ∧ x.1 = .agg [y0.1, y1.1] ∧ cs.length = P.cellsOf t ∧ DataW.trod enc P w 0 sp held n f0.type ((cs.drop f0.offset).take (P.cellsOf f0.type)) = some y0 ∧ DataW.trod enc P w 0 sp held n f1.type ((cs.drop f1.offset).take (P.cellsOf f1.type)) = some y1 := by
 obtain ⟨xs, n, hn, rfl, hl, hlen, hf⟩ := DataW.trod_struct ht h
 match xs, hlen with
 | [y0, y1], _ => exact ⟨y0, y1, n, hn, by simp, hl, by simpa using hf 0 f0 rfl, by simpa using hf 1 f1 rfl⟩
theorem trods3 {P : Program} {t : TypeId} {f0 f1 f2 : Field} {fuel : Nat} {cs : List Value} {x : DataW H × List MemPlace} (ht : P.underlying t = some (.struct #[f0, f1, f2])) (h : DataW.trod enc P w 0 sp held fuel t cs = some x) :
    ∃ y0 y1 y2 n, fuel = n + 1 ∧ x.1 = .agg [y0.1, y1.1, y2.1] ∧ cs.length = P.cellsOf t ∧ DataW.trod enc P w 0 sp held n f0.type ((cs.drop f0.offset).take (P.cellsOf f0.type)) = some y0 ∧ DataW.trod enc P w 0 sp held n f1.type ((cs.drop f1.offset).take (P.cellsOf f1.type)) = some y1 ∧ DataW.trod enc P w 0 sp held n f2.type ((cs.drop f2.offset).take (P.cellsOf f2.type)) = some y2 := by
 obtain ⟨xs, n, hn, rfl, hl, hlen, hf⟩ := DataW.trod_struct ht h
 match xs, hlen with
 | [y0, y1, y2], _ => exact ⟨y0, y1, y2, n, hn, by simp, hl, by simpa using hf 0 f0 rfl, by simpa using hf 1 f1 rfl, by simpa using hf 2 f2 rfl⟩
theorem trods6 {P : Program} {t : TypeId} {f0 f1 f2 f3 f4 f5 : Field} {fuel : Nat} {cs : List Value} {x : DataW H × List MemPlace} (ht : P.underlying t = some (.struct #[f0, f1, f2, f3, f4, f5])) (h : DataW.trod enc P w 0 sp held fuel t cs = some x) :
    ∃ y0 y1 y2 y3 y4 y5 n, fuel = n + 1 ∧ x.1 = .agg [y0.1, y1.1, y2.1, y3.1, y4.1, y5.1] ∧ cs.length = P.cellsOf t ∧ DataW.trod enc P w 0 sp held n f0.type ((cs.drop f0.offset).take (P.cellsOf f0.type)) = some y0 ∧ DataW.trod enc P w 0 sp held n f1.type ((cs.drop f1.offset).take (P.cellsOf f1.type)) = some y1 ∧ DataW.trod enc P w 0 sp held n f2.type ((cs.drop f2.offset).take (P.cellsOf f2.type)) = some y2 ∧ DataW.trod enc P w 0 sp held n f3.type ((cs.drop f3.offset).take (P.cellsOf f3.type)) = some y3 ∧ DataW.trod enc P w 0 sp held n f4.type ((cs.drop f4.offset).take (P.cellsOf f4.type)) = some y4 ∧ DataW.trod enc P w 0 sp held n f5.type ((cs.drop f5.offset).take (P.cellsOf f5.type)) = some y5 := by
 obtain ⟨xs, n, hn, rfl, hl, hlen, hf⟩ := DataW.trod_struct ht h
 match xs, hlen with
 | [y0, y1, y2, y3, y4, y5], _ => exact ⟨y0, y1, y2, y3, y4, y5, n, hn, by simp, hl, by simpa using hf 0 f0 rfl, by simpa using hf 1 f1 rfl, by simpa using hf 2 f2 rfl, by simpa using hf 3 f3 rfl, by simpa using hf 4 f4 rfl, by simpa using hf 5 f5 rfl⟩
theorem trods7 {P : Program} {t : TypeId} {f0 f1 f2 f3 f4 f5 f6 : Field} {fuel : Nat} {cs : List Value} {x : DataW H × List MemPlace} (ht : P.underlying t = some (.struct #[f0, f1, f2, f3, f4, f5, f6])) (h : DataW.trod enc P w 0 sp held fuel t cs = some x) :
    ∃ y0 y1 y2 y3 y4 y5 y6 n, fuel = n + 1 ∧ x.1 = .agg [y0.1, y1.1, y2.1, y3.1, y4.1, y5.1, y6.1] ∧ cs.length = P.cellsOf t ∧ DataW.trod enc P w 0 sp held n f0.type ((cs.drop f0.offset).take (P.cellsOf f0.type)) = some y0 ∧ DataW.trod enc P w 0 sp held n f1.type ((cs.drop f1.offset).take (P.cellsOf f1.type)) = some y1 ∧ DataW.trod enc P w 0 sp held n f2.type ((cs.drop f2.offset).take (P.cellsOf f2.type)) = some y2 ∧ DataW.trod enc P w 0 sp held n f3.type ((cs.drop f3.offset).take (P.cellsOf f3.type)) = some y3 ∧ DataW.trod enc P w 0 sp held n f4.type ((cs.drop f4.offset).take (P.cellsOf f4.type)) = some y4 ∧ DataW.trod enc P w 0 sp held n f5.type ((cs.drop f5.offset).take (P.cellsOf f5.type)) = some y5 ∧ DataW.trod enc P w 0 sp held n f6.type ((cs.drop f6.offset).take (P.cellsOf f6.type)) = some y6 := by
 obtain ⟨xs, n, hn, rfl, hl, hlen, hf⟩ := DataW.trod_struct ht h
 match xs, hlen with
 | [y0, y1, y2, y3, y4, y5, y6], _ => exact ⟨y0, y1, y2, y3, y4, y5, y6, n, hn, by simp, hl, by simpa using hf 0 f0 rfl, by simpa using hf 1 f1 rfl, by simpa using hf 2 f2 rfl, by simpa using hf 3 f3 rfl, by simpa using hf 4 f4 rfl, by simpa using hf 5 f5 rfl, by simpa using hf 6 f6 rfl⟩
theorem cells_lv : Try.prog.cellsOf 24 = 3 := by kernel_rfl
theorem cells_tm : Try.prog.cellsOf 27 = 8 := by kernel_rfl
theorem cells_int : Try.prog.cellsOf 3 = 1 := by kernel_rfl
theorem cells_str : Try.prog.cellsOf 9 = 1 := by kernel_rfl
theorem cells_lvs : Try.prog.cellsOf 22 = 1 := by kernel_rfl
theorem cells_tms : Try.prog.cellsOf 25 = 1 := by kernel_rfl
theorem list3 {α : Type} {l : List α} (h : l.length = 3) : ∃ a b c, l = [a, b, c] := by
 match l, h with
 | [a, b, c], _ => exact ⟨a, b, c, rfl⟩
theorem list8 {α : Type} {l : List α} (h : l.length = 8) : ∃ a b c d e f g i, l = [a, b, c, d, e, f, g, i] := by
 match l, h with
 | [a, b, c, d, e, f, g, i], _ => exact ⟨a, b, c, d, e, f, g, i, rfl⟩
theorem int_in {z : Int} (h : (Lit.int .i64 z).wf = true) : InI z := by
 simp [Lit.wf, IntKind.min, IntKind.max, IntKind.signed, IntKind.bits] at h
 exact h
theorem open_lv : ∀ (fuel : Nat) (cs : List Value) (d : DataW H) (ps : List MemPlace), DataW.trod enc Try.prog w 0 sp held fuel 24 cs = some (d, ps) → Rows.uptoBulk d ≤ 1048576 →
    ∃ l, LvIs (There w) w l cs.toArray ∧ l.wt ≤ Rows.uptoBulk d := by
 intro fuel
 induction fuel using Nat.strongRecOn with
 | ind fuel ih =>
  intro cs d ps h hb
  obtain ⟨y0, y1, y2, n, rfl, hx, hl, g0, g1, g2⟩ := trods3 Try.underlying24 h
  rw [cells_lv] at hl
  obtain ⟨c0, c1, c2, rfl⟩ := list3 hl
  subst hx
  simp only [cells_int, cells_lvs, List.drop_zero, List.drop_succ_cons, List.take_succ_cons, List.take_zero] at g0 g1 g2
  obtain ⟨z0, q0, _, v0⟩ := DataW.trod_int Try.underlying3 g0
  obtain ⟨z1, q1, _, v1⟩ := DataW.trod_int Try.underlying3 g1
  simp only [List.cons.injEq, and_true] at q0 q1
  subst q0 q1
  simp only [Rows.uptoBulk, Rows.uptoBulkAll] at hb ⊢
  obtain ⟨A, cap, l, rfl, e1, e2, e3, e4, _⟩ := open_row (R := fun l cs => LvIs (There w) w l cs) (f := Lv.wt) Try.underlying22 cells_lv (by decide) (fun m cs d ps hm h hb => ih m (by omega) cs d ps h hb) g2 (by omega)
  refine ⟨.mk z0 z1 l, ?_, ?_⟩
  · simp only [LvIs]
    refine ⟨A, cap, rfl, int_in v0, int_in v1, ⟨by omega, e1⟩, LvsAt.mk fun j x hj => ?_⟩
    obtain ⟨a, cs, h1, h2, h3, h4⟩ := e3 j x hj
    exact ⟨a, cs, h1, h2, by rw [Nat.zero_add]; exact h3, h4⟩
  simp only [Lv.wt, Lv.wts_sum]; omega
theorem open_tm : ∀ (fuel : Nat) (cs : List Value) (d : DataW H) (ps : List MemPlace), DataW.trod enc Try.prog w 0 sp held fuel 27 cs = some (d, ps) → Rows.uptoBulk d ≤ 1048576 →
    ∃ t, TmIs (There w) w t cs.toArray ∧ t.wt ≤ Rows.uptoBulk d := by
 intro fuel
 induction fuel using Nat.strongRecOn with
 | ind fuel ih =>
  intro cs d ps h hb
  obtain ⟨y0, y1, y2, y3, y4, y5, n, rfl, hx, hl, g0, g1, g2, g3, g4, g5⟩ := trods6 Try.underlying27 h
  rw [cells_tm] at hl
  obtain ⟨c0, c1, c2, c3, c4, c5, c6, c7, rfl⟩ := list8 hl
  subst hx
  simp only [cells_int, cells_str, cells_lv, cells_lvs, cells_tms, List.drop_zero, List.drop_succ_cons, List.take_succ_cons, List.take_zero] at g0 g1 g2 g3 g4 g5
  obtain ⟨z0, q0, _, v0⟩ := DataW.trod_int Try.underlying3 g0
  obtain ⟨z1, q1, _, v1⟩ := DataW.trod_int Try.underlying3 g1
  obtain ⟨s, q2, x2, v2⟩ := DataW.trod_string Try.underlying9 g2
  simp only [List.cons.injEq, and_true] at q0 q1 q2
  subst q0 q1 q2
  subst x2
  simp only [Rows.uptoBulk, Rows.uptoBulkAll] at hb ⊢
  have es : s.data.toList.length = s.size := by rw [Array.length_toList]; rfl
  rw [es] at hb ⊢
  obtain ⟨lv, hlv, wlv⟩ := open_lv n _ _ _ g3 (by omega)
  obtain ⟨A, cap, l, rfl, e1, e2, e3, e4, _⟩ := open_row (R := fun l cs => LvIs (There w) w l cs) (f := Lv.wt) Try.underlying22 cells_lv (by decide) (fun m cs d ps hm h hb => open_lv m cs d ps h hb) g4 (by omega)
  obtain ⟨A', cap', l', rfl, e1', e2', e3', e4', _⟩ := open_row (R := fun l cs => TmIs (There w) w l cs) (f := Tm.wt) Try.underlying25 cells_tm (by decide) (fun m cs d ps hm h hb => ih m (by omega) cs d ps h hb) g5 (by omega)
  refine ⟨.mk z0 z1 s lv l l', ?_, ?_⟩
  · simp only [TmIs]
    refine ⟨c3, c4, c5, A, cap, A', cap', rfl, int_in v0, int_in v1, by simp only [maxLen] at v2; omega, hlv, ⟨by omega, e1⟩, LvsAt.mk fun j x hj => ?_, ⟨by omega, e1'⟩, TmsAt.mk fun j x hj => ?_⟩
    · obtain ⟨a, cs, h1, h2, h3, h4⟩ := e3 j x hj
      exact ⟨a, cs, h1, h2, by rw [Nat.zero_add]; exact h3, h4⟩
    obtain ⟨a, cs, h1, h2, h3, h4⟩ := e3' j x hj
    exact ⟨a, cs, h1, h2, by rw [Nat.zero_add]; exact h3, h4⟩
  simp only [Tm.wt, Lv.wts_sum, Tm.wts_sum]; omega
end
end Go.Proofs.Ytiampoebdmflgaa
/- A declaration that is an argument. -/
namespace Go.Proofs.Ytiampoebdmflgaa
open Go.ChangeShapes Go.WideShapes Go.ChangeAt Go.RowKit Go.Joins Go.Deep
set_option linter.unusedVariables false
set_option linter.unusedVariables false
set_option maxRecDepth 100000
theorem cells_ct : Try.prog.cellsOf 46 = 9 := by kernel_rfl
theorem cells_cts : Try.prog.cellsOf 28 = 1 := by kernel_rfl
theorem cells_dc : Try.prog.cellsOf 30 = 21 := by kernel_rfl
theorem list9 {α : Type} {l : List α} (h : l.length = 9) : ∃ a r, l = a :: r ∧ r.length = 8 := by
 match l, h with
 | a :: r, h => exact ⟨a, r, rfl, by simpa using h⟩
theorem list21 {α : Type} {l : List α} (h : l.length = 21) : ∃ k nm vs a0 a1 a2 a3 a4 a5 a6 a7 b0 b1 b2 b3 b4 b5 b6 b7 pa cs, l = [k, nm, vs, a0, a1, a2, a3, a4, a5, a6, a7, b0, b1, b2, b3, b4, b5, b6, b7, pa, cs] := by
 match l, h with
 | [k, nm, vs, a0, a1, a2, a3, a4, a5, a6, a7, b0, b1, b2, b3, b4, b5, b6, b7, pa, cs], _ => exact ⟨_, _, _, _, _, _, _, _, _, _, _, _, _, _, _, _, _, _, _, _, _, rfl⟩
section
variable {H : Type} {enc : TypeId × Value → H} {w : World} {sp : Nat → Bool} {held : Bool}
theorem open_ct (n : Nat) (cs : List Value) (d : DataW H) (ps : List MemPlace) (h : DataW.trod enc Try.prog w 0 sp held n 46 cs = some (d, ps)) (hb : Rows.uptoBulk d ≤ 1048576) :
    ∃ x : ByteArray × Tm, (∃ cs', cs.toArray = #[Value.string x.1] ++ cs' ∧ TmIs (There w) w x.2 cs' ∧ x.1.size ≤ 140737488351232) ∧ x.1.size + x.2.wt ≤ Rows.uptoBulk d := by
 obtain ⟨y0, y1, n, rfl, hx, hl, g0, g1⟩ := trods2 Try.underlying46 h
 rw [cells_ct] at hl
 obtain ⟨c0, r, rfl, hr⟩ := list9 hl
 obtain ⟨c1, c2, c3, c4, c5, c6, c7, c8, rfl⟩ := list8 hr
 subst hx
 simp only [cells_str, cells_tm, List.drop_zero, List.drop_succ_cons, List.take_succ_cons, List.take_zero] at g0 g1
 obtain ⟨s, q2, x2, v2⟩ := DataW.trod_string Try.underlying9 g0
 simp only [List.cons.injEq, and_true] at q2
 subst q2
 subst x2
 simp only [Rows.uptoBulk, Rows.uptoBulkAll] at hb ⊢
 have es : s.data.toList.length = s.size := by rw [Array.length_toList]; rfl
 rw [es] at hb ⊢
 obtain ⟨t, ht, wt⟩ := open_tm n _ _ _ g1 (by omega)
 exact ⟨(s, t), ⟨_, rfl, ht, by show s.size ≤ _; omega⟩, by show s.size + t.wt ≤ _; omega⟩
theorem open_decl {r : Reach} {b0 : Nat} {v : Value} {d : DataW H} {ps : List MemPlace} (hval : Value.okWide Try.prog w r b0 30 v) (hd : DataW.Trod enc Try.prog w 0 sp held 30 v d ps) (hb : Rows.uptoBulk d ≤ 1048576) :
    ∃ (dk : Int) (nm : ByteArray) (vs pa : Int) (ty vl : Tm) (cts : List (ByteArray × Tm)) (a0 a1 a2 a3 a4 a5 a6 a7 b0 b1 b2 b3 b4 b5 b6 b7 : Value) (cA : Option Addr) (cc : Nat),
     v = .agg #[.int .i64 dk, .string nm, .int .i64 vs, a0, a1, a2, a3, a4, a5, a6, a7, b0, b1, b2, b3, b4, b5, b6, b7, .int .i64 pa, .slice cA cts.length cc] ∧
     InI dk ∧ nm.size ≤ 1048576 ∧ InI vs ∧ InI pa ∧ TmIs (There w) w ty #[a0, a1, a2, a3, a4, a5, a6, a7] ∧ ty.wt ≤ 1048576 ∧ TmIs (There w) w vl #[b0, b1, b2, b3, b4, b5, b6, b7] ∧ vl.wt ≤ 1048576 ∧
     CtorsAt (There w) w cts cA ∧ cts.length ≤ cc ∧ cts.length ≤ 1048576 ∧ (∀ x, x ∈ cts → x.1.size + x.2.wt ≤ 1048576) := by
 obtain ⟨cs, rfl, hsz⟩ := okWide_struct Try.underlying30 hval
 obtain ⟨fuel, hf⟩ := hd
 obtain ⟨y0, y1, y2, y3, y4, y5, y6, n, rfl, hx, hl, g0, g1, g2, g3, g4, g5, g6⟩ := trods7 Try.underlying30 hf
 rw [cells_dc] at hl
 obtain ⟨l⟩ := cs
 obtain ⟨c0, c1, c2, a0, a1, a2, a3, a4, a5, a6, a7, b0, b1, b2, b3, b4, b5, b6, b7, c19, c20, rfl⟩ := list21 (l := l) hl
 simp only at hx
 subst hx
 simp only [Value.cells, cells_int, cells_str, cells_tm, cells_cts, List.drop_zero, List.drop_succ_cons, List.take_succ_cons, List.take_zero] at g0 g1 g2 g3 g4 g5 g6
 obtain ⟨z0, q0, _, v0⟩ := DataW.trod_int Try.underlying3 g0
 obtain ⟨s, q1, x1, v1⟩ := DataW.trod_string Try.underlying9 g1
 obtain ⟨z2, q2, _, v2⟩ := DataW.trod_int Try.underlying3 g2
 obtain ⟨z5, q5, _, v5⟩ := DataW.trod_int Try.underlying3 g5
 simp only [List.cons.injEq, and_true] at q0 q1 q2 q5
 subst q0 q1 q2 q5
 subst x1
 simp only [Rows.uptoBulk, Rows.uptoBulkAll] at hb
 have es : s.data.toList.length = s.size := by rw [Array.length_toList]; rfl
 rw [es] at hb
 obtain ⟨ty, hty, wty⟩ := open_tm n _ _ _ g3 (by omega)
 obtain ⟨vl, hvl, wvl⟩ := open_tm n _ _ _ g4 (by omega)
 obtain ⟨A, cap, l, rfl, e1, e2, e3, e4, e5⟩ := open_row (R := fun (x : ByteArray × Tm) cs => ∃ cs', cs = #[Value.string x.1] ++ cs' ∧ TmIs (There w) w x.2 cs' ∧ x.1.size ≤ 140737488351232) (f := fun x => x.1.size + x.2.wt) Try.underlying28 cells_ct (by decide) (fun m cs d ps hm h hb => open_ct m cs d ps h hb) g6 (by omega)
 refine ⟨z0, s, z2, z5, ty, vl, l, a0, a1, a2, a3, a4, a5, a6, a7, b0, b1, b2, b3, b4, b5, b6, b7, A, cap, rfl, int_in v0, by omega, int_in v2, int_in v5, hty, by omega, hvl, by omega, fun j x hj => ?_, e1, e2, fun x hx => ?_⟩
 · obtain ⟨a, cs, h1, h2, h3, cs', rfl, h4, _⟩ := e3 j x hj
   exact ⟨a, cs', h1, h2, h3, h4⟩
 have := e5 x hx; omega
end
end Go.Proofs.Ytiampoebdmflgaa
/- A shape is no greater than its declaration. -/
namespace Go.Proofs.Ytiampoebdmflgaa
open Go.RowKit
set_option linter.unusedVariables false
set_option maxHeartbeats 1000000
theorem trow_le_h (t : Tm) : (trow t).1.length ≤ t.height := by
 have := rowF_le t.height t []
 unfold trow
 simpa using this
theorem ctorF_le (nm : ByteArray) (p idx : Nat) (s : Tm) : ∀ (l : List Tm) (i : Nat) (sl : List (Int × Int)), (ctorF nm p idx s i sl l).1.2.length ≤ sl.length + l.length
 | [], i, sl => by rw [ctorF]; simp
 | a :: l, i, sl => by
  have h1 := ctorF_le nm p idx s l (i + 1) (sl ++ [((i : Int), ((trow a).1.length : Int))])
  have h2 := ctorF_le nm p idx s l (i + 1) sl
  rw [ctorF]
  simp only [List.length_append, List.length_cons, List.length_nil] at h1 ⊢
  split
  · split
    · simp
    split
    · simp
    split
    · simp
    omega
  omega
theorem tctor_le (nm : ByteArray) (p idx : Nat) (s : Tm) (ds : List Tm) (t : Tm) : (tctor nm p idx s ds t).1.2.length ≤ t.height := by
 have h1 := ctorF_le nm p idx s ((trow t).1.drop p) 0 []
 have h2 := trow_le_h t
 have h3 : ((trow t).1.drop p).length ≤ (trow t).1.length := by simp
 unfold tctor
 split
 · simp
 split
 · simp
 split
 · simp
 split
 · simp
 simp only [List.length_nil] at h1; omega
theorem ofF_len (f : Tm → CShape × Int) : ∀ (l : List (ByteArray × Tm)) (acc : List CShape), (ofF f l acc).1.length ≤ acc.length + l.length
 | [], acc => by rw [ofF]; simp
 | c :: l, acc => by
  have h1 := ofF_len f l (acc ++ [(f c.2).1])
  rw [ofF]
  simp only [List.length_append, List.length_cons, List.length_nil] at h1 ⊢
  split
  · omega
  simp
theorem ofF_mem (f : Tm → CShape × Int) : ∀ (l : List (ByteArray × Tm)) (acc : List CShape) (y : CShape), y ∈ (ofF f l acc).1 → y ∈ acc ∨ ∃ x, x ∈ l ∧ y = (f x.2).1
 | [], acc, y, h => by rw [ofF] at h; exact .inl h
 | c :: l, acc, y, h => by
  rw [ofF] at h
  split at h
  · rcases ofF_mem f l _ y h with h1 | ⟨x, hx, h2⟩
    · rcases List.mem_append.1 h1 with h1 | h1
      · exact .inl h1
      exact .inr ⟨c, List.mem_cons_self, by simpa using h1⟩
    exact .inr ⟨x, List.mem_cons_of_mem _ hx, h2⟩
  cases h
theorem tof_small (dk : Int) (nm : ByteArray) (vs pa : Int) (ty : Tm) (cts : List (ByteArray × Tm)) :
    (tof dk nm vs pa ty cts).1.2.2.length ≤ cts.length ∧ ∀ y, y ∈ (tof dk nm vs pa ty cts).1.2.2 → ∃ x, x ∈ cts ∧ y.2.length ≤ x.2.height := by
 have hz : zshape.2.2.length ≤ cts.length ∧ ∀ y, y ∈ zshape.2.2 → ∃ x, x ∈ cts ∧ y.2.length ≤ x.2.height := ⟨Nat.zero_le _, fun y h => by cases h⟩
 unfold tof
 split
 · exact hz
 split
 · exact hz
 split
 · refine ⟨by have := ofF_len (tctor nm pa.toNat ((trow ty).1.length - pa.toNat) (tself nm vs.toNat) (trow ty).1) cts []; simpa using this, fun y h => ?_⟩
   rcases ofF_mem _ _ _ _ h with h | ⟨x, hx, rfl⟩
   · cases h
   exact ⟨x, hx, tctor_le ..⟩
 exact hz
end Go.Proofs.Ytiampoebdmflgaa
/- A region that draws its order: what holds on the way may hang on which operations have come up. -/
namespace Go.Proofs.Ytiampoebdmflgaa
open Go.RowKit
set_option linter.unusedVariables false
section
variable {P : Program} {ops : Array Oper} {Q : Exit → Act → World → Prop} {md : Region.Mode}
def flags (Z : List Nat) (listed : Array Bool) : List Bool := Z.map fun z => listed.getD z false
theorem flags_set {Z : List Nat} {i : Nat} (h : Z.contains i = false) (listed : Array Bool) : flags Z (listed.setIfInBounds i true) = flags Z listed := by
 unfold flags
 refine List.map_congr_left fun z hz => ?_
 have : i ≠ z := fun e => by
  subst e
  rw [List.contains_iff_mem.2 hz] at h
  cases h
 exact getD_set_ne false this
def wpAnyS (P : Program) (md : Region.Mode) (ops : Array Oper) (Q : Exit → Act → World → Prop) (Z : List Nat) (F : List Bool → World → Prop) : Nat → Array Bool → Act → World → Prop
 | 0, listed, a, w => Region.ready md ops listed = [] ∧ Q .normal a w
 | fuel + 1, listed, a, w =>
  (Region.ready md ops listed = [] → Q .normal a w) ∧
  ∀ i ∈ Region.ready md ops listed, wpOp P ops Q i (fun a' w' => F (flags Z (listed.setIfInBounds i true)) w' ∧ wpAnyS P md ops Q Z F fuel (listed.setIfInBounds i true) a' w') a w
variable {Z : List Nat} {F : List Bool → World → Prop}
theorem wpAny_of_S (Z : List Nat) (F : List Bool → World → Prop) : ∀ (fuel : Nat) (listed : Array Bool) (a : Act) (w : World), wpAnyS P md ops Q Z F fuel listed a w → wpAny P md ops Q fuel listed a w
 | 0, _, _, _, h => h
 | fuel + 1, _, _, _, h => ⟨h.1, fun i hi => wpOp_mono (fun a' w' h' => wpAny_of_S Z F fuel _ a' w' h'.2) (h.2 i hi)⟩
theorem unl {L : Array Bool} (hc : Closed md ops L) {z i : Nat} (l : List Nat) (hz : pathB md ops z l i = true) (h : L.getD i true = false) : L.getD z false = false := by
 cases hq : L.getD z false with
 | false => rfl
 | true => exact (getD_false_true h (path_listed hc l z hz fun o ho => hc z o ho hq)).elim
def allow (md : Region.Mode) (ops : Array Oper) (Z : List Nat) (F : List Bool → World → Prop) (i : Nat) : World → Prop := fun X => ∃ L : Array Bool, Closed md ops L ∧ L.getD i true = false ∧ F (flags Z L) X
theorem wpAnyS_first {i : Nat} {oi : Oper} {v : Value} (hi : ops[i]? = some oi) (hiZ : Z.contains i = false) (hsel : ∀ (j : Nat) (o : Oper) cs b, ops[j]? = some o → o.op ≠ .select cs b)
    (hQ : ∀ c a w, Q (.panic c) (a.put oi.dst v) w → Q (.panic c) a w) :
    ∀ (fuel : Nat) (listed : Array Bool) (a : Act) (w : World), Closed md ops listed →
     (∀ j oj, ops[j]? = some oj → j ≠ i → listed.getD j true = false → (∀ e ∈ oj.after, Region.binds md e = true → e.on ≠ i) → oi.apart ops oj = true) →
     i ∈ Region.ready md ops listed → YieldsIf P ops (allow md ops Z F i) oi v a → F (flags Z listed) w →
     wpAnyS P md ops Q Z F fuel (listed.setIfInBounds i true) (a.put oi.dst v) w → wpAnyS P md ops Q Z F (fuel + 1) listed a w := by
 intro fuel
 induction fuel with
 | zero =>
  intro listed a w hcl _ hr hy hS H
  refine ⟨fun h => (by rw [h] at hr; cases hr), fun j hj => ?_⟩
  have hun := (mem_ready.1 hr).1
  by_cases hji : j = i
  · subst hji; exact hy.wpOp hi ⟨listed, hcl, hun, hS⟩ ⟨by rw [flags_set hiZ]; exact hS, H⟩
  have := ready_mono hj hji
  rw [H.1] at this
  cases this
 | succ fuel ih =>
  intro listed a w hcl hfree hr hy hS H
  have hun := (mem_ready.1 hr).1
  refine ⟨fun h => (by rw [h] at hr; cases hr), fun j hj => ?_⟩
  by_cases hji : j = i
  · subst hji; exact hy.wpOp hi ⟨listed, hcl, hun, hS⟩ ⟨by rw [flags_set hiZ]; exact hS, H⟩
  have h1 := H.2 j (ready_mono hj hji)
  obtain ⟨hjun, oj, hoj, hall⟩ := mem_ready.1 hj
  have hnot : ∀ e ∈ oj.after, Region.binds md e = true → e.on ≠ i := fun e he hb heq => by
   have h1 := hall e he hb
   rw [heq] at h1
   exact getD_false_true hun h1
  have h2 := wpOp_putIf hoj (hfree j oj hoj hji hjun hnot) (fun cs b => hsel i oi cs b hi) (fun cs b => hsel j oj cs b hoj) hQ hy h1
  have hfree' : ∀ k ok, ops[k]? = some ok → k ≠ i → (listed.setIfInBounds j true).getD k true = false →
      (∀ e ∈ ok.after, Region.binds md e = true → e.on ≠ i) → oi.apart ops ok = true := fun k ok hk hki hun hno => by
   refine hfree k ok hk hki ?_ hno
   by_cases hjk : j = k
   · subst hjk; exact hjun
   rw [getD_set_ne true hjk] at hun; exact hun
  refine wpOp_mono (fun a' w' h3 => ?_) h2
  have hS' : F (flags Z (listed.setIfInBounds j true)) w' := by
   have := h3.2.1
   rw [Array.setIfInBounds_comm _ _ (Ne.symm hji), flags_set hiZ] at this
   exact this
  refine ⟨hS', ih (listed.setIfInBounds j true) a' w' (closed_set hcl hj) hfree' (ready_mono hr (Ne.symm hji)) h3.1 hS' ?_⟩
  rw [Array.setIfInBounds_comm _ _ hji]
  exact h3.2.2
def takesS (md : Region.Mode) (ops : Array Oper) (listed : Array Bool) (Z : List Nat) (i : Nat) : Bool :=
 !Z.contains i && Region.noSelect ops && Region.free md ops listed i && (Region.ready md ops listed).contains i && closedB md ops listed
theorem wpAnyS_take {i : Nat} {oi : Oper} {v : Value} {fuel : Nat} {listed : Array Bool} {a : Act} {w : World} (fl : List Bool) (hi : ops[i]? = some oi) (ht : (takesS md ops listed Z i && (flags Z listed == fl)) = true)
    (hQ : ∀ c a w, Q (.panic c) (a.put oi.dst v) w → Q (.panic c) a w) (hy : YieldsIf P ops (allow md ops Z F i) oi v a) (hS : F fl w)
    (h : wpAnyS P md ops Q Z F fuel (listed.setIfInBounds i true) (a.put oi.dst v) w) : wpAnyS P md ops Q Z F (fuel + 1) listed a w := by
 simp only [takesS, Bool.and_eq_true] at ht
 obtain ⟨⟨⟨⟨⟨h1, h3⟩, h4⟩, h5⟩, h6⟩, h7⟩ := ht
 obtain rfl : flags Z listed = fl := by simpa using h7
 exact wpAnyS_first hi (by simpa using h1) (Region.noSelect_spec h3) hQ fuel listed a w (closed_of h6) (Region.free_spec hi h4) (by simpa using h5) hy hS h
theorem sT (i : Nat) {oi : Oper} (v : Value) {fuel : Nat} {listed : Array Bool} {a : Act} {w : World} (fl : List Bool) (hi : ops[i]? = some oi) (ht : (takesS md ops listed Z i && (flags Z listed == fl)) = true) (hg : Region.wanted oi (yielded ops a.tmps) = true) (hr : ∀ X, allow md ops Z F i X → (execOp a.eval oi).run P X = .ok (.value v) X) (hS : F fl w)
 (h : wpAnyS P md ops (NoPanic Q) Z F fuel (listed.setIfInBounds i true) (a.put oi.dst v) w) : wpAnyS P md ops (NoPanic Q) Z F (fuel + 1) listed a w := wpAnyS_take fl hi ht (fun _ _ _ h => h) (.inl ⟨hg, hr⟩) hS h
theorem wpAnyS_one {i : Nat} {o : Oper} {fuel : Nat} {listed : Array Bool} {a : Act} {w : World} (fl : List Bool) (hr : (Region.ready md ops listed == [i] && flags Z (listed.setIfInBounds i true) == fl) = true) (ho : ops[i]? = some o) (hg : Region.wanted o (yielded ops a.tmps) = true)
    (h : ∀ K : Act → World → Prop, (∀ a' w', F fl w' → wpAnyS P md ops Q Z F fuel (listed.setIfInBounds i true) a' w' → K a' w') → o.wp P a w K Q) : wpAnyS P md ops Q Z F (fuel + 1) listed a w := by
 simp only [Bool.and_eq_true] at hr
 obtain ⟨hr, hfl⟩ := hr
 have hr : Region.ready md ops listed = [i] := by simpa using hr
 obtain rfl : flags Z (listed.setIfInBounds i true) = fl := by simpa using hfl
 refine ⟨fun h => (by rw [hr] at h; cases h), fun j hj => ?_⟩
 obtain rfl : j = i := by rw [hr] at hj; simpa using hj
 unfold wpOp
 rw [ho]
 simp only [hg, if_true]
 exact .inl (h _ fun a' w' h1 h2 => ⟨h1, h2⟩)
theorem wpAnyS_done {fuel : Nat} {listed : Array Bool} {a : Act} {w : World} (hr : Region.ready md ops listed = []) (h : Q .normal a w) : wpAnyS P md ops Q Z F fuel listed a w := by
 cases fuel with
 | zero => exact ⟨hr, h⟩
 | succ fuel => exact ⟨fun _ => h, fun i hi => by rw [hr] at hi; cases hi⟩
end
end Go.Proofs.Ytiampoebdmflgaa
/- The reference's May of levels. -/
namespace Go.Proofs.Ytiampoebdmflgaa
open Go.RowKit
set_option linter.unusedVariables false
set_option maxRecDepth 100000
set_option maxHeartbeats 8000000
set_option linter.unusedSimpArgs false
mutual
def Lv.wf (vars : Int) : Lv → Bool
 | .mk k n ks => decide (0 ≤ lar k) && decide ((ks.length : Int) = lar k) && (decide (k ≠ 1) || decide (0 ≤ n ∧ n ≤ 1048576)) && (decide (k ≠ 2) || decide (0 ≤ n ∧ n < vars)) && (decide (k ≠ 3) || decide (1 ≤ n ∧ n ≤ 1048576)) && Lv.wfs vars ks
def Lv.wfs (vars : Int) : List Lv → Bool
 | [] => true
 | l :: ls => Lv.wf vars l && Lv.wfs vars ls
end
mutual
def Lv.nodes : Lv → Nat
 | .mk _ _ ks => Lv.nodess ks + 1
def Lv.nodess : List Lv → Nat
 | [] => 0
 | l :: ls => Lv.nodes l + Lv.nodess ls
end
theorem wfs_app (v : Int) (a b : List Lv) : Lv.wfs v (a ++ b) = (Lv.wfs v a && Lv.wfs v b) := by
 induction a with
 | nil => simp [Lv.wfs]
 | cons x a ih => simp [Lv.wfs, ih, Bool.and_assoc]
theorem nodess_app (a b : List Lv) : Lv.nodess (a ++ b) = Lv.nodess a + Lv.nodess b := by
 induction a with
 | nil => simp [Lv.nodess]
 | cons x a ih => simp [Lv.nodess, ih]; omega
def LMayR (v : Int) (l : Lv) (nb : Nat) (n : Int) (w : World) (r : Int) (w' : World) : Prop := ∃ n' : Int, Blk w' nb 3 #[.int .i64 n'] ∧ Upd (fun q => q = nb) w w' ∧ 0 ≤ n' ∧ n' ≤ 1001 ∧ (r = 0 → l.wf v = true ∧ n' = n + l.nodes ∧ n' ≤ 100)
def LMayC (l : Lv) : Prop := ∀ (cs : Array Value) (D : Nat → Prop) (w : World) (vars depth n : Int) (nb : Nat), Within D w → LvIs D w l cs → ¬ D nb → Blk w nb 3 #[.int .i64 n] → 0 ≤ n → n ≤ 1000 → 0 ≤ depth → depth ≤ 1000 →
 Calls Try.prog 92 #[.agg cs, .int .i64 vars, .int .i64 depth, .pointer (some ⟨nb, 0, none⟩)] w fun e w' => ∃ r : Int, e = .returned (.int .i64 r) ∧ LMayR vars l nb n w r w'
theorem lmay_any (l : Lv) : LMayC l := by
 induction l using Lv.ind with
 | h k N ks ih =>
  intro cs D w vars depth n nb hD hl hnb hb hn0 hn1 hd0 hd1
  obtain ⟨A, c, rfl, hk, hN, hks1, hks⟩ := (by simpa only [LvIs] using hl : ∃ A c, cs = #[.int .i64 k, .int .i64 N, .slice A ks.length c] ∧ InI k ∧ InI N ∧ (ks.length * 40 ≤ 140737488351232 ∧ ks.length ≤ c) ∧ LvsAt D w ks A 0)
  have hnl : nb < w.heap.size := hb.lt
  have hwr : wrap64 (n + 1) = n + 1 := by unfold wrap64; omega
  obtain ⟨W1, hW1⟩ : ∃ W, w.setCell ⟨nb, 0, none⟩ (.int .i64 (n + 1)) = W := ⟨_, rfl⟩
  have hu1 : Upd (fun q => q = nb) w W1 := by rw [← hW1]; exact (Upd.refl (fun q => q = nb) w).setCell (.inl rfl) _
  have hb1 : Blk W1 nb 3 #[.int .i64 (n + 1)] := by rw [← hW1]; exact hb.set 0 _
  have hs1 : W1.heap.size = w.heap.size := by rw [← hW1]; simp
  obtain ⟨W2, hW2⟩ : ∃ W, W1.alloc (.cells #[.int .i64 k, .int .i64 N, .slice A ks.length c] 24) = W := ⟨_, rfl⟩
  have hu2 : Upd nob W1 W2 := by rw [← hW2]; exact (Upd.refl nob W1).alloc _
  have hb2 : Blk W2 w.heap.size 24 #[.int .i64 k, .int .i64 N, .slice A ks.length c] := by rw [← hW2, ← hs1]; exact Blk.new W1 _ _
  have hb2n := hb1.upd hu2 (fun f => f)
  have hu02 : Upd (fun q => q = nb) w W2 := hu1.trans (hu2.mono (fun _ f => f.elim))
  have q0 : w.cell? ⟨nb, 0, none⟩ = some (.int .i64 n) := hb.cell 0
  have qf := hb.frozen 0
  have s0 : W2.cell? ⟨w.heap.size, 0, none⟩ = some (.int .i64 k) := hb2.cell 0
  have s1 : W2.cell? ⟨w.heap.size, 1, none⟩ = some (.int .i64 N) := hb2.cell 1
  have s2 : W2.cell? ⟨w.heap.size, 2, none⟩ = some (.slice A ks.length c) := hb2.cell 2
  have sl : w.heap.size < W2.heap.size := hb2.lt
  have HB2N := Lib.hid hb2n
  have HB2 := Lib.hid hb2
  have HU02 := Lib.hid hu02
  have HW2 := Lib.hid (show (w.setCell ⟨nb, 0, none⟩ (.int .i64 (n + 1))).alloc (.cells #[.int .i64 k, .int .i64 N, .slice A ks.length c] 24) = W2 by rw [hW1]; exact hW2)
  have q2 : ((w.setCell ⟨nb, 0, none⟩ (.int .i64 (n + 1))).alloc (.cells #[.int .i64 k, .int .i64 N, .slice A ks.length c] 24)).cell? ⟨nb, 0, none⟩ = some (.int .i64 (n + 1)) := by rw [HW2.out]; exact hb2n.cell 0
  have HKS := Lib.hid hks
  clear hW1 hW2 hb1 hb2n hb2 hl hb hu1 hu2 hu02 hks hs1
  by_cases a1 : 32 < depth
  · have t1 : decide (32 < depth) = true := by simp [a1]
    clear s0 s1 s2 sl
    go_enter Try.func92, Try.ntmps92
    go_wp2_with fail
    rw [HW2.out]
    go_ret
    exact ⟨2, rfl, n + 1, HB2N.out, HU02.out, by omega, by omega, fun h => by cases h⟩
  have t1 : decide (32 < depth) = false := by simp [a1]
  by_cases a2 : 100 < n + 1
  · have t2 : decide (100 < n + 1) = true := by simp [a2]
    clear s0 s1 s2 sl
    go_enter Try.func92, Try.ntmps92
    go_wp2_with fail
    rw [HW2.out]
    go_ret
    exact ⟨2, rfl, n + 1, HB2N.out, HU02.out, by omega, by omega, fun h => by cases h⟩
  have t2 : decide (100 < n + 1) = false := by simp [a2]
  go_enter Try.func92, Try.ntmps92
  go_wp2_with fail
  rw [HW2.out]
  clear q0 qf q2
  by_cases b1 : lar k < 0
  · have t3 : decide (lar k < 0) = true := by simp [b1]
    refine wp_region_P (by kernel_rfl) ?_
    refine wpAny_of_S [] (fun _ X => X = W2.drew) _ _ _ _ ?_
    have hS : W2.drew = W2.drew := rfl
    refine sT 0 ?_ [] rfl (by kernel_rfl) (by rfl) ?_ hS ?_
    rotate_left
    · rintro wx ⟨L, hL, hun, hx⟩
      obtain rfl := hx
      have hx := True.intro
      clear hx hL hun
      go_simp
      with_reducible rfl
    try simp only [tl]
    refine sT 1 ?_ [] rfl (by kernel_rfl) (by rfl) ?_ hS ?_
    rotate_left
    · rintro wx ⟨L, hL, hun, hx⟩
      obtain rfl := hx
      have hx := True.intro
      have q : W2.drew.cell? ⟨w.heap.size, 0, none⟩ = some (.int .i64 k) := s0
      clear hx hL hun
      go_simp
      with_reducible rfl
    try simp only [tl]
    refine wpAnyS_one (i := 2) [] (by kernel_rfl) rfl (by rfl) fun K hK => ?_
    go_simp
    refine (rarity_any k W2.drew).mono ?_
    rintro e w' ⟨rfl, hw'⟩
    subst hw'
    refine hK _ _ rfl ?_
    clear hK K; try simp only [tl]
    refine sT 3 ?_ [] rfl (by kernel_rfl) (by rfl) ?_ hS ?_
    rotate_left
    · rintro wx ⟨L, hL, hun, hx⟩
      obtain rfl := hx
      have hx := True.intro
      clear hx hL hun
      go_simp
      with_reducible rfl
    try simp only [tl]
    refine sT 4 ?_ [] rfl (by kernel_rfl) (by rfl) ?_ hS ?_
    rotate_left
    · rintro wx ⟨L, hL, hun, hx⟩
      obtain rfl := hx
      have hx := True.intro
      clear hx hL hun
      go_simp
      with_reducible rfl
    try simp only [tl]
    refine wpAnyS_take (i := 5) (v := undef) [] rfl (by kernel_rfl) (fun _ _ _ h => h) (Or.inr ⟨by rfl, rfl⟩) hS ?_
    try simp only [tl]
    refine wpAnyS_take (i := 6) (v := undef) [] rfl (by kernel_rfl) (fun _ _ _ h => h) (Or.inr ⟨by rfl, rfl⟩) hS ?_
    try simp only [tl]
    refine wpAnyS_take (i := 7) (v := undef) [] rfl (by kernel_rfl) (fun _ _ _ h => h) (Or.inr ⟨by rfl, rfl⟩) hS ?_
    try simp only [tl]
    refine wpAnyS_take (i := 8) (v := undef) [] rfl (by kernel_rfl) (fun _ _ _ h => h) (Or.inr ⟨by rfl, rfl⟩) hS ?_
    try simp only [tl]
    refine wpAnyS_take (i := 9) (v := undef) [] rfl (by kernel_rfl) (fun _ _ _ h => h) (Or.inr ⟨by rfl, rfl⟩) hS ?_
    try simp only [tl]
    refine wpAnyS_take (i := 10) (v := undef) [] rfl (by kernel_rfl) (fun _ _ _ h => h) (Or.inr ⟨by rfl, rfl⟩) hS ?_
    try simp only [tl]
    refine wpAnyS_take (i := 11) (v := undef) [] rfl (by kernel_rfl) (fun _ _ _ h => h) (Or.inr ⟨by rfl, rfl⟩) hS ?_
    try simp only [tl]
    refine sT 12 ?_ [] rfl (by kernel_rfl) (by rfl) ?_ hS ?_
    rotate_left
    · rintro wx ⟨L, hL, hun, hx⟩
      obtain rfl := hx
      have hx := True.intro
      clear hx hL hun
      go_simp
      with_reducible rfl
    try simp only [tl]
    refine wpAnyS_one (i := 13) [] (by kernel_rfl) rfl (by rfl) fun K hK => ?_
    go_simp
    refine hK _ _ rfl ?_
    clear hK K; try simp only [tl]
    refine wpAnyS_done (by kernel_rfl) ?_
    refine NoPanic.normal ?_
    go_wp2_with fail
    go_ret
    exact ⟨1, rfl, n + 1, HB2N.out, HU02.out.drew, by omega, by omega, fun h => by cases h⟩
  have t3 : decide (lar k < 0) = false := by simp; omega
  by_cases b2 : (ks.length : Int) = lar k
  · have hlar : lar k = (ks.length : Int) := b2.symm
    have HBB := Lib.hid b2
    have HB1 := Lib.hid b1
    have t4 : decide ((ks.length : Int) < 0) = false := by simp
    clear b1 b2 t3
    refine wp_region_P (by kernel_rfl) ?_
    refine wpAny_of_S [] (fun _ X => X = W2.drew) _ _ _ _ ?_
    have hS : W2.drew = W2.drew := rfl
    refine sT 0 ?_ [] rfl (by kernel_rfl) (by rfl) ?_ hS ?_
    rotate_left
    · rintro wx ⟨L, hL, hun, hx⟩
      obtain rfl := hx
      have hx := True.intro
      clear hx hL hun
      go_simp
      with_reducible rfl
    try simp only [tl]
    refine sT 1 ?_ [] rfl (by kernel_rfl) (by rfl) ?_ hS ?_
    rotate_left
    · rintro wx ⟨L, hL, hun, hx⟩
      obtain rfl := hx
      have hx := True.intro
      have q : W2.drew.cell? ⟨w.heap.size, 0, none⟩ = some (.int .i64 k) := s0
      clear hx hL hun
      go_simp
      with_reducible rfl
    try simp only [tl]
    refine wpAnyS_one (i := 2) [] (by kernel_rfl) rfl (by rfl) fun K hK => ?_
    go_simp
    refine (rarity_any k W2.drew).mono ?_
    rintro e w' ⟨rfl, hw'⟩
    subst hw'
    refine hK _ _ rfl ?_
    clear hK K; try simp only [tl]
    refine sT 3 ?_ [] rfl (by kernel_rfl) (by rfl) ?_ hS ?_
    rotate_left
    · rintro wx ⟨L, hL, hun, hx⟩
      obtain rfl := hx
      have hx := True.intro
      clear hx hL hun
      go_simp
      with_reducible rfl
    try simp only [tl]
    refine sT 4 ?_ [] rfl (by kernel_rfl) (by rfl) ?_ hS ?_
    rotate_left
    · rintro wx ⟨L, hL, hun, hx⟩
      obtain rfl := hx
      have hx := True.intro
      clear hx hL hun
      go_simp
      with_reducible rfl
    try simp only [tl]
    refine sT 5 ?_ [] rfl (by kernel_rfl) (by rfl) ?_ hS ?_
    rotate_left
    · rintro wx ⟨L, hL, hun, hx⟩
      obtain rfl := hx
      have hx := True.intro
      clear hx hL hun
      go_simp
      with_reducible rfl
    try simp only [tl]
    refine sT 6 ?_ [] rfl (by kernel_rfl) (by rfl) ?_ hS ?_
    rotate_left
    · rintro wx ⟨L, hL, hun, hx⟩
      obtain rfl := hx
      have hx := True.intro
      have q : W2.drew.cell? ⟨w.heap.size, 2, none⟩ = some (.slice A ks.length c) := s2
      clear hx hL hun
      go_simp
      with_reducible rfl
    try simp only [tl]
    refine sT 7 ?_ [] rfl (by kernel_rfl) (by rfl) ?_ hS ?_
    rotate_left
    · rintro wx ⟨L, hL, hun, hx⟩
      obtain rfl := hx
      have hx := True.intro
      clear hx hL hun
      go_simp
      with_reducible rfl
    try simp only [tl]
    refine sT 8 ?_ [] rfl (by kernel_rfl) (by rfl) ?_ hS ?_
    rotate_left
    · rintro wx ⟨L, hL, hun, hx⟩
      obtain rfl := hx
      have hx := True.intro
      clear hx hL hun
      go_simp
      with_reducible rfl
    try simp only [tl]
    refine sT 9 ?_ [] rfl (by kernel_rfl) (by rfl) ?_ hS ?_
    rotate_left
    · rintro wx ⟨L, hL, hun, hx⟩
      obtain rfl := hx
      have hx := True.intro
      have q : W2.drew.cell? ⟨w.heap.size, 0, none⟩ = some (.int .i64 k) := s0
      clear hx hL hun
      go_simp
      with_reducible rfl
    try simp only [tl]
    refine wpAnyS_one (i := 10) [] (by kernel_rfl) rfl (by rfl) fun K hK => ?_
    go_simp
    refine (rarity_any k W2.drew).mono ?_
    rintro e w' ⟨rfl, hw'⟩
    subst hw'
    refine hK _ _ rfl ?_
    clear hK K; try simp only [tl]
    refine sT 11 ?_ [] rfl (by kernel_rfl) (by rfl) ?_ hS ?_
    rotate_left
    · rintro wx ⟨L, hL, hun, hx⟩
      obtain rfl := hx
      have hx := True.intro
      clear hx hL hun
      go_simp
      with_reducible rfl
    try simp only [tl]
    refine sT 12 ?_ [] rfl (by kernel_rfl) (by rfl) ?_ hS ?_
    rotate_left
    · rintro wx ⟨L, hL, hun, hx⟩
      obtain rfl := hx
      have hx := True.intro
      clear hx hL hun
      go_simp
      with_reducible rfl
    try simp only [tl]
    refine wpAnyS_one (i := 13) [] (by kernel_rfl) rfl (by rfl) fun K hK => ?_
    go_simp
    refine hK _ _ rfl ?_
    clear hK K; try simp only [tl]
    refine wpAnyS_done (by kernel_rfl) ?_
    refine NoPanic.normal ?_
    go_wp2_with fail
    all_goals first
     | (go_ret; exact ⟨_, rfl, n + 1, HB2N.out, HU02.out.drew, by omega, by omega, fun h => absurd h (by decide)⟩)
     | skip
    all_goals
     obtain ⟨M, hM⟩ : ∃ M, ks.length = M := ⟨_, rfl⟩
     have HM := Lib.hid hM
     have hdd : wrap64 (depth + 1) = depth + 1 := by unfold wrap64; omega
     try clear hlar
     try clear t4
     rw [hM] at hks1 ⊢
     clear hM
     go_loopg [87] M (fun q v87 wr => ∃ (j : Nat) (nn : Int), j + q = M ∧ v87 = .int .i64 j ∧ Blk wr nb 3 #[.int .i64 nn] ∧ Upd (fun q => q = nb) w wr ∧ 0 ≤ nn ∧ nn ≤ 100 ∧ Lv.wfs vars (ks.take j) = true ∧ nn = n + 1 + Lv.nodess (ks.take j) ∧ w.heap.size + 1 ≤ wr.heap.size)
     case atStart => exact ⟨0, n + 1, by omega, rfl, HB2N.out, HU02.out.drew, by omega, by omega, by simp [Lv.wfs], by simp [Lv.nodess], sl⟩
     case round =>
      obtain ⟨j, nn, hj, rfl, hbr, hur, hn2, hn3, hwf, hnd, hsz⟩ := hrel
      have HBR := Lib.hid hbr
      have hrl := hbr.lt
      have hoD : Old D w wr := Old.of_upd hur (fun q hq => ⟨fun h => by have h : q = nb := h; subst h; exact hnb hq, hD q hq⟩)
      clear hbr
      by_cases hlt : j < M
      · have t5 : decide ((j : Int) < M) = true := by simp [hlt]
        have hjl : j < ks.length := by have := HM.out; omega
        obtain ⟨a, ccs, hA, hab, hrow, hll⟩ := (HKS.out.old hoD (fun _ h => h)).at_ (List.getElem?_eq_getElem hjl)
        rw [Nat.zero_add] at hrow
        have HLL := Lib.hid hll
        obtain ⟨p, q, B, m, d, rfl⟩ := hll.lit3
        have HA := Lib.hid hA
        clear hA hll
        go_wp2_with (first
         | ((with_reducible refine this_op (.indexAddr 22 (.tmp 85) (.tmp 87)) ?_); refine wpList_index_at rfl 22 (.tmp 85) (.tmp 87) rfl _ a _ _ rfl HA.out j rfl hlt 24 Try.underlying22 3 lv_size ?_)
         | ((with_reducible refine this_op (.load 24 (.tmp 89)) ?_); refine wpList_at rfl 24 (.tmp 89) rfl (a.add (j * 3)) rfl _ _ hrow Try.underlying24 rfl lv_size ?_)
         | ((with_reducible refine this_op (.store 24 (.tmp 10) (.tmp 90)) ?_); refine wpList_store_row rfl 24 (.tmp 10) (.tmp 90) rfl wr.heap.size _ rfl rfl 24 _ (Blk.new wr _ _) lv_size rfl (by simp [Value.oneCell']) ?_
            obtain ⟨W4, hW4⟩ : ∃ W, (wr.alloc (.cells #[.int .i64 0, .int .i64 0, .slice none 0 0] 24)).setRow wr.heap.size #[.int .i64 p, .int .i64 q, .slice B m d] = W := ⟨_, rfl⟩
            have hu4 : Upd nob wr W4 := by rw [← hW4]; exact ((Upd.refl nob wr).alloc _).setRow (.inr (Nat.le_refl _)) _
            have hb4 : Blk W4 wr.heap.size 24 #[.int .i64 p, .int .i64 q, .slice B m d] := by rw [← hW4]; exact (Blk.new wr _ _).row _
            rw [hW4]
            clear hW4
            have hz4 : wr.heap.size + 1 ≤ W4.heap.size := hb4.lt
            have r4 := hb4.rowAt
            have HB4 := Lib.hid (HBR.out.upd hu4 (fun f => f))
            clear hb4)
         | ((with_reducible refine this_op (.load 24 (.tmp 10)) ?_); refine wpList_at rfl 24 (.tmp 10) rfl ⟨wr.heap.size, 0, none⟩ rfl _ _ r4 Try.underlying24 rfl lv_size ?_))
        refine (ih ks[j] (List.getElem_mem _) _ D W4 vars (depth + 1) nn nb (fun q hq => by have := hD q hq; omega) (HLL.out.old (Old.of_upd hu4 (fun q hq => ⟨fun f => f, by have := hD q hq; omega⟩)) (fun _ h => h)) hnb HB4.out hn2 (by omega) (by omega) (by omega)).mono ?_
        rintro e w5 ⟨r, rfl, n5, hb5, hu5, h50, h51, h5r⟩
        have hur5 : Upd (fun q => q = nb) w w5 := (hur.trans (hu4.mono (fun _ f => f.elim))).trans hu5
        have HB5 := Lib.hid hb5
        have H5R := Lib.hid h5r
        clear hb5 r4 h5r
        by_cases hr0 : r = 0
        · have h := H5R.out hr0
          subst hr0
          go_wp2_with fail
          go_roundg (gk - 1)
          case measure => omega
          case rel =>
           refine ⟨j + 1, n5, by omega, by go_num, HB5.out, hur5, by omega, h.2.2, ?_, ?_, by have := hu4.size; have := hu5.size; omega⟩
           · rw [List.take_succ_eq_append_getElem hjl, wfs_app, hwf]; simp [Lv.wfs, h.1]
           rw [List.take_succ_eq_append_getElem hjl, nodess_app]; have := h.2.1; have e : Lv.nodess [ks[j]] = Lv.nodes ks[j] := by simp [Lv.nodess]
           omega
        have t6 : decide (r = 0) = false := by simp [hr0]
        go_wp2_with fail
        go_ret
        exact ⟨_, rfl, n5, HB5.out, hur5, by omega, by omega, fun h => absurd h hr0⟩
      have t5 : decide ((j : Int) < M) = false := by simp; omega
      have hjM : ks.take j = ks := by rw [List.take_of_length_le]; have := HM.out; omega
      rw [hjM] at hwf hnd
      go_wp2_with fail
      go_ret
      refine ⟨_, rfl, nn, HBR.out, hur, by omega, by omega, fun _ => ⟨?_, ?_, hn3⟩⟩
      · have h1 := HBB.out
        have h2 := HB1.out
        rw [Lv.wf, hwf]
        simp
        omega
      rw [Lv.nodes]
      omega
  have t4 : ((ks.length : Int) != lar k) = true := by simp [b2]
  refine wp_region_P (by kernel_rfl) ?_
  refine wpAny_of_S [] (fun _ X => X = W2.drew) _ _ _ _ ?_
  have hS : W2.drew = W2.drew := rfl
  refine sT 0 ?_ [] rfl (by kernel_rfl) (by rfl) ?_ hS ?_
  rotate_left
  · rintro wx ⟨L, hL, hun, hx⟩
    obtain rfl := hx
    have hx := True.intro
    clear hx hL hun
    go_simp
    with_reducible rfl
  try simp only [tl]
  refine sT 1 ?_ [] rfl (by kernel_rfl) (by rfl) ?_ hS ?_
  rotate_left
  · rintro wx ⟨L, hL, hun, hx⟩
    obtain rfl := hx
    have hx := True.intro
    have q : W2.drew.cell? ⟨w.heap.size, 0, none⟩ = some (.int .i64 k) := s0
    clear hx hL hun
    go_simp
    with_reducible rfl
  try simp only [tl]
  refine wpAnyS_one (i := 2) [] (by kernel_rfl) rfl (by rfl) fun K hK => ?_
  go_simp
  refine (rarity_any k W2.drew).mono ?_
  rintro e w' ⟨rfl, hw'⟩
  subst hw'
  refine hK _ _ rfl ?_
  clear hK K; try simp only [tl]
  refine sT 3 ?_ [] rfl (by kernel_rfl) (by rfl) ?_ hS ?_
  rotate_left
  · rintro wx ⟨L, hL, hun, hx⟩
    obtain rfl := hx
    have hx := True.intro
    clear hx hL hun
    go_simp
    with_reducible rfl
  try simp only [tl]
  refine sT 4 ?_ [] rfl (by kernel_rfl) (by rfl) ?_ hS ?_
  rotate_left
  · rintro wx ⟨L, hL, hun, hx⟩
    obtain rfl := hx
    have hx := True.intro
    clear hx hL hun
    go_simp
    with_reducible rfl
  try simp only [tl]
  refine sT 5 ?_ [] rfl (by kernel_rfl) (by rfl) ?_ hS ?_
  rotate_left
  · rintro wx ⟨L, hL, hun, hx⟩
    obtain rfl := hx
    have hx := True.intro
    clear hx hL hun
    go_simp
    with_reducible rfl
  try simp only [tl]
  refine sT 6 ?_ [] rfl (by kernel_rfl) (by rfl) ?_ hS ?_
  rotate_left
  · rintro wx ⟨L, hL, hun, hx⟩
    obtain rfl := hx
    have hx := True.intro
    have q : W2.drew.cell? ⟨w.heap.size, 2, none⟩ = some (.slice A ks.length c) := s2
    clear hx hL hun
    go_simp
    with_reducible rfl
  try simp only [tl]
  refine sT 7 ?_ [] rfl (by kernel_rfl) (by rfl) ?_ hS ?_
  rotate_left
  · rintro wx ⟨L, hL, hun, hx⟩
    obtain rfl := hx
    have hx := True.intro
    clear hx hL hun
    go_simp
    with_reducible rfl
  try simp only [tl]
  refine sT 8 ?_ [] rfl (by kernel_rfl) (by rfl) ?_ hS ?_
  rotate_left
  · rintro wx ⟨L, hL, hun, hx⟩
    obtain rfl := hx
    have hx := True.intro
    clear hx hL hun
    go_simp
    with_reducible rfl
  try simp only [tl]
  refine sT 9 ?_ [] rfl (by kernel_rfl) (by rfl) ?_ hS ?_
  rotate_left
  · rintro wx ⟨L, hL, hun, hx⟩
    obtain rfl := hx
    have hx := True.intro
    have q : W2.drew.cell? ⟨w.heap.size, 0, none⟩ = some (.int .i64 k) := s0
    clear hx hL hun
    go_simp
    with_reducible rfl
  try simp only [tl]
  refine wpAnyS_one (i := 10) [] (by kernel_rfl) rfl (by rfl) fun K hK => ?_
  go_simp
  refine (rarity_any k W2.drew).mono ?_
  rintro e w' ⟨rfl, hw'⟩
  subst hw'
  refine hK _ _ rfl ?_
  clear hK K; try simp only [tl]
  refine sT 11 ?_ [] rfl (by kernel_rfl) (by rfl) ?_ hS ?_
  rotate_left
  · rintro wx ⟨L, hL, hun, hx⟩
    obtain rfl := hx
    have hx := True.intro
    clear hx hL hun
    go_simp
    with_reducible rfl
  try simp only [tl]
  refine sT 12 ?_ [] rfl (by kernel_rfl) (by rfl) ?_ hS ?_
  rotate_left
  · rintro wx ⟨L, hL, hun, hx⟩
    obtain rfl := hx
    have hx := True.intro
    clear hx hL hun
    go_simp
    with_reducible rfl
  try simp only [tl]
  refine wpAnyS_one (i := 13) [] (by kernel_rfl) rfl (by rfl) fun K hK => ?_
  go_simp
  refine hK _ _ rfl ?_
  clear hK K; try simp only [tl]
  refine wpAnyS_done (by kernel_rfl) ?_
  refine NoPanic.normal ?_
  go_wp2_with fail
  go_ret
  exact ⟨1, rfl, n + 1, HB2N.out, HU02.out.drew, by omega, by omega, fun h => by cases h⟩
end Go.Proofs.Ytiampoebdmflgaa
/- The reference's May of terms. -/
namespace Go.Proofs.Ytiampoebdmflgaa
open Go.RowKit
set_option linter.unusedVariables false
set_option maxRecDepth 100000
set_option maxHeartbeats 8000000
set_option linter.unusedSimpArgs false
theorem lmay_top (l : Lv) (cs : Array Value) (D : Nat → Prop) (w : World) (vars : Int) (hD : Within D w) (hl : LvIs D w l cs) :
    Calls Try.prog 71 #[.agg cs, .int .i64 vars] w fun e w' => ∃ r : Int, e = .returned (.int .i64 r) ∧ (r = 0 → l.wf vars = true ∧ l.nodes ≤ 100) ∧ Upd nob w w' := by
 obtain ⟨p, q, B, m, d, rfl⟩ := hl.lit3
 obtain ⟨W1, hW1⟩ : ∃ W, (w.alloc (.cells #[.int .i64 p, .int .i64 q, .slice B m d] 24)).alloc (.cells #[.int .i64 0] 3) = W := ⟨_, rfl⟩
 have hu1 : Upd nob w W1 := by rw [← hW1]; exact ((Upd.refl nob w).alloc _).alloc _
 have hb1 : Blk W1 w.heap.size 24 #[.int .i64 p, .int .i64 q, .slice B m d] := by rw [← hW1]; exact (Blk.new w _ _).alloc _
 have hb2 : Blk W1 (w.heap.size + 1) 3 #[.int .i64 0] := by
  rw [← hW1]
  have h := Blk.new (w.alloc (.cells #[.int .i64 p, .int .i64 q, .slice B m d] 24)) 3 #[.int .i64 0]
  rw [World.size_alloc] at h
  exact h
 have r0 := hb1.rowAt
 have HB2 := Lib.hid hb2
 have HL1 := Lib.hid (hl.old (hD.old hu1) (fun _ h => h))
 rw [← hW1] at r0
 have HW1 := Lib.hid hW1
 clear hW1 hb1 hb2 hl
 go_enter Try.func71, Try.ntmps71
 go_wp2_with (first
  | ((with_reducible refine this_op (.load 24 (.tmp 2)) ?_); refine wpList_at rfl 24 (.tmp 2) rfl ⟨w.heap.size, 0, none⟩ rfl _ _ r0 Try.underlying24 rfl lv_size ?_))
 rw [HW1.out]
 refine (lmay_any l _ D W1 vars 1 0 (w.heap.size + 1) (hD.up hu1) HL1.out (fun h => by have := hD _ h; omega) HB2.out (by omega) (by omega) (by omega) (by omega)).mono ?_
 rintro e w2 ⟨r, rfl, n', hb, hu, _, _, hr⟩
 have HR := Lib.hid hr
 clear hr
 go_wp2_with fail
 go_ret
 exact ⟨r, rfl, fun h => ⟨(HR.out h).1, by have := HR.out h; omega⟩, hu1.trans' hu (fun q hq h => by have h : q = w.heap.size + 1 := h; omega)⟩
def BoolR (e : Ending) (w w' : World) : Prop := (∃ b : Bool, e = .returned (.bool b)) ∧ w = w'
theorem name_any (s : ByteArray) (w : World) (hs : s.size ≤ 140737488351232) : Calls Try.prog 72 #[.string s] w fun e w' => BoolR e w w' := by
 go_enter Try.func72, Try.ntmps72
 go_wp2_with fail
 go_loopg [8] s.size (fun k v8 wr => ∃ j : Nat, j + k = s.size ∧ v8 = .int .i64 j ∧ w = wr)
 case atStart => exact ⟨0, by omega, rfl, rfl⟩
 case round =>
  obtain ⟨j, hj, rfl, rfl⟩ := hrel
  by_cases hlt : j < s.size
  · have t2 : decide ((j : Int) < s.size) = true := by simp [hlt]
    rcases Nat.eq_zero_or_pos j with rfl | hpos
    · go_wp2_with fail
      all_goals first
       | (go_ret; exact ⟨⟨_, rfl⟩, rfl⟩)
       | (go_roundg (gk - 1)
          case measure => omega
          case rel => exact ⟨1, by omega, by go_num, rfl⟩)
    have t3 : ((j : Int) == 0) = false := by simp; omega
    go_wp2_with fail
    all_goals first
     | (go_ret; exact ⟨⟨_, rfl⟩, rfl⟩)
     | (go_roundg (gk - 1)
        case measure => omega
        case rel => exact ⟨j + 1, by omega, by go_num, rfl⟩)
  have t2 : decide ((j : Int) < s.size) = false := by simp; omega
  go_wp2_with fail
  all_goals (go_ret; exact ⟨⟨_, rfl⟩, rfl⟩)
end Go.Proofs.Ytiampoebdmflgaa
/- term.Size, fits, lift, Lift, ownTerm. -/
namespace Go.Proofs.Ytiampoebdmflgaa
open Go.RowKit
set_option linter.unusedVariables false
set_option maxRecDepth 100000
set_option maxHeartbeats 4000000
set_option linter.unusedSimpArgs false
theorem TmIs.lit8 {D : Nat → Prop} {w : World} {t : Tm} {cs : Array Value} (h : TmIs D w t cs) : ∃ (p q : Int) (B : Option Addr) (m d : Nat) (A : Option Addr) (c : Nat) (A' : Option Addr) (c' : Nat),
    cs = #[.int .i64 t.k, .int .i64 t.n, .string t.nm, .int .i64 p, .int .i64 q, .slice B m d, .slice A t.ls.length c, .slice A' t.ks.length c'] := by
 obtain ⟨x, y, z, A, c, A', c', rfl, _, _, _, hlv, _⟩ := h.lit
 obtain ⟨p, q, B, m, d, e⟩ := hlv.lit3
 simp only [Array.mk.injEq, List.cons.injEq, and_true] at e
 obtain ⟨rfl, rfl, rfl⟩ := e
 exact ⟨_, _, _, _, _, _, _, _, _, rfl⟩
end Go.Proofs.Ytiampoebdmflgaa
/- The reference's May of terms. -/
namespace Go.Proofs.Ytiampoebdmflgaa
open Go.RowKit
set_option linter.unusedVariables false
set_option maxRecDepth 100000
set_option maxHeartbeats 16000000
set_option linter.unusedSimpArgs false
mutual
def Tm.wf (vars : Int) : Tm → Bool
 | .mk k _ _ lv ls ks => decide (0 ≤ tar k) && decide ((ks.length : Int) = tar k) && (decide (k ≠ 2) || (lv.wf vars && decide (lv.nodes ≤ 100))) && (decide (k ≠ 7) || Lv.wfs vars ls) && Tm.wfs vars ks
def Tm.wfs (vars : Int) : List Tm → Bool
 | [] => true
 | t :: ts => Tm.wf vars t && Tm.wfs vars ts
end
mutual
def Tm.nodes : Tm → Nat
 | .mk _ _ _ _ _ ks => Tm.nodess ks + 1
def Tm.nodess : List Tm → Nat
 | [] => 0
 | t :: ts => Tm.nodes t + Tm.nodess ts
end
theorem twfs_app (v : Int) (a b : List Tm) : Tm.wfs v (a ++ b) = (Tm.wfs v a && Tm.wfs v b) := by
 induction a with
 | nil => simp [Tm.wfs]
 | cons x a ih => simp [Tm.wfs, ih, Bool.and_assoc]
theorem tnodess_app (a b : List Tm) : Tm.nodess (a ++ b) = Tm.nodess a + Tm.nodess b := by
 induction a with
 | nil => simp [Tm.nodess]
 | cons x a ih => simp [Tm.nodess, ih]; omega
def TMayR (v : Int) (t : Tm) (nb : Nat) (n : Int) (w : World) (r : Int) (w' : World) : Prop := ∃ n' : Int, Blk w' nb 3 #[.int .i64 n'] ∧ Upd (fun q => q = nb) w w' ∧ 0 ≤ n' ∧ n' ≤ 1001 ∧ (r = 0 → t.wf v = true ∧ n' = n + t.nodes ∧ n' ≤ 400)
def TMayC (t : Tm) : Prop := ∀ (cs : Array Value) (D : Nat → Prop) (w : World) (vars depth n : Int) (nb : Nat), Within D w → TmIs D w t cs → ¬ D nb → Blk w nb 3 #[.int .i64 n] → 0 ≤ n → n ≤ 1000 → 0 ≤ depth → depth ≤ 1000 →
 Calls Try.prog 47 #[.agg cs, .int .i64 vars, .int .i64 depth, .pointer (some ⟨nb, 0, none⟩)] w fun e w' => ∃ r : Int, e = .returned (.int .i64 r) ∧ TMayR vars t nb n w r w'
theorem rowL {w : World} {b : Nat} {t : TypeId} {v0 v1 v2 p q s v6 v7 : Value} (h : Blk w b t #[v0, v1, v2, p, q, s, v6, v7]) : rowAt w ⟨b, 3, none⟩ #[p, q, s] := by
 have e : (Addr.add ⟨b, 0, none⟩ 3) = ⟨b, 3, none⟩ := by unfold Addr.add; split <;> simp_all
 rw [← e]
 refine sub_row h.rowAt 3 _ fun j v hv => ?_
 match j, hv with
 | 0, hv => exact hv
 | 1, hv => exact hv
 | 2, hv => exact hv
 | j + 3, hv => simp at hv
theorem tmay_any (t : Tm) : TMayC t := by
 induction t using Tm.ind with
 | h k N nm lv ls ks ih =>
  intro cs D w vars depth n nb hD hl hnb hb hn0 hn1 hd0 hd1
  have hlt8 := hl.lit
  obtain ⟨x1, y1, z1, lA, lc, A, c, rfl, hk, hN, hnm, hlv, hls1, hls, hks1, hks⟩ := hlt8
  simp only [Tm.k, Tm.n, Tm.nm, Tm.lv, Tm.ls, Tm.ks] at hk hN hnm hlv hls1 hls hks1 hks hl ⊢
  obtain ⟨lp, lq, lB, lm, ld, he3⟩ := hlv.lit3
  simp only [Array.mk.injEq, List.cons.injEq, and_true] at he3
  obtain ⟨rfl, rfl, rfl⟩ := he3
  have hnl : nb < w.heap.size := hb.lt
  have hwr : wrap64 (n + 1) = n + 1 := by unfold wrap64; omega
  obtain ⟨W1, hW1⟩ : ∃ W, w.setCell ⟨nb, 0, none⟩ (.int .i64 (n + 1)) = W := ⟨_, rfl⟩
  have hu1 : Upd (fun q => q = nb) w W1 := by rw [← hW1]; exact (Upd.refl (fun q => q = nb) w).setCell (.inl rfl) _
  have hb1 : Blk W1 nb 3 #[.int .i64 (n + 1)] := by rw [← hW1]; exact hb.set 0 _
  have hs1 : W1.heap.size = w.heap.size := by rw [← hW1]; simp
  obtain ⟨W2, hW2⟩ : ∃ W, W1.alloc (.cells #[.int .i64 k, .int .i64 N, .string nm, .int .i64 lp, .int .i64 lq, .slice lB lm ld, .slice lA ls.length lc, .slice A ks.length c] 27) = W := ⟨_, rfl⟩
  have hu2 : Upd nob W1 W2 := by rw [← hW2]; exact (Upd.refl nob W1).alloc _
  have hb2 : Blk W2 w.heap.size 27 #[.int .i64 k, .int .i64 N, .string nm, .int .i64 lp, .int .i64 lq, .slice lB lm ld, .slice lA ls.length lc, .slice A ks.length c] := by rw [← hW2, ← hs1]; exact Blk.new W1 _ _
  have hb2n := hb1.upd hu2 (fun f => f)
  have hu02 : Upd (fun q => q = nb) w W2 := hu1.trans (hu2.mono (fun _ f => f.elim))
  have q0 : w.cell? ⟨nb, 0, none⟩ = some (.int .i64 n) := hb.cell 0
  have qf := hb.frozen 0
  have s0 : W2.cell? ⟨w.heap.size, 0, none⟩ = some (.int .i64 k) := hb2.cell 0
  have s1 : W2.cell? ⟨w.heap.size, 1, none⟩ = some (.int .i64 N) := hb2.cell 1
  have s2 : W2.cell? ⟨w.heap.size, 2, none⟩ = some (.string nm) := hb2.cell 2
  have s3 : W2.cell? ⟨w.heap.size, 3, none⟩ = some (.int .i64 lp) := hb2.cell 3
  have s4 : W2.cell? ⟨w.heap.size, 4, none⟩ = some (.int .i64 lq) := hb2.cell 4
  have s5 : W2.cell? ⟨w.heap.size, 5, none⟩ = some (.slice lB lm ld) := hb2.cell 5
  have s6 : W2.cell? ⟨w.heap.size, 6, none⟩ = some (.slice lA ls.length lc) := hb2.cell 6
  have s7 : W2.cell? ⟨w.heap.size, 7, none⟩ = some (.slice A ks.length c) := hb2.cell 7
  have sl : w.heap.size < W2.heap.size := hb2.lt
  have HB2N := Lib.hid hb2n
  have HB2 := Lib.hid hb2
  have HU02 := Lib.hid hu02
  have HW2 := Lib.hid (show (w.setCell ⟨nb, 0, none⟩ (.int .i64 (n + 1))).alloc (.cells #[.int .i64 k, .int .i64 N, .string nm, .int .i64 lp, .int .i64 lq, .slice lB lm ld, .slice lA ls.length lc, .slice A ks.length c] 27) = W2 by rw [hW1]; exact hW2)
  have q2 : ((w.setCell ⟨nb, 0, none⟩ (.int .i64 (n + 1))).alloc (.cells #[.int .i64 k, .int .i64 N, .string nm, .int .i64 lp, .int .i64 lq, .slice lB lm ld, .slice lA ls.length lc, .slice A ks.length c] 27)).cell? ⟨nb, 0, none⟩ = some (.int .i64 (n + 1)) := by rw [HW2.out]; exact hb2n.cell 0
  have hoD2 : Old D w W2 := Old.of_upd hu02 (fun q hq => ⟨fun h => by have h : q = nb := h; subst h; exact hnb hq, hD q hq⟩)
  have HKS := Lib.hid hks
  have HLS := Lib.hid (hls.old hoD2 (fun _ h => h))
  have HLV := Lib.hid (hlv.old hoD2 (fun _ h => h))
  clear hW1 hW2 hb1 hb2n hb2 hl hb hu1 hu2 hu02 hks hs1 hls hlv
  by_cases a1 : 64 < depth
  · have t1 : decide (64 < depth) = true := by simp [a1]
    clear s0 s1 s2 s3 s4 s5 s6 s7 sl
    go_enter Try.func47, Try.ntmps47
    go_wp2_with fail
    rw [HW2.out]
    go_ret
    exact ⟨2, rfl, n + 1, HB2N.out, HU02.out, by omega, by omega, fun h => by cases h⟩
  have t1 : decide (64 < depth) = false := by simp [a1]
  by_cases a2 : 400 < n + 1
  · have t2 : decide (400 < n + 1) = true := by simp [a2]
    clear s0 s1 s2 s3 s4 s5 s6 s7 sl
    go_enter Try.func47, Try.ntmps47
    go_wp2_with fail
    rw [HW2.out]
    go_ret
    exact ⟨2, rfl, n + 1, HB2N.out, HU02.out, by omega, by omega, fun h => by cases h⟩
  have t2 : decide (400 < n + 1) = false := by simp [a2]
  go_enter Try.func47, Try.ntmps47
  go_wp2_with fail
  rw [HW2.out]
  clear q0 qf q2
  by_cases b1 : tar k < 0
  · have t3 : decide (tar k < 0) = true := by simp [b1]
    refine wp_region_P (by kernel_rfl) ?_
    refine wpAny_of_S [] (fun _ X => X = W2.drew) _ _ _ _ ?_
    have hS : W2.drew = W2.drew := rfl
    refine sT 0 ?_ [] rfl (by kernel_rfl) (by rfl) ?_ hS ?_
    rotate_left
    · rintro wx ⟨L, hL, hun, hx⟩
      obtain rfl := hx
      have hx := True.intro
      clear hx hL hun
      go_simp
      with_reducible rfl
    try simp only [tl]
    refine sT 1 ?_ [] rfl (by kernel_rfl) (by rfl) ?_ hS ?_
    rotate_left
    · rintro wx ⟨L, hL, hun, hx⟩
      obtain rfl := hx
      have hx := True.intro
      have q : W2.drew.cell? ⟨w.heap.size, 0, none⟩ = some (.int .i64 k) := s0
      clear hx hL hun
      go_simp
      with_reducible rfl
    try simp only [tl]
    refine wpAnyS_one (i := 2) [] (by kernel_rfl) rfl (by rfl) fun K hK => ?_
    go_simp
    refine (rkids_any k W2.drew).mono ?_
    rintro e w' ⟨rfl, hw'⟩
    subst hw'
    refine hK _ _ rfl ?_
    clear hK K; try simp only [tl]
    refine sT 3 ?_ [] rfl (by kernel_rfl) (by rfl) ?_ hS ?_
    rotate_left
    · rintro wx ⟨L, hL, hun, hx⟩
      obtain rfl := hx
      have hx := True.intro
      clear hx hL hun
      go_simp
      with_reducible rfl
    try simp only [tl]
    refine sT 4 ?_ [] rfl (by kernel_rfl) (by rfl) ?_ hS ?_
    rotate_left
    · rintro wx ⟨L, hL, hun, hx⟩
      obtain rfl := hx
      have hx := True.intro
      clear hx hL hun
      go_simp
      with_reducible rfl
    try simp only [tl]
    refine wpAnyS_take (i := 5) (v := undef) [] rfl (by kernel_rfl) (fun _ _ _ h => h) (Or.inr ⟨by rfl, rfl⟩) hS ?_
    try simp only [tl]
    refine wpAnyS_take (i := 6) (v := undef) [] rfl (by kernel_rfl) (fun _ _ _ h => h) (Or.inr ⟨by rfl, rfl⟩) hS ?_
    try simp only [tl]
    refine wpAnyS_take (i := 7) (v := undef) [] rfl (by kernel_rfl) (fun _ _ _ h => h) (Or.inr ⟨by rfl, rfl⟩) hS ?_
    try simp only [tl]
    refine wpAnyS_take (i := 8) (v := undef) [] rfl (by kernel_rfl) (fun _ _ _ h => h) (Or.inr ⟨by rfl, rfl⟩) hS ?_
    try simp only [tl]
    refine wpAnyS_take (i := 9) (v := undef) [] rfl (by kernel_rfl) (fun _ _ _ h => h) (Or.inr ⟨by rfl, rfl⟩) hS ?_
    try simp only [tl]
    refine wpAnyS_take (i := 10) (v := undef) [] rfl (by kernel_rfl) (fun _ _ _ h => h) (Or.inr ⟨by rfl, rfl⟩) hS ?_
    try simp only [tl]
    refine wpAnyS_take (i := 11) (v := undef) [] rfl (by kernel_rfl) (fun _ _ _ h => h) (Or.inr ⟨by rfl, rfl⟩) hS ?_
    try simp only [tl]
    refine sT 12 ?_ [] rfl (by kernel_rfl) (by rfl) ?_ hS ?_
    rotate_left
    · rintro wx ⟨L, hL, hun, hx⟩
      obtain rfl := hx
      have hx := True.intro
      clear hx hL hun
      go_simp
      with_reducible rfl
    try simp only [tl]
    refine wpAnyS_one (i := 13) [] (by kernel_rfl) rfl (by rfl) fun K hK => ?_
    go_simp
    refine hK _ _ rfl ?_
    clear hK K; try simp only [tl]
    refine wpAnyS_done (by kernel_rfl) ?_
    refine NoPanic.normal ?_
    go_wp2_with fail
    go_ret
    exact ⟨1, rfl, n + 1, HB2N.out, HU02.out.drew, by omega, by omega, fun h => by cases h⟩
  have t3 : decide (tar k < 0) = false := by simp; omega
  by_cases b2 : (ks.length : Int) = tar k
  · have hlar : tar k = (ks.length : Int) := b2.symm
    have HBB := Lib.hid b2
    have HB1 := Lib.hid b1
    have t4 : decide ((ks.length : Int) < 0) = false := by simp
    clear b1 b2 t3
    refine wp_region_P (by kernel_rfl) ?_
    refine wpAny_of_S [] (fun _ X => X = W2.drew) _ _ _ _ ?_
    have hS : W2.drew = W2.drew := rfl
    refine sT 0 ?_ [] rfl (by kernel_rfl) (by rfl) ?_ hS ?_
    rotate_left
    · rintro wx ⟨L, hL, hun, hx⟩
      obtain rfl := hx
      have hx := True.intro
      clear hx hL hun
      go_simp
      with_reducible rfl
    try simp only [tl]
    refine sT 1 ?_ [] rfl (by kernel_rfl) (by rfl) ?_ hS ?_
    rotate_left
    · rintro wx ⟨L, hL, hun, hx⟩
      obtain rfl := hx
      have hx := True.intro
      have q : W2.drew.cell? ⟨w.heap.size, 0, none⟩ = some (.int .i64 k) := s0
      clear hx hL hun
      go_simp
      with_reducible rfl
    try simp only [tl]
    refine wpAnyS_one (i := 2) [] (by kernel_rfl) rfl (by rfl) fun K hK => ?_
    go_simp
    refine (rkids_any k W2.drew).mono ?_
    rintro e w' ⟨rfl, hw'⟩
    subst hw'
    refine hK _ _ rfl ?_
    clear hK K; try simp only [tl]
    refine sT 3 ?_ [] rfl (by kernel_rfl) (by rfl) ?_ hS ?_
    rotate_left
    · rintro wx ⟨L, hL, hun, hx⟩
      obtain rfl := hx
      have hx := True.intro
      clear hx hL hun
      go_simp
      with_reducible rfl
    try simp only [tl]
    refine sT 4 ?_ [] rfl (by kernel_rfl) (by rfl) ?_ hS ?_
    rotate_left
    · rintro wx ⟨L, hL, hun, hx⟩
      obtain rfl := hx
      have hx := True.intro
      clear hx hL hun
      go_simp
      with_reducible rfl
    try simp only [tl]
    refine sT 5 ?_ [] rfl (by kernel_rfl) (by rfl) ?_ hS ?_
    rotate_left
    · rintro wx ⟨L, hL, hun, hx⟩
      obtain rfl := hx
      have hx := True.intro
      clear hx hL hun
      go_simp
      with_reducible rfl
    try simp only [tl]
    refine sT 6 ?_ [] rfl (by kernel_rfl) (by rfl) ?_ hS ?_
    rotate_left
    · rintro wx ⟨L, hL, hun, hx⟩
      obtain rfl := hx
      have hx := True.intro
      have q : W2.drew.cell? ⟨w.heap.size, 7, none⟩ = some (.slice A ks.length c) := s7
      clear hx hL hun
      go_simp
      with_reducible rfl
    try simp only [tl]
    refine sT 7 ?_ [] rfl (by kernel_rfl) (by rfl) ?_ hS ?_
    rotate_left
    · rintro wx ⟨L, hL, hun, hx⟩
      obtain rfl := hx
      have hx := True.intro
      clear hx hL hun
      go_simp
      with_reducible rfl
    try simp only [tl]
    refine sT 8 ?_ [] rfl (by kernel_rfl) (by rfl) ?_ hS ?_
    rotate_left
    · rintro wx ⟨L, hL, hun, hx⟩
      obtain rfl := hx
      have hx := True.intro
      clear hx hL hun
      go_simp
      with_reducible rfl
    try simp only [tl]
    refine sT 9 ?_ [] rfl (by kernel_rfl) (by rfl) ?_ hS ?_
    rotate_left
    · rintro wx ⟨L, hL, hun, hx⟩
      obtain rfl := hx
      have hx := True.intro
      have q : W2.drew.cell? ⟨w.heap.size, 0, none⟩ = some (.int .i64 k) := s0
      clear hx hL hun
      go_simp
      with_reducible rfl
    try simp only [tl]
    refine wpAnyS_one (i := 10) [] (by kernel_rfl) rfl (by rfl) fun K hK => ?_
    go_simp
    refine (rkids_any k W2.drew).mono ?_
    rintro e w' ⟨rfl, hw'⟩
    subst hw'
    refine hK _ _ rfl ?_
    clear hK K; try simp only [tl]
    refine sT 11 ?_ [] rfl (by kernel_rfl) (by rfl) ?_ hS ?_
    rotate_left
    · rintro wx ⟨L, hL, hun, hx⟩
      obtain rfl := hx
      have hx := True.intro
      clear hx hL hun
      go_simp
      with_reducible rfl
    try simp only [tl]
    refine sT 12 ?_ [] rfl (by kernel_rfl) (by rfl) ?_ hS ?_
    rotate_left
    · rintro wx ⟨L, hL, hun, hx⟩
      obtain rfl := hx
      have hx := True.intro
      clear hx hL hun
      go_simp
      with_reducible rfl
    try simp only [tl]
    refine wpAnyS_one (i := 13) [] (by kernel_rfl) rfl (by rfl) fun K hK => ?_
    go_simp
    refine hK _ _ rfl ?_
    clear hK K; try simp only [tl]
    refine wpAnyS_done (by kernel_rfl) ?_
    refine NoPanic.normal ?_
    have S3 := Lib.hid (And.intro s3 (And.intro s4 s5))
    clear s3 s4 s5
    by_cases k2 : k = 2
    · subst k2
      clear hlar
      have r3 := rowL HB2.out
      go_wp2_with (first
       | ((with_reducible refine this_op (.load 24 (.tmp 61)) ?_); refine wpList_at rfl 24 (.tmp 61) rfl ⟨w.heap.size, 3, none⟩ rfl _ _ r3 Try.underlying24 rfl lv_size ?_))
      refine (lmay_top lv _ D W2.drew vars (fun q hq => by have := hD q hq; show q < W2.heap.size; omega) HLV.out.drew).mono ?_
      rintro e w3 ⟨r, rfl, hr, hu3⟩
      have hb3 : Blk w3 nb 3 #[.int .i64 (n + 1)] := HB2N.out.upd ((Upd.refl nob W2).drew.trans hu3) (fun f => f)
      have hu03 : Upd (fun q => q = nb) w w3 := HU02.out.trans (((Upd.refl nob W2).drew.trans hu3).mono (fun _ f => f.elim))
      have HR := Lib.hid hr
      clear hr
      go_wp2_with fail
      go_ret
      refine ⟨_, rfl, n + 1, hb3, hu03, by omega, by omega, fun h => ⟨?_, ?_, by omega⟩⟩
      · have h1 := HBB.out
        have h2 : ks = [] := by
         have e : tar 2 = 0 := rfl
         rw [e] at h1
         exact List.length_eq_zero_iff.1 (by omega)
        subst h2
        simp [Tm.wf, Tm.wfs, HR.out h]
        exact ⟨by decide, by decide⟩
      have h1 := HBB.out
      have h2 : ks = [] := by
       have e : tar 2 = 0 := rfl
       rw [e] at h1
       exact List.length_eq_zero_iff.1 (by omega)
      subst h2
      simp [Tm.nodes, Tm.nodess]
    have k22 : decide (k = 2) = false := by simp [k2]
    by_cases k7 : k = 7
    · subst k7
      have hk0 : ks = [] := by
       have h1 := HBB.out
       have e : tar 7 = 0 := rfl
       rw [e] at h1
       exact List.length_eq_zero_iff.1 (by omega)
      subst hk0
      clear hlar k22
      go_wp2_with fail
      refine (name_any nm W2.drew hnm).mono ?_
      rintro e w3 ⟨⟨b, rfl⟩, hw3⟩
      subst hw3
      cases b with
      | false =>
       go_wp2_with fail
       go_ret
       exact ⟨8, rfl, n + 1, HB2N.out, HU02.out.drew, by omega, by omega, fun h => by cases h⟩
      | true =>
       by_cases l6 : 6 < ls.length
       · have t6 : decide ((6 : Int) < ls.length) = true := by simp; omega
         go_wp2_with fail
         go_ret
         exact ⟨2, rfl, n + 1, HB2N.out, HU02.out.drew, by omega, by omega, fun h => by cases h⟩
       have t6 : decide ((6 : Int) < ls.length) = false := by simp; omega
       go_wp2_with fail
       obtain ⟨M, hM⟩ : ∃ M, ls.length = M := ⟨_, rfl⟩
       have HM := Lib.hid hM
       rw [hM] at hls1 t6 l6 ⊢
       clear hM
       go_loopg [80] M (fun q v80 wr => ∃ (j : Nat), j + q = M ∧ v80 = .int .i64 j ∧ Upd nob W2.drew wr ∧ Lv.wfs vars (ls.take j) = true)
       case atStart => exact ⟨0, by omega, rfl, Upd.refl _ _, by simp [Lv.wfs]⟩
       case round =>
        obtain ⟨j, hj, rfl, hur, hwf⟩ := hrel
        have hrl : W2.heap.size ≤ wr.heap.size := hur.size
        have hDr : Within D wr := fun q hq => by have := hD q hq; omega
        have hu2r : Upd nob W2 wr := (Upd.refl nob W2).drew.trans hur
        have hdW : Within D W2 := fun q hq => by have := hD q hq; omega
        by_cases hlt : j < M
        · have t5 : decide ((j : Int) < M) = true := by simp [hlt]
          have hjl : j < ls.length := by have := HM.out; omega
          obtain ⟨a, ccs, hA, hab, hrow, hll⟩ := (HLS.out.old (hdW.old hu2r) (fun _ h => h)).at_ (List.getElem?_eq_getElem hjl)
          rw [Nat.zero_add] at hrow
          have HLL := Lib.hid hll
          obtain ⟨p, q, B, m, d, rfl⟩ := hll.lit3
          have HA := Lib.hid hA
          clear hA hll
          go_wp2_with (first
           | ((with_reducible refine this_op (.indexAddr 22 (.tmp 78) (.tmp 80)) ?_); refine wpList_index_at rfl 22 (.tmp 78) (.tmp 80) rfl _ a _ _ rfl HA.out j rfl hlt 24 Try.underlying22 3 lv_size ?_)
           | ((with_reducible refine this_op (.load 24 (.tmp 82)) ?_); refine wpList_at rfl 24 (.tmp 82) rfl (a.add (j * 3)) rfl _ _ hrow Try.underlying24 rfl lv_size ?_)
           | ((with_reducible refine this_op (.store 24 (.tmp 10) (.tmp 83)) ?_); refine wpList_store_row rfl 24 (.tmp 10) (.tmp 83) rfl wr.heap.size _ rfl rfl 24 _ (Blk.new wr _ _) lv_size rfl (by simp [Value.oneCell']) ?_
              obtain ⟨W4, hW4⟩ : ∃ W, (wr.alloc (.cells #[.int .i64 0, .int .i64 0, .slice none 0 0] 24)).setRow wr.heap.size #[.int .i64 p, .int .i64 q, .slice B m d] = W := ⟨_, rfl⟩
              have hu4 : Upd nob wr W4 := by rw [← hW4]; exact ((Upd.refl nob wr).alloc _).setRow (.inr (Nat.le_refl _)) _
              have hb4 : Blk W4 wr.heap.size 24 #[.int .i64 p, .int .i64 q, .slice B m d] := by rw [← hW4]; exact (Blk.new wr _ _).row _
              rw [hW4]
              clear hW4
              have hz4 : wr.heap.size + 1 ≤ W4.heap.size := hb4.lt
              have r4 := hb4.rowAt
              clear hb4)
           | ((with_reducible refine this_op (.load 24 (.tmp 10)) ?_); refine wpList_at rfl 24 (.tmp 10) rfl ⟨wr.heap.size, 0, none⟩ rfl _ _ r4 Try.underlying24 rfl lv_size ?_))
          refine (lmay_top ls[j] _ D W4 vars (fun q hq => by have := hDr q hq; omega) (HLL.out.old (hDr.old hu4) (fun _ h => h))).mono ?_
          rintro e w5 ⟨r, rfl, hr5, hu5⟩
          have HR5 := Lib.hid hr5
          clear hr5 r4
          by_cases hr0 : r = 0
          · have h := HR5.out hr0
            subst hr0
            go_wp2_with fail
            go_roundg (gk - 1)
            case measure => omega
            case rel =>
             refine ⟨j + 1, by omega, by go_num, (hur.trans hu4).trans hu5, ?_⟩
             rw [List.take_succ_eq_append_getElem hjl, wfs_app, hwf]; simp [Lv.wfs, h]
          have t6 : decide (r = 0) = false := by simp [hr0]
          go_wp2_with fail
          go_ret
          have hu05 := (hu2r.trans hu4).trans hu5
          exact ⟨_, rfl, n + 1, HB2N.out.upd hu05 (fun f => f), HU02.out.trans (hu05.mono (fun _ f => f.elim)), by omega, by omega, fun h => absurd h hr0⟩
        have t5 : decide ((j : Int) < M) = false := by simp; omega
        have hjM : ls.take j = ls := by rw [List.take_of_length_le]; have := HM.out; omega
        rw [hjM] at hwf
        have c7 : wr.cell? ⟨w.heap.size, 7, none⟩ = some (.slice A ([] : List Tm).length c) := (hu2r.cell (p := ⟨w.heap.size, 7, none⟩) sl (fun f => f)).trans s7
        have cl : w.heap.size < wr.heap.size := by omega
        go_wp2_with fail
        refine wp_loop_once ?_
        go_wp2_with fail
        go_ret
        refine ⟨_, rfl, n + 1, HB2N.out.upd hu2r (fun f => f), HU02.out.trans (hu2r.mono (fun _ f => f.elim)), by omega, by omega, fun _ => ⟨?_, ?_, by omega⟩⟩
        · simp [Tm.wf, Tm.wfs, hwf]
          exact ⟨by decide, by decide⟩
        simp [Tm.nodes, Tm.nodess]
    have k77 : decide (k = 7) = false := by simp [k7]
    go_wp2_with fail
    all_goals first
     | (go_ret; exact ⟨_, rfl, n + 1, HB2N.out, HU02.out.drew, by omega, by omega, fun h => absurd h (by decide)⟩)
     | skip
    all_goals
     obtain ⟨M, hM⟩ : ∃ M, ks.length = M := ⟨_, rfl⟩
     have HM := Lib.hid hM
     have hdd : wrap64 (depth + 1) = depth + 1 := by unfold wrap64; omega
     have HK := Lib.hid (And.intro k2 k7)
     try clear hlar
     try clear t4
     rw [hM] at hks1 ⊢
     clear hM k2 k7 k22 k77
     go_loopg [94] M (fun q v94 wr => ∃ (j : Nat) (nn : Int), j + q = M ∧ v94 = .int .i64 j ∧ Blk wr nb 3 #[.int .i64 nn] ∧ Upd (fun q => q = nb) w wr ∧ 0 ≤ nn ∧ nn ≤ 400 ∧ Tm.wfs vars (ks.take j) = true ∧ nn = n + 1 + Tm.nodess (ks.take j) ∧ w.heap.size + 1 ≤ wr.heap.size)
     case atStart => exact ⟨0, n + 1, by omega, rfl, HB2N.out, HU02.out.drew, by omega, by omega, by simp [Tm.wfs], by simp [Tm.nodess], sl⟩
     case round =>
      obtain ⟨j, nn, hj, rfl, hbr, hur, hn2, hn3, hwf, hnd, hsz⟩ := hrel
      have HBR := Lib.hid hbr
      have hrl := hbr.lt
      have hoD : Old D w wr := Old.of_upd hur (fun q hq => ⟨fun h => by have h : q = nb := h; subst h; exact hnb hq, hD q hq⟩)
      clear hbr
      by_cases hlt : j < M
      · have t5 : decide ((j : Int) < M) = true := by simp [hlt]
        have hz := tm_zero
        have hjl : j < ks.length := by have := HM.out; omega
        obtain ⟨a, ccs, hA, hab, hrow, hll⟩ := (HKS.out.old hoD (fun _ h => h)).at_ (List.getElem?_eq_getElem hjl)
        rw [Nat.zero_add] at hrow
        obtain ⟨x, hx⟩ : ∃ x, ks[j] = x := ⟨_, rfl⟩
        rw [hx] at hll
        have HX := Lib.hid hx
        have HLL := Lib.hid hll
        have HON := Lib.hid hll.oneCell.2
        obtain ⟨xp, xq, xB, xm, xd, xE, xc, xE', xc', rfl⟩ := hll.lit8
        have HA := Lib.hid hA
        clear hA hll hx
        go_wp2_with (first
         | ((with_reducible refine this_op (.indexAddr 25 (.tmp 92) (.tmp 94)) ?_); refine wpList_index_at rfl 25 (.tmp 92) (.tmp 94) rfl _ a _ _ rfl HA.out j rfl hlt 27 Try.underlying25 8 tm_size ?_)
         | ((with_reducible refine this_op (.load 27 (.tmp 96)) ?_); refine wpList_at rfl 27 (.tmp 96) rfl (a.add (j * 8)) rfl _ _ hrow Try.underlying27 rfl tm_size ?_)
         | ((with_reducible refine this_op (.store 27 (.tmp 13) (.tmp 97)) ?_); refine wpList_store_row rfl 27 (.tmp 13) (.tmp 97) rfl wr.heap.size _ rfl rfl 27 _ (Blk.new wr _ _) tm_size rfl HON.out ?_
            obtain ⟨W4, hW4⟩ : ∃ W, (wr.alloc (.cells #[.int .i64 0, .int .i64 0, .string ByteArray.empty, .int .i64 0, .int .i64 0, .slice none 0 0, .slice none 0 0, .slice none 0 0] 27)).setRow wr.heap.size #[.int .i64 x.k, .int .i64 x.n, .string x.nm, .int .i64 xp, .int .i64 xq, .slice xB xm xd, .slice xE x.ls.length xc, .slice xE' x.ks.length xc'] = W := ⟨_, rfl⟩
            have hu4 : Upd nob wr W4 := by rw [← hW4]; exact ((Upd.refl nob wr).alloc _).setRow (.inr (Nat.le_refl _)) _
            have hb4 : Blk W4 wr.heap.size 27 #[.int .i64 x.k, .int .i64 x.n, .string x.nm, .int .i64 xp, .int .i64 xq, .slice xB xm xd, .slice xE x.ls.length xc, .slice xE' x.ks.length xc'] := by rw [← hW4]; exact (Blk.new wr _ _).row _
            rw [hW4]
            clear hW4
            have hz4 : wr.heap.size + 1 ≤ W4.heap.size := hb4.lt
            have r4 := hb4.rowAt
            have HB4 := Lib.hid (HBR.out.upd hu4 (fun f => f))
            clear hb4)
         | ((with_reducible refine this_op (.load 27 (.tmp 13)) ?_); refine wpList_at rfl 27 (.tmp 13) rfl ⟨wr.heap.size, 0, none⟩ rfl _ _ r4 Try.underlying27 rfl tm_size ?_))
        have hin : x ∈ ks := by rw [← HX.out]; exact List.getElem_mem _
        refine (ih x hin _ D W4 vars (depth + 1) nn nb (fun q hq => by have := hD q hq; omega) (HLL.out.old (Old.of_upd hu4 (fun q hq => ⟨fun f => f, by have := hD q hq; omega⟩)) (fun _ h => h)) hnb HB4.out hn2 (by omega) (by omega) (by omega)).mono ?_
        rintro e w5 ⟨r, rfl, n5, hb5, hu5, h50, h51, h5r⟩
        have hur5 : Upd (fun q => q = nb) w w5 := (hur.trans (hu4.mono (fun _ f => f.elim))).trans hu5
        have HB5 := Lib.hid hb5
        have H5R := Lib.hid h5r
        clear hb5 r4 h5r
        by_cases hr0 : r = 0
        · have h := H5R.out hr0
          subst hr0
          go_wp2_with fail
          go_roundg (gk - 1)
          case measure => omega
          case rel =>
           refine ⟨j + 1, n5, by omega, by go_num, HB5.out, hur5, by omega, h.2.2, ?_, ?_, by have := hu4.size; have := hu5.size; omega⟩
           · rw [List.take_succ_eq_append_getElem hjl, twfs_app, hwf, HX.out]; simp [Tm.wfs, h.1]
           rw [List.take_succ_eq_append_getElem hjl, tnodess_app, HX.out]; have := h.2.1; have e : Tm.nodess [x] = Tm.nodes x := by simp [Tm.nodess]
           omega
        have t6 : decide (r = 0) = false := by simp [hr0]
        go_wp2_with fail
        go_ret
        exact ⟨_, rfl, n5, HB5.out, hur5, by omega, by omega, fun h => absurd h hr0⟩
      have t5 : decide ((j : Int) < M) = false := by simp; omega
      have hjM : ks.take j = ks := by rw [List.take_of_length_le]; have := HM.out; omega
      rw [hjM] at hwf hnd
      go_wp2_with fail
      go_ret
      refine ⟨_, rfl, nn, HBR.out, hur, by omega, by omega, fun _ => ⟨?_, ?_, hn3⟩⟩
      · have h1 := HBB.out
        have h2 := HB1.out
        have h3 := HK.out
        rw [Tm.wf, hwf]
        simp [h3.1, h3.2]
        omega
      rw [Tm.nodes]
      omega
  have t4 : ((ks.length : Int) != tar k) = true := by simp [b2]
  refine wp_region_P (by kernel_rfl) ?_
  refine wpAny_of_S [] (fun _ X => X = W2.drew) _ _ _ _ ?_
  have hS : W2.drew = W2.drew := rfl
  refine sT 0 ?_ [] rfl (by kernel_rfl) (by rfl) ?_ hS ?_
  rotate_left
  · rintro wx ⟨L, hL, hun, hx⟩
    obtain rfl := hx
    have hx := True.intro
    clear hx hL hun
    go_simp
    with_reducible rfl
  try simp only [tl]
  refine sT 1 ?_ [] rfl (by kernel_rfl) (by rfl) ?_ hS ?_
  rotate_left
  · rintro wx ⟨L, hL, hun, hx⟩
    obtain rfl := hx
    have hx := True.intro
    have q : W2.drew.cell? ⟨w.heap.size, 0, none⟩ = some (.int .i64 k) := s0
    clear hx hL hun
    go_simp
    with_reducible rfl
  try simp only [tl]
  refine wpAnyS_one (i := 2) [] (by kernel_rfl) rfl (by rfl) fun K hK => ?_
  go_simp
  refine (rkids_any k W2.drew).mono ?_
  rintro e w' ⟨rfl, hw'⟩
  subst hw'
  refine hK _ _ rfl ?_
  clear hK K; try simp only [tl]
  refine sT 3 ?_ [] rfl (by kernel_rfl) (by rfl) ?_ hS ?_
  rotate_left
  · rintro wx ⟨L, hL, hun, hx⟩
    obtain rfl := hx
    have hx := True.intro
    clear hx hL hun
    go_simp
    with_reducible rfl
  try simp only [tl]
  refine sT 4 ?_ [] rfl (by kernel_rfl) (by rfl) ?_ hS ?_
  rotate_left
  · rintro wx ⟨L, hL, hun, hx⟩
    obtain rfl := hx
    have hx := True.intro
    clear hx hL hun
    go_simp
    with_reducible rfl
  try simp only [tl]
  refine sT 5 ?_ [] rfl (by kernel_rfl) (by rfl) ?_ hS ?_
  rotate_left
  · rintro wx ⟨L, hL, hun, hx⟩
    obtain rfl := hx
    have hx := True.intro
    clear hx hL hun
    go_simp
    with_reducible rfl
  try simp only [tl]
  refine sT 6 ?_ [] rfl (by kernel_rfl) (by rfl) ?_ hS ?_
  rotate_left
  · rintro wx ⟨L, hL, hun, hx⟩
    obtain rfl := hx
    have hx := True.intro
    have q : W2.drew.cell? ⟨w.heap.size, 7, none⟩ = some (.slice A ks.length c) := s7
    clear hx hL hun
    go_simp
    with_reducible rfl
  try simp only [tl]
  refine sT 7 ?_ [] rfl (by kernel_rfl) (by rfl) ?_ hS ?_
  rotate_left
  · rintro wx ⟨L, hL, hun, hx⟩
    obtain rfl := hx
    have hx := True.intro
    clear hx hL hun
    go_simp
    with_reducible rfl
  try simp only [tl]
  refine sT 8 ?_ [] rfl (by kernel_rfl) (by rfl) ?_ hS ?_
  rotate_left
  · rintro wx ⟨L, hL, hun, hx⟩
    obtain rfl := hx
    have hx := True.intro
    clear hx hL hun
    go_simp
    with_reducible rfl
  try simp only [tl]
  refine sT 9 ?_ [] rfl (by kernel_rfl) (by rfl) ?_ hS ?_
  rotate_left
  · rintro wx ⟨L, hL, hun, hx⟩
    obtain rfl := hx
    have hx := True.intro
    have q : W2.drew.cell? ⟨w.heap.size, 0, none⟩ = some (.int .i64 k) := s0
    clear hx hL hun
    go_simp
    with_reducible rfl
  try simp only [tl]
  refine wpAnyS_one (i := 10) [] (by kernel_rfl) rfl (by rfl) fun K hK => ?_
  go_simp
  refine (rkids_any k W2.drew).mono ?_
  rintro e w' ⟨rfl, hw'⟩
  subst hw'
  refine hK _ _ rfl ?_
  clear hK K; try simp only [tl]
  refine sT 11 ?_ [] rfl (by kernel_rfl) (by rfl) ?_ hS ?_
  rotate_left
  · rintro wx ⟨L, hL, hun, hx⟩
    obtain rfl := hx
    have hx := True.intro
    clear hx hL hun
    go_simp
    with_reducible rfl
  try simp only [tl]
  refine sT 12 ?_ [] rfl (by kernel_rfl) (by rfl) ?_ hS ?_
  rotate_left
  · rintro wx ⟨L, hL, hun, hx⟩
    obtain rfl := hx
    have hx := True.intro
    clear hx hL hun
    go_simp
    with_reducible rfl
  try simp only [tl]
  refine wpAnyS_one (i := 13) [] (by kernel_rfl) rfl (by rfl) fun K hK => ?_
  go_simp
  refine hK _ _ rfl ?_
  clear hK K; try simp only [tl]
  refine wpAnyS_done (by kernel_rfl) ?_
  refine NoPanic.normal ?_
  go_wp2_with fail
  go_ret
  exact ⟨1, rfl, n + 1, HB2N.out, HU02.out.drew, by omega, by omega, fun h => by cases h⟩
end Go.Proofs.Ytiampoebdmflgaa
/- The reference's May of a term, from without. -/
namespace Go.Proofs.Ytiampoebdmflgaa
open Go.RowKit
set_option linter.unusedVariables false
set_option maxRecDepth 100000
set_option maxHeartbeats 2000000
set_option linter.unusedSimpArgs false
theorem tmay_top (t : Tm) (cs : Array Value) (D : Nat → Prop) (w : World) (vars : Int) (hD : Within D w) (ht : TmIs D w t cs) :
    Calls Try.prog 22 #[.agg cs, .int .i64 vars] w fun e w' => ∃ r : Int, e = .returned (.int .i64 r) ∧ (r = 0 → t.wf vars = true ∧ t.nodes ≤ 400) ∧ Upd nob w w' := by
 have hone := ht.oneCell
 obtain ⟨W1, hW1⟩ : ∃ W, (w.alloc (.cells cs 27)).alloc (.cells #[.int .i64 0] 3) = W := ⟨_, rfl⟩
 have hu1 : Upd nob w W1 := by rw [← hW1]; exact ((Upd.refl nob w).alloc _).alloc _
 have hb1 : Blk W1 w.heap.size 27 cs := by rw [← hW1]; exact (Blk.new w _ _).alloc _
 have hb2 : Blk W1 (w.heap.size + 1) 3 #[.int .i64 0] := by
  rw [← hW1]
  have h := Blk.new (w.alloc (.cells cs 27)) 3 #[.int .i64 0]
  rw [World.size_alloc] at h
  exact h
 have HL1 := Lib.hid (ht.old (hD.old hu1) (fun _ h => h))
 obtain ⟨yp, yq, yB, ym, yd, yE, yx, yE', yx', rfl⟩ := ht.lit8
 have r0 := hb1.rowAt
 have HB2 := Lib.hid hb2
 rw [← hW1] at r0
 have HW1 := Lib.hid hW1
 clear hW1 hb1 hb2 ht
 go_enter Try.func22, Try.ntmps22
 go_wp2_with (first
  | ((with_reducible refine this_op (.load 27 (.tmp 2)) ?_); refine wpList_at rfl 27 (.tmp 2) rfl ⟨w.heap.size, 0, none⟩ rfl _ _ r0 Try.underlying27 rfl tm_size ?_))
 rw [HW1.out]
 refine (tmay_any t _ D W1 vars 1 0 (w.heap.size + 1) (hD.up hu1) HL1.out (fun h => by have := hD _ h; omega) HB2.out (by omega) (by omega) (by omega) (by omega)).mono ?_
 rintro e w2 ⟨r, rfl, n', hb, hu, _, _, hr⟩
 have HR := Lib.hid hr
 clear hr
 go_wp2_with fail
 go_ret
 exact ⟨r, rfl, fun h => ⟨(HR.out h).1, by have := HR.out h; omega⟩, hu1.trans' hu (fun q hq h => by have h : q = w.heap.size + 1 := h; omega)⟩
end Go.Proofs.Ytiampoebdmflgaa
/- Terms that may be are none too great; a level that may be is sound. -/
namespace Go.Proofs.Ytiampoebdmflgaa
open Go.RowKit
set_option linter.unusedVariables false
set_option maxRecDepth 100000
set_option maxHeartbeats 1000000
theorem lnodes_pos (l : Lv) : 1 ≤ l.nodes := by cases l; rw [Lv.nodes]; omega
mutual
theorem rsnd_wf (v : Int) (hv : v ≤ 1000) : ∀ (l : Lv) (d c : Nat), l.wf v = true → d + l.nodes ≤ 257 → c + l.nodes ≤ 1000 → rsnd l d c = (true, c + l.nodes)
 | .mk k n ks, d, c, h, h1, h2 => by
  rw [Lv.wf] at h
  simp only [Bool.and_eq_true, Bool.or_eq_true, decide_eq_true_eq] at h
  obtain ⟨⟨⟨⟨⟨g1, g2⟩, g3⟩, g4⟩, g5⟩, g6⟩ := h
  rw [Lv.nodes] at h1 h2 ⊢
  have ih := rsnds_wf v hv ks d (c + 1) g6 (by omega) (by omega)
  rw [rsnd, if_neg (by omega)]
  by_cases k1 : k = 1
  · have hk : ks = [] := by
      have e : lar k = 0 := by rw [k1]; rfl
      exact List.length_eq_zero_iff.1 (by omega)
    have := g3.resolve_left (fun h => h k1)
    rw [if_pos k1, hk, Lv.nodess]
    have a : decide (0 ≤ n) = true := by simp; omega
    have b : decide (n ≤ 1099511627776) = true := by simp; omega
    rw [a, b]; simp
  · rw [if_neg k1]
    by_cases k2 : k = 2
    · have hk : ks = [] := by
        have e : lar k = 0 := by rw [k2]; rfl
        exact List.length_eq_zero_iff.1 (by omega)
      have := g4.resolve_left (fun h => h k2)
      rw [if_pos k2, hk, Lv.nodess]
      have a : decide (0 ≤ n) = true := by simp; omega
      have b : decide (n ≤ 1000) = true := by simp; omega
      rw [a, b]; simp
    · rw [if_neg k2, if_neg (by
        rintro ⟨h3, h4⟩
        have := g5.resolve_left (fun h => h h3)
        omega), ih]
      simp; omega
theorem rsnds_wf (v : Int) (hv : v ≤ 1000) : ∀ (ls : List Lv) (d c : Nat), Lv.wfs v ls = true → d + 1 + Lv.nodess ls ≤ 257 → c + Lv.nodess ls ≤ 1000 → rsnds ls d c = (true, c + Lv.nodess ls)
 | [], d, c, _, _, _ => by rw [rsnds, Lv.nodess]; simp
 | l :: ls, d, c, h, h1, h2 => by
  rw [Lv.wfs, Bool.and_eq_true] at h
  rw [Lv.nodess] at h1 h2 ⊢
  by_cases hz : Lv.nodess ls = 0
  · have i1 := rsnd_wf v hv l (d + 1) c h.1 (by omega) (by omega)
    have i2 := rsnds_wf v hv ls d (c + l.nodes) h.2 (by have := lnodes_pos l; omega) (by omega)
    rw [rsnds, i1]
    simp only [if_true]
    rw [i2]; simp; omega
  have i1 := rsnd_wf v hv l (d + 1) c h.1 (by omega) (by omega)
  have i2 := rsnds_wf v hv ls d (c + l.nodes) h.2 (by have := lnodes_pos l; omega) (by omega)
  rw [rsnds, i1]
  simp only [if_true]
  rw [i2]; simp; omega
end
theorem rsound_wf {v : Int} (hv : v ≤ 1000) {l : Lv} (h : l.wf v = true) (hn : l.nodes ≤ 100) : rsound l = true := by
 unfold rsound
 rw [rsnd_wf v hv l 1 0 h (by omega) (by omega)]
end Go.Proofs.Ytiampoebdmflgaa
