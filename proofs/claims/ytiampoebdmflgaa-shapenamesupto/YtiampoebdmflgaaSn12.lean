/- Texts put one behind the other: Nlevel, Tapps, Linst, Linst2, Ilev, Ilev2. -/
import Derived.Test.YtiampoebdmflgaaSn1
import Derived.Test.YtiampoebdmflgaaSn4
import Derived.Test.YtiampoebdmflgaaSn2
import Derived.Test.YtiampoebdmflgaaSn11
import Derived.Laws.MakeOwn
/- (level.norm).level. -/
namespace Go.Proofs.Ytiampoebdmflgaa
open Go.RowKit
set_option linter.unusedVariables false
set_option maxRecDepth 100000
set_option maxHeartbeats 4000000
set_option linter.unusedSimpArgs false
end Go.Proofs.Ytiampoebdmflgaa
/- term.Apps. -/
namespace Go.Proofs.Ytiampoebdmflgaa
open Go.RowKit
set_option linter.unusedVariables false
set_option maxRecDepth 100000
set_option maxHeartbeats 4000000
set_option linter.unusedSimpArgs false
end Go.Proofs.Ytiampoebdmflgaa
/- level.Inst: its visitor. -/
namespace Go.Proofs.Ytiampoebdmflgaa
open Go.RowKit
set_option linter.unusedVariables false
set_option maxRecDepth 100000
set_option maxHeartbeats 4000000
set_option linter.unusedSimpArgs false
theorem kat_cons (r : Array Value) (rows : List (Array Value)) : cat (r :: rows) = r.toList ++ cat rows := by simp [cat]
theorem kat_len {n : Nat} : ∀ rows : List (Array Value), (∀ x ∈ rows, x.size = n) → (cat rows).length = rows.length * n
 | [], _ => by simp [cat]
 | r :: rows, h => by
  have h1 := h r (by simp)
  have h2 := kat_len rows (fun x hx => h x (by simp [hx]))
  rw [kat_cons, List.length_append, Array.length_toList, h1, h2, List.length_cons, Nat.succ_mul]; omega
theorem kat_set {n : Nat} : ∀ (rows : List (Array Value)) (j : Nat) (r : Array Value), (∀ x ∈ rows, x.size = n) → r.size = n → j < rows.length → cat (rows.set j r) = (cat rows).take (j * n) ++ r.toList ++ (cat rows).drop (j * n + n)
 | [], j, _, _, _, h => absurd h (by simp)
 | x :: rows, 0, r, h, h2, _ => by
  have h1 := h x (by simp)
  simp only [List.set_cons_zero, kat_cons, Nat.zero_mul, Nat.zero_add, List.take_zero, List.nil_append]
  rw [List.drop_append_of_le_length (by rw [Array.length_toList, h1]; exact Nat.le_refl _), List.drop_of_length_le (by rw [Array.length_toList, h1]; exact Nat.le_refl _), List.nil_append]
 | x :: rows, j + 1, r, h, h2, hj => by
  have h1 := h x (by simp)
  have ih := kat_set rows j r (fun y hy => h y (by simp [hy])) h2 (by simpa using hj)
  simp only [List.set_cons_succ, kat_cons, ih]
  have e1 : (j + 1) * n = x.toList.length + j * n := by rw [Array.length_toList, h1, Nat.succ_mul]; omega
  have e2 : (j + 1) * n + n = x.toList.length + (j * n + n) := by rw [e1]; omega
  have f1 : ∀ (a b : List Value) (k : Nat), (a ++ b).take (a.length + k) = a ++ b.take k := fun a b k => by rw [List.take_append, List.take_of_length_le (by omega)]; congr 2; omega
  have f2 : ∀ (a b : List Value) (k : Nat), (a ++ b).drop (a.length + k) = b.drop k := fun a b k => by rw [List.drop_append, List.drop_of_length_le (by omega), List.nil_append]; congr 1; omega
  rw [e2, e1, f1, f2]
  simp only [List.append_assoc]
def InIs (W : World) (g : Nat) (s : List Nm) : Prop :=
 ∃ rows : List (Array Value), rows.length = s.length ∧ (∀ x ∈ rows, x.size = 2) ∧ Blk W g 177 (cat rows).toArray ∧ ∀ (j : Nat) (n : Nm), s[j]? = some n → ∃ r, rows[j]? = some r ∧ NmIs (fun q => q < W.heap.size ∧ q ≠ g) W n r
theorem InIs.upd {W W' : World} {g : Nat} {s : List Nm} (h : InIs W g s) (hu : Upd nob W W') : InIs W' g s := by
 obtain ⟨rows, h1, h2, h3, h4⟩ := h
 refine ⟨rows, h1, h2, h3.upd hu (fun f => f), fun j n hj => ?_⟩
 obtain ⟨r, hr, hn⟩ := h4 j n hj
 exact ⟨r, hr, hn.old (Old.of_upd hu fun q hq => ⟨fun f => f, hq.1⟩) (fun q hq => ⟨Nat.lt_of_lt_of_le hq.1 hu.size, hq.2⟩)⟩
theorem InIs.set {W : World} {g : Nat} {s : List Nm} (h : InIs W g s) {n : Nm} {r : Array Value} {j : Nat} (hj : j < s.length) (hr : NmIs (fun q => q < W.heap.size ∧ q ≠ g) W n r) :
    ∃ cur : Array Value, Blk W g 177 cur ∧ j * 2 + 2 ≤ cur.size ∧ InIs (W.setRow g (cur.toList.take (j * 2) ++ r.toList ++ cur.toList.drop (j * 2 + 2)).toArray) g (s.set j n) := by
 obtain ⟨rows, h1, h2, h3, h4⟩ := h
 have hrs : r.size = 2 := hr.cells.1
 have hsz : ((cat rows).toArray : Array Value).size = rows.length * 2 := by rw [List.size_toArray, kat_len rows h2]
 refine ⟨_, h3, by rw [hsz]; omega, rows.set j r, by simp [h1], fun x hx => ?_, ?_, fun i m hi => ?_⟩
 · rcases List.mem_or_eq_of_mem_set hx with hx | rfl
   · exact h2 x hx
   exact hrs
 · rw [kat_set rows j r h2 hrs (by omega)]; exact h3.row _
 have hu : Upd (fun q => q = g) W (W.setRow g ((cat rows).toArray.toList.take (j * 2) ++ r.toList ++ (cat rows).toArray.toList.drop (j * 2 + 2)).toArray) := (Upd.refl (fun q => q = g) W).setRow (.inl rfl) _
 have hol : Old (fun q => q < W.heap.size ∧ q ≠ g) W (W.setRow g ((cat rows).toArray.toList.take (j * 2) ++ r.toList ++ (cat rows).toArray.toList.drop (j * 2 + 2)).toArray) := Old.of_upd hu fun q hq => ⟨hq.2, hq.1⟩
 have hsz2 := hu.size
 rw [List.getElem?_set] at hi
 by_cases hij : j = i
 · subst hij
   rw [if_pos rfl, if_pos hj] at hi
   injection hi with hi
   subst hi
   exact ⟨r, by rw [List.getElem?_set, if_pos rfl, if_pos (by omega)], hr.old hol (fun q hq => ⟨by omega, hq.2⟩)⟩
 rw [if_neg hij] at hi
 obtain ⟨r', hr', hn'⟩ := h4 i m hi
 exact ⟨r', by rw [List.getElem?_set, if_neg hij]; exact hr', hn'.old hol (fun q hq => ⟨by omega, hq.2⟩)⟩
theorem InIs.at_ {W : World} {g : Nat} {s : List Nm} (h : InIs W g s) : NmsAt (There W) W s (some ⟨g, 0, none⟩) := fun j n hj => by
 obtain ⟨rows, h1, h2, h3, h4⟩ := h
 obtain ⟨r, hr, hn⟩ := h4 j n hj
 have hjl := (List.getElem?_eq_some_iff.1 hr)
 obtain ⟨hjl, rfl⟩ := hjl
 refine ⟨_, _, rfl, h3.lt, fun i v hv => ?_, hn.old (Old.refl _ _) (fun q hq => hq.1)⟩
 refine h3.rowAt _ _ ?_ |>.trans rfl |> fun h => by simpa [Addr_add_add] using h
 have := cat_get rows 2 h2 j hjl i v hv
 simpa using this
def InR (D : Nat → Prop) (vs : List Lv) (g1 g2 gN : Nat) (s : List Nm) (W : World) : Prop :=
 (∃ A c, Blk W g1 22 #[.slice A vs.length c] ∧ LvsAt D W vs A 0) ∧ Blk W g2 188 #[.slice (some ⟨gN, 0, none⟩) vs.length vs.length] ∧ s.length = vs.length ∧ InIs W gN s ∧ Within D W ∧ (g1 ≠ gN ∧ g2 ≠ gN ∧ ¬ D gN)
theorem InR.upd {D : Nat → Prop} {vs : List Lv} {g1 g2 gN : Nat} {s : List Nm} {W W' : World} (h : InR D vs g1 g2 gN s W) (hu : Upd nob W W') : InR D vs g1 g2 gN s W' := by
 obtain ⟨⟨A, c, h1, h2⟩, h3, h4, h5, h6, h7⟩ := h
 exact ⟨⟨A, c, h1.upd hu (fun f => f), h2.old (h6.old hu) (fun _ h => h)⟩, h3.upd hu (fun f => f), h4, h5.upd hu, h6.up hu, h7⟩
end Go.Proofs.Ytiampoebdmflgaa
/- level.Inst. -/
namespace Go.Proofs.Ytiampoebdmflgaa
open Go.RowKit
set_option linter.unusedVariables false
set_option maxRecDepth 100000
set_option maxHeartbeats 4000000
set_option linter.unusedSimpArgs false
end Go.Proofs.Ytiampoebdmflgaa
/- term.InstLevels's ends. -/
namespace Go.Proofs.Ytiampoebdmflgaa
open Go.RowKit
set_option linter.unusedVariables false
set_option maxRecDepth 100000
set_option maxHeartbeats 4000000
set_option linter.unusedSimpArgs false
end Go.Proofs.Ytiampoebdmflgaa
/- term.InstLevels. -/
namespace Go.Proofs.Ytiampoebdmflgaa
open Go.RowKit
set_option linter.unusedVariables false
set_option maxRecDepth 100000
set_option maxHeartbeats 4000000
set_option linter.unusedSimpArgs false
end Go.Proofs.Ytiampoebdmflgaa
