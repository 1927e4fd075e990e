/- Texts put one behind the other: Wapply, Winst, Glob, Find, Wsteps, Wsteps2, Wmajor, Widx, Wcc, Rapp. -/
import Derived.Test.YtiampoebdmflgaaSn12
import Derived.Test.YtiampoebdmflgaaSn5
import Derived.Test.YtiampoebdmflgaaSn2
import Derived.Test.YtiampoebdmflgaaSn4
import Derived.MapKept
import Derived.Test.YtiampoebdmflgaaSn11
import Derived.Lib.AppendZerosOnto
import Derived.Lib.SliceRun
/- whnf.apply, inst, levels. -/
namespace Go.Proofs.Ytiampoebdmflgaa
open Go.RowKit
set_option linter.unusedVariables false
set_option maxRecDepth 100000
set_option maxHeartbeats 4000000
set_option linter.unusedSimpArgs false
end Go.Proofs.Ytiampoebdmflgaa
/- whnf.inst, levels. -/
namespace Go.Proofs.Ytiampoebdmflgaa
open Go.RowKit
set_option linter.unusedVariables false
set_option maxRecDepth 100000
set_option maxHeartbeats 4000000
set_option linter.unusedSimpArgs false
end Go.Proofs.Ytiampoebdmflgaa
/- Globals, environments: what it means that memory holds them. -/
namespace Go.Proofs.Ytiampoebdmflgaa
open Go.RowKit
set_option linter.unusedVariables false
set_option maxRecDepth 100000
set_option maxHeartbeats 1000000
structure Rul where
 ctor : ByteArray
 fields : Int
 body : Tm
structure Glb where
 kind : Int
 nm : ByteArray
 vars : Int
 ty : Tm
 val : Tm
 ind : ByteArray
 params : Int
 indices : Int
 fields : Int
 ctors : List ByteArray
 minors : Int
 rules : List Rul
def StrsAt (D : Nat → Prop) (w : World) (l : List ByteArray) (A : Option Addr) : Prop := ∀ (j : Nat) s, l[j]? = some s → ∃ a, A = some a ∧ D a.block ∧ w.cell? (a.add j) = some (.string s)
theorem StrsAt.old {D D' : Nat → Prop} {w w' : World} {l : List ByteArray} {A : Option Addr} (h : StrsAt D w l A) (ho : Old D w w') (hD : ∀ k, D k → D' k) : StrsAt D' w' l A := fun j s hj => by
 obtain ⟨a, h1, h2, h3⟩ := h j s hj
 exact ⟨a, h1, hD _ h2, (ho.cell (by rw [Addr_add_block]; exact h2)).trans h3⟩
def RuIs (D : Nat → Prop) (w : World) (r : Rul) (cs : Array Value) : Prop := ∃ bc, cs = #[Value.string r.ctor, .int .i64 r.fields] ++ bc ∧ InI r.fields ∧ r.ctor.size ≤ 140737488351232 ∧ TmIs D w r.body bc
theorem RuIs.old {D D' : Nat → Prop} {w w' : World} {r : Rul} {cs : Array Value} (ho : Old D w w') (hD : ∀ k, D k → D' k) (h : RuIs D w r cs) : RuIs D' w' r cs := by
 obtain ⟨bc, h1, h2, h3, h4⟩ := h
 exact ⟨bc, h1, h2, h3, h4.old ho hD⟩
theorem RuIs.cells {D : Nat → Prop} {w : World} {r : Rul} {cs : Array Value} (h : RuIs D w r cs) : cs.size = 10 ∧ cs.all (·.oneCell') = true := by
 obtain ⟨bc, rfl, _, _, h4⟩ := h
 have h5 := h4.oneCell
 refine ⟨by rw [Array.size_append, h5.1]; rfl, ?_⟩
 rw [Array.all_append, h5.2]
 simp [Value.oneCell']
def RusAt (D : Nat → Prop) (w : World) (l : List Rul) (A : Option Addr) : Prop := ∀ (j : Nat) r, l[j]? = some r → ∃ a cs, A = some a ∧ D a.block ∧ rowAt w (a.add (j * 10)) cs ∧ RuIs D w r cs
theorem RusAt.old {D D' : Nat → Prop} {w w' : World} {l : List Rul} {A : Option Addr} (h : RusAt D w l A) (ho : Old D w w') (hD : ∀ k, D k → D' k) : RusAt D' w' l A := fun j r hj => by
 obtain ⟨a, cs, h1, h2, h3, h4⟩ := h j r hj
 exact ⟨a, cs, h1, hD _ h2, h3.old ho (by rw [Addr_add_block]; exact h2), h4.old ho hD⟩
def GlIs (D : Nat → Prop) (w : World) (g : Glb) (cs : Array Value) : Prop :=
 ∃ (a0 a1 a2 a3 a4 a5 a6 a7 b0 b1 b2 b3 b4 b5 b6 b7 : Value) (C : Option Addr) (cc : Nat) (R : Option Addr) (rc : Nat), cs = #[.int .i64 g.kind, .string g.nm, .int .i64 g.vars, a0, a1, a2, a3, a4, a5, a6, a7, b0, b1, b2, b3, b4, b5, b6, b7, .string g.ind, .int .i64 g.params, .int .i64 g.indices, .int .i64 g.fields, .slice C g.ctors.length cc, .int .i64 g.minors, .slice R g.rules.length rc] ∧
  (InI g.kind ∧ InI g.vars ∧ InI g.params ∧ InI g.indices ∧ InI g.fields ∧ InI g.minors) ∧ (g.nm.size ≤ 140737488351232 ∧ g.ind.size ≤ 140737488351232) ∧
  TmIs D w g.ty #[a0, a1, a2, a3, a4, a5, a6, a7] ∧ TmIs D w g.val #[b0, b1, b2, b3, b4, b5, b6, b7] ∧ StrsAt D w g.ctors C ∧ (g.ctors.length * 16 ≤ 140737488351232 ∧ g.ctors.length ≤ cc) ∧ RusAt D w g.rules R ∧ (g.rules.length * 144 ≤ 140737488351232 ∧ g.rules.length ≤ rc)
theorem GlIs.old {D D' : Nat → Prop} {w w' : World} {g : Glb} {cs : Array Value} (ho : Old D w w') (hD : ∀ k, D k → D' k) (h : GlIs D w g cs) : GlIs D' w' g cs := by
 obtain ⟨a0, a1, a2, a3, a4, a5, a6, a7, b0, b1, b2, b3, b4, b5, b6, b7, C, cc, R, rc, h1, h2, h3, h4, h5, h6, h7, h8, h9⟩ := h
 exact ⟨a0, a1, a2, a3, a4, a5, a6, a7, b0, b1, b2, b3, b4, b5, b6, b7, C, cc, R, rc, h1, h2, h3, h4.old ho hD, h5.old ho hD, h6.old ho hD, h7, h8.old ho hD, h9⟩
theorem GlIs.cells {D : Nat → Prop} {w : World} {g : Glb} {cs : Array Value} (h : GlIs D w g cs) : cs.size = 26 ∧ cs.all (·.oneCell') = true := by
 obtain ⟨a0, a1, a2, a3, a4, a5, a6, a7, b0, b1, b2, b3, b4, b5, b6, b7, C, cc, R, rc, rfl, _, _, h4, h5, _, _, _, _⟩ := h
 have q4 := h4.oneCell.2
 have q5 := h5.oneCell.2
 refine ⟨rfl, ?_⟩
 simp [Value.oneCell'] at q4 q5 ⊢
 simp [q4, q5]
/-! ### Maps of strings to pointers -/
def mapE (l : List (ByteArray × Value)) : Array MapEntry := (l.mapIdx fun i x => (⟨.string x.1, x.2, i⟩ : MapEntry)).toArray
def MapIs (w : World) (b : Nat) (l : List (ByteArray × Value)) : Prop := w.heap[b]? = some (.map (mapE l) l.length)
theorem MapIs.lt {w : World} {b : Nat} {l : List (ByteArray × Value)} (h : MapIs w b l) : b < w.heap.size := (Array.getElem?_eq_some_iff.1 h).1
theorem MapIs.upd {S : Nat → Prop} {w w' : World} {b : Nat} {l : List (ByteArray × Value)} (h : MapIs w b l) (hu : Upd S w w') (hS : ¬ S b) : MapIs w' b l := (hu.block b h.lt hS).trans h
theorem MapIs.old {D : Nat → Prop} {w w' : World} {b : Nat} {l : List (ByteArray × Value)} (h : MapIs w b l) (ho : Old D w w') (hb : D b) : MapIs w' b l := (ho b hb).trans h
theorem MapIs.new (w : World) : MapIs (w.alloc (.map #[] 0)) w.heap.size [] := by
 have := heap_alloc_new w (.map #[] 0)
 simpa [MapIs, mapE] using this
section
variable {P : Program} {w : World} {b : Nat} {l : List (ByteArray × Value)} {mty kt et : TypeId}
end
end Go.Proofs.Ytiampoebdmflgaa
/- Environments: find. -/
namespace Go.Proofs.Ytiampoebdmflgaa
open Go.RowKit
set_option linter.unusedVariables false
set_option maxRecDepth 100000
set_option maxHeartbeats 4000000
set_option linter.unusedSimpArgs false
def envM (G : List Glb) (ps : List Nat) : List (ByteArray × Value) := (G.zip ps).map fun x => (x.1.nm, .pointer (some ⟨x.2, 0, none⟩))
def EnvIs (D : Nat → Prop) (w : World) (eb : Nat) (G : List Glb) : Prop :=
 ∃ (L : Option Addr) (c mb : Nat) (ps : List Nat), ps.length = G.length ∧ D eb ∧ Blk w eb 108 #[.slice L G.length c, .map (some mb)] ∧ (G.length ≤ c ∧ G.length ≤ 1000000000) ∧
  (∀ (j : Nat) p, ps[j]? = some p → ∃ a, L = some a ∧ D a.block ∧ w.cell? (a.add j) = some (.pointer (some ⟨p, 0, none⟩))) ∧ D mb ∧ MapIs w mb (envM G ps) ∧
  (∀ (j : Nat) g p, G[j]? = some g → ps[j]? = some p → D p ∧ ∃ cs, Blk w p 74 cs ∧ GlIs D w g cs) ∧ (G.map (·.nm)).Nodup
theorem EnvIs.old {D D' : Nat → Prop} {w w' : World} {eb : Nat} {G : List Glb} (h : EnvIs D w eb G) (ho : Old D w w') (hD : ∀ k, D k → D' k) : EnvIs D' w' eb G := by
 obtain ⟨L, c, mb, ps, h1, h2, h3, h4, h5, h6, h7, h8, h9⟩ := h
 refine ⟨L, c, mb, ps, h1, hD _ h2, (ho _ h2).trans h3, h4, fun j p hj => ?_, hD _ h6, h7.old ho h6, fun j g p hj hp => ?_, h9⟩
 · obtain ⟨a, q1, q2, q3⟩ := h5 j p hj
   exact ⟨a, q1, hD _ q2, (ho.cell (by rw [Addr_add_block]; exact q2)).trans q3⟩
 obtain ⟨q1, cs, q2, q3⟩ := h8 j g p hj hp
 exact ⟨hD _ q1, cs, (ho _ q1).trans q2, q3.old ho hD⟩
def EnvV (D : Nat → Prop) (w : World) (v : Value) (G : List Glb) : Prop := (v = .pointer none ∧ G = []) ∨ ∃ eb, v = .pointer (some ⟨eb, 0, none⟩) ∧ EnvIs D w eb G
theorem EnvV.old {D D' : Nat → Prop} {w w' : World} {v : Value} {G : List Glb} (h : EnvV D w v G) (ho : Old D w w') (hD : ∀ k, D k → D' k) : EnvV D' w' v G := by
 rcases h with h | ⟨eb, h1, h2⟩
 · exact .inl h
 exact .inr ⟨eb, h1, h2.old ho hD⟩
def gfind (G : List Glb) (nm : ByteArray) : Option Glb := G.find? fun g => g.nm == nm
def FoundIs (D : Nat → Prop) (w : World) (G : List Glb) (nm : ByteArray) (v : Value) : Prop :=
 (v = .pointer none ∧ gfind G nm = none) ∨ ∃ g b cs, v = .pointer (some ⟨b, 0, none⟩) ∧ gfind G nm = some g ∧ D b ∧ Blk w b 74 cs ∧ GlIs D w g cs
theorem FoundIs.old {D D' : Nat → Prop} {w w' : World} {G : List Glb} {nm : ByteArray} {v : Value} (h : FoundIs D w G nm v) (ho : Old D w w') (hD : ∀ k, D k → D' k) : FoundIs D' w' G nm v := by
 rcases h with h | ⟨g, b, cs, h1, h2, h3, h4, h5⟩
 · exact .inl h
 exact .inr ⟨g, b, cs, h1, h2, hD _ h3, (ho _ h3).trans h4, h5.old ho hD⟩
end Go.Proofs.Ytiampoebdmflgaa
/- whnf: what step hands back. -/
namespace Go.Proofs.Ytiampoebdmflgaa
open Go.RowKit
set_option linter.unusedVariables false
set_option maxRecDepth 100000
set_option maxHeartbeats 4000000
set_option linter.unusedSimpArgs false
def BoxTms (D : Nat → Prop) (w : World) (b : Nat) (l : List Tm) : Prop := ∃ A c, Blk w b 25 #[.slice A l.length c] ∧ (l.length * 120 ≤ 140737488351232 ∧ l.length ≤ c) ∧ TmsAt D w l A 0
def BoxTm (D : Nat → Prop) (w : World) (b : Nat) (t : Tm) : Prop := ∃ cs, Blk w b 27 cs ∧ TmIs D w t cs
theorem BoxTms.old {D D' : Nat → Prop} {w w' : World} {b : Nat} {l : List Tm} (h : BoxTms D w b l) (ho : Old D w w') (hD : ∀ k, D k → D' k) (hb : w'.heap[b]? = w.heap[b]?) : BoxTms D' w' b l := by
 obtain ⟨A, c, h1, h2, h3⟩ := h
 exact ⟨A, c, hb.trans h1, h2, h3.old ho hD⟩
theorem BoxTm.old {D D' : Nat → Prop} {w w' : World} {b : Nat} {t : Tm} (h : BoxTm D w b t) (ho : Old D w w') (hD : ∀ k, D k → D' k) (hb : w'.heap[b]? = w.heap[b]?) : BoxTm D' w' b t := by
 obtain ⟨cs, h1, h2⟩ := h
 exact ⟨cs, hb.trans h1, h2.old ho hD⟩
end Go.Proofs.Ytiampoebdmflgaa
/- whnf: what step and iota hand back, more. -/
namespace Go.Proofs.Ytiampoebdmflgaa
open Go.RowKit
set_option linter.unusedVariables false
set_option maxRecDepth 100000
set_option maxHeartbeats 4000000
set_option linter.unusedSimpArgs false
end Go.Proofs.Ytiampoebdmflgaa
/- whnf.major; iota's rule. -/
namespace Go.Proofs.Ytiampoebdmflgaa
open Go.RowKit
set_option linter.unusedVariables false
set_option maxRecDepth 100000
set_option maxHeartbeats 4000000
set_option linter.unusedSimpArgs false
end Go.Proofs.Ytiampoebdmflgaa
/- whnf: which of a recursor's rules (slices.IndexFunc). -/
namespace Go.Proofs.Ytiampoebdmflgaa
open Go.RowKit
set_option linter.unusedVariables false
set_option maxRecDepth 100000
set_option maxHeartbeats 4000000
set_option linter.unusedSimpArgs false
end Go.Proofs.Ytiampoebdmflgaa
/- slices.Grow, Concat of terms. -/
namespace Go.Proofs.Ytiampoebdmflgaa
open Go.RowKit
set_option linter.unusedVariables false
set_option maxRecDepth 100000
set_option maxHeartbeats 4000000
set_option linter.unusedSimpArgs false
end Go.Proofs.Ytiampoebdmflgaa
/- A row of things in memory; several are appended to a row of the call's own. Globals, rules, strings, pointers as readings. -/
namespace Go.Proofs.Ytiampoebdmflgaa
open Go.RowKit
set_option linter.unusedVariables false
set_option maxRecDepth 100000
set_option maxHeartbeats 4000000
set_option linter.unusedSimpArgs false
section
variable {α : Type} {n : Nat}
def RAt (R : Reading α n) (D : Nat → Prop) (w : World) (l : List α) (A : Option Addr) : Prop := ∀ (j : Nat) x, l[j]? = some x → ∃ a cs, A = some a ∧ D a.block ∧ rowAt w (a.add (j * n)) cs ∧ R.is D w x cs
theorem RAt.old {R : Reading α n} {D D' : Nat → Prop} {w w' : World} {l : List α} {A : Option Addr} (h : RAt R D w l A) (ho : Old D w w') (hD : ∀ k, D k → D' k) : RAt R D' w' l A := fun j x hj => by
 obtain ⟨a, cs, h1, h2, h3, h4⟩ := h j x hj
 exact ⟨a, cs, h1, hD _ h2, h3.old ho (by rw [Addr_add_block]; exact h2), R.old ho hD h4⟩
theorem RAt.nil_ {R : Reading α n} {D : Nat → Prop} {w : World} {A : Option Addr} : RAt R D w [] A := fun j x h => by simp at h
theorem Coll.rat {R : Reading α n} {E D : Nat → Prop} {base : Nat} {e : TypeId} {w : World} {v : Value} {ls : List α} (h : Coll R E base e w v ls) (hD : ∀ x, E x ∨ (base ≤ x ∧ x < w.heap.size) → D x) : ∃ A c, v = .slice A ls.length c ∧ ls.length ≤ c ∧ RAt R D w ls A := by
 obtain ⟨rows, hr, hrr⟩ := h.rows
 obtain ⟨A, c, hv, hcp⟩ := hr.form
 refine ⟨A, c, by rw [hv, ← hrr.1], by rw [← hrr.1]; exact hcp, fun j l hj => ?_⟩
 have hjl : j < rows.length := by have := (List.getElem?_eq_some_iff.1 hj).1; rw [hrr.1]; exact this
 obtain ⟨g, cap, hv2, hrow⟩ := hr.at_ hjl
 have hA : A = some ⟨g, 0, none⟩ := by rw [hv] at hv2; injection hv2
 have hlt := hr.lt (g := g) (by rw [hv2]; rfl)
 exact ⟨⟨g, 0, none⟩, rows[j], hA, hD _ (.inr hlt), hrow, R.old (Old.refl _ _) (fun k hk => hD k hk.1) (hrr.2 j l rows[j] hj (List.getElem?_eq_getElem hjl))⟩
end
end Go.Proofs.Ytiampoebdmflgaa
