/- Texts put one behind the other: Wmap, AnyS, Wwith, Wfind, Wlight, Zkids, Zbind, Zapp, Wawk0, Wawk. -/
import Derived.Test.YtiampoebdmflgaaGreatF5
import Derived.Test.YtiampoebdmflgaaGreatF0
import Derived.Test.YtiampoebdmflgaaGreatF8
import Derived.Test.YtiampoebdmflgaaGreatF2
/- A map of strings: a new name is put in. -/
namespace Go.Proofs.YtiampoebdmflgaaGreat
open Go.RowKit
set_option linter.unusedVariables false
set_option maxRecDepth 100000
set_option maxHeartbeats 1000000
def setMap (w : World) (b : Nat) (l : List (ByteArray × Value)) : World := { w with heap := w.heap.setIfInBounds b (.map (mapE l) l.length) }
theorem setMap_is {w : World} {b : Nat} {l l' : List (ByteArray × Value)} (h : MapIs w b l) : MapIs (setMap w b l') b l' := (MapKept.heap_set h).1
theorem setMap_upd {w : World} {b : Nat} {l l' : List (ByteArray × Value)} (h : MapIs w b l) : Upd (fun q => q = b) w (setMap w b l') :=
 ⟨rfl, rfl, rfl, by simp [setMap], fun k _ hk => (MapKept.heap_set h).2 k hk⟩
section
variable {P : Program} {w : World} {b : Nat} {l : List (ByteArray × Value)} {mty kt et : TypeId}
theorem find_new {s : ByteArray} (hn : mlook l s = none) : Instr.findNow .string (.string s) (mapE l).toList 0 = some none := by
 have hf := findNow_str s l 0 0
 have hq : l.findIdx? (fun x => x.1 == s) = none := by
  rw [List.findIdx?_eq_none_iff]
  intro x hx
  unfold mlook at hn
  rw [Option.map_eq_none_iff, List.find?_eq_none] at hn
  have := hn x hx
  simpa using this
 rw [hq] at hf
 simpa [mapE] using hf
theorem run_upd_new (hm : P.underlying mty = some (.map kt et)) (hd : P.underlying kt = some .string) (h : MapIs w b l) (s : ByteArray) (v : Value) (hn : mlook l s = none) :
    (Instr.mapUpdate mty (.map (some b)) (.string s) v).run P w = .ok () (setMap w b (l ++ [(s, v)])) := by
 have hk : MapKept.IsKey .string (.string s) := trivial
 simp [Instr.mapUpdate, run_underlying hm, MapKept.run_getObj_map h, MapKept.run_checkKey hd hk, MapKept.run_findKey hd (find_new hn), MapKept.run_setObj_map _ h, Result.andThen, setMap, mapE_push]
theorem run_entry_new (hm : P.underlying mty = some (.map kt et)) (hd : P.underlying kt = some .string) (hz : ∀ w, (zeroValue et).run P w = .ok (.pointer none) w) (h : MapIs w b l) (s : ByteArray) (hn : mlook l s = none) :
    (Instr.mapEntry mty (.map (some b)) (.string s)).run P w = .ok (.tuple #[.pointer none, .int .i64 l.length]) (setMap w b (l ++ [(s, .pointer none)])) := by
 have hk : MapKept.IsKey .string (.string s) := trivial
 simp [Instr.mapEntry, run_underlying hm, MapKept.run_getObj_map h, MapKept.run_checkKey hd hk, MapKept.run_findKey hd (find_new hn), hz, MapKept.run_setObj_map _ h, Result.andThen, setMap, mapE_push, goInt]
theorem mapE_last (s : ByteArray) (v0 v : Value) : (mapE (l ++ [(s, v0)])).modify l.length (fun e => { e with val := v }) = mapE (l ++ [(s, v)]) := by
 rw [← mapE_push, ← mapE_push]
 apply Array.ext
 · simp
 intro i h1 h2
 rw [Array.getElem_modify]
 by_cases hi : l.length = i
 · subst hi
   simp [Array.getElem_push, mapE_size]
 have : i < (mapE l).size := by simp [mapE_size] at h2 ⊢; omega
 rw [if_neg hi, Array.getElem_push_lt this, Array.getElem_push_lt this]
theorem mapE_born (s : ByteArray) (v0 : Value) : (mapE (l ++ [(s, v0)])).findIdx? (fun e => (e.born : Int) == (l.length : Int)) = some l.length := by
 rw [Array.findIdx?_eq_some_iff_getElem]
 refine ⟨by simp [mapE_size], ?_, fun j hj => ?_⟩
 · simp [mapE]
 have : j < (mapE l).size := by rw [mapE_size]; exact hj
 have h2 : ((mapE (l ++ [(s, v0)]))[j]'(by simp [mapE_size]; omega)).born = j := by
  simp only [← mapE_push]
  rw [Array.getElem_push_lt this]
  simp [mapE]
 rw [h2]
 simp
 omega
theorem run_entryStore {s : ByteArray} {v0 : Value} (h : MapIs w b (l ++ [(s, v0)])) (v : Value) : (Instr.entryStore mty (.map (some b)) (.int .i64 l.length) v).run P w = .ok () (setMap w b (l ++ [(s, v)])) := by
 have hl : (l ++ [(s, v0)]).length = (l ++ [(s, v)]).length := by simp
 simp only [Instr.entryStore, Sem.run_bind, MapKept.run_getObj_map h, Result.andThen]
 have hi : (asInt (.int .i64 (l.length : Int))).run P w = .ok (l.length : Int) w := by simp [asInt, asIntOf]
 simp only [hi, mapE_born, MapKept.run_setObj_map _ h, mapE_last, setMap, hl]
end
section
variable {P : Program} {w : World} {b : Nat} {l : List (ByteArray × Value)} {mty kt et : TypeId} {o : Oper} {a : Act} {K : Act → World → Prop} {Q : Exit → Act → World → Prop}
theorem owp_upd_new (x y z : Operand) (ho : o.op = .mapUpdate mty x y z) (s : ByteArray) (v : Value) (hx : a.eval x = .map (some b)) (hy : a.eval y = .string s) (hv : a.eval z = v)
    (hm : P.underlying mty = some (.map kt et)) (hd : P.underlying kt = some .string) (h : MapIs w b l) (hn : mlook l s = none) (k : K (a.put o.dst undef) (setMap w b (l ++ [(s, v)]))) : o.wp P a w K Q := by
 unfold Oper.wp execOp
 have hr := run_upd_new hm hd h s v hn
 simp only [ho, hx, hy, hv, Sem.run_bind, hr, Result.andThen_ok, Sem.run_pure]
 exact k
theorem owp_entry_new (x y : Operand) (ho : o.op = .mapEntry mty x y) (s : ByteArray) (hx : a.eval x = .map (some b)) (hy : a.eval y = .string s)
    (hm : P.underlying mty = some (.map kt et)) (hd : P.underlying kt = some .string) (hz : ∀ w, (zeroValue et).run P w = .ok (.pointer none) w) (h : MapIs w b l) (hn : mlook l s = none) (N : Nat) (hN : l.length = N)
    (k : K (a.put o.dst (.tuple #[.pointer none, .int .i64 N])) (setMap w b (l ++ [(s, .pointer none)]))) : o.wp P a w K Q := by
 subst hN
 unfold Oper.wp execOp
 have hr := run_entry_new hm hd hz h s hn
 simp only [ho, hx, hy, Sem.run_bind, hr, Result.andThen_ok, Sem.run_pure]
 exact k
theorem owp_entryStore (x y z : Operand) (ho : o.op = .entryStore mty x y z) (s : ByteArray) (v v0 : Value) (hx : a.eval x = .map (some b)) (N : Nat) (hN : l.length = N) (hy : a.eval y = .int .i64 N) (hv : a.eval z = v)
    (h : MapIs w b (l ++ [(s, v0)])) (k : K (a.put o.dst undef) (setMap w b (l ++ [(s, v)]))) : o.wp P a w K Q := by
 subst hN
 unfold Oper.wp execOp
 have hr := run_entryStore (P := P) (mty := mty) h v
 simp only [ho, hx, hy, hv, Sem.run_bind, hr, Result.andThen_ok, Sem.run_pure]
 exact k
end
/-! ### What a name stands for, in lists -/
theorem mlook_env (G : List Glb) (ps : List Nat) (nm : ByteArray) (h : ps.length = G.length) : mlook (envM G ps) nm = none ↔ gfind G nm = none := by
 rcases look_env nm G ps h with ⟨a, b⟩ | ⟨j, g, p, _, _, h3, h4⟩
 · simp [a, b]
 simp [h3, h4]
theorem gfind_none {G : List Glb} {nm : ByteArray} : gfind G nm = none ↔ nm ∉ G.map (·.nm) := by
 unfold gfind
 rw [List.find?_eq_none]
 simp only [List.mem_map, not_exists, not_and]
 constructor
 · intro h g hg e
   exact h g hg (by rw [e, beq_bytes]; simp)
 intro h g hg e
 rw [beq_bytes] at e
 exact h g hg (by simpa using e)
end Go.Proofs.YtiampoebdmflgaaGreat
/- A region that draws its order: what holds on the way may hang on which operations have come up. -/
namespace Go.Proofs.YtiampoebdmflgaaGreat
open Go.RowKit
set_option linter.unusedVariables false
section
variable {P : Program} {ops : Array Oper} {Q : Exit → Act → World → Prop} {md : Region.Mode}
def flags (Z : List Nat) (listed : Array Bool) : List Bool := Z.map fun z => listed.getD z false
theorem flags_set {Z : List Nat} {i : Nat} (h : Z.contains i = false) (listed : Array Bool) : flags Z (listed.setIfInBounds i true) = flags Z listed := by
 unfold flags
 refine List.map_congr_left fun z hz => ?_
 have : i ≠ z := fun e => by
  subst e
  rw [List.contains_iff_mem.2 hz] at h
  cases h
 exact getD_set_ne false this
def wpAnyS (P : Program) (md : Region.Mode) (ops : Array Oper) (Q : Exit → Act → World → Prop) (Z : List Nat) (F : List Bool → World → Prop) : Nat → Array Bool → Act → World → Prop
 | 0, listed, a, w => Region.ready md ops listed = [] ∧ Q .normal a w
 | fuel + 1, listed, a, w =>
  (Region.ready md ops listed = [] → Q .normal a w) ∧
  ∀ i ∈ Region.ready md ops listed, wpOp P ops Q i (fun a' w' => F (flags Z (listed.setIfInBounds i true)) w' ∧ wpAnyS P md ops Q Z F fuel (listed.setIfInBounds i true) a' w') a w
variable {Z : List Nat} {F : List Bool → World → Prop}
theorem wpAny_of_S (Z : List Nat) (F : List Bool → World → Prop) : ∀ (fuel : Nat) (listed : Array Bool) (a : Act) (w : World), wpAnyS P md ops Q Z F fuel listed a w → wpAny P md ops Q fuel listed a w
 | 0, _, _, _, h => h
 | fuel + 1, _, _, _, h => ⟨h.1, fun i hi => wpOp_mono (fun a' w' h' => wpAny_of_S Z F fuel _ a' w' h'.2) (h.2 i hi)⟩
theorem unl {L : Array Bool} (hc : Closed md ops L) {z i : Nat} (l : List Nat) (hz : pathB md ops z l i = true) (h : L.getD i true = false) : L.getD z false = false := by
 cases hq : L.getD z false with
 | false => rfl
 | true => exact (getD_false_true h (path_listed hc l z hz fun o ho => hc z o ho hq)).elim
def allow (md : Region.Mode) (ops : Array Oper) (Z : List Nat) (F : List Bool → World → Prop) (i : Nat) : World → Prop := fun X => ∃ L : Array Bool, Closed md ops L ∧ L.getD i true = false ∧ F (flags Z L) X
theorem wpAnyS_first {i : Nat} {oi : Oper} {v : Value} (hi : ops[i]? = some oi) (hiZ : Z.contains i = false) (hsel : ∀ (j : Nat) (o : Oper) cs b, ops[j]? = some o → o.op ≠ .select cs b)
    (hQ : ∀ c a w, Q (.panic c) (a.put oi.dst v) w → Q (.panic c) a w) :
    ∀ (fuel : Nat) (listed : Array Bool) (a : Act) (w : World), Closed md ops listed →
     (∀ j oj, ops[j]? = some oj → j ≠ i → listed.getD j true = false → (∀ e ∈ oj.after, Region.binds md e = true → e.on ≠ i) → oi.apart ops oj = true) →
     i ∈ Region.ready md ops listed → YieldsIf P ops (allow md ops Z F i) oi v a → F (flags Z listed) w →
     wpAnyS P md ops Q Z F fuel (listed.setIfInBounds i true) (a.put oi.dst v) w → wpAnyS P md ops Q Z F (fuel + 1) listed a w := by
 intro fuel
 induction fuel with
 | zero =>
  intro listed a w hcl _ hr hy hS H
  refine ⟨fun h => (by rw [h] at hr; cases hr), fun j hj => ?_⟩
  have hun := (mem_ready.1 hr).1
  by_cases hji : j = i
  · subst hji; exact hy.wpOp hi ⟨listed, hcl, hun, hS⟩ ⟨by rw [flags_set hiZ]; exact hS, H⟩
  have := ready_mono hj hji
  rw [H.1] at this
  cases this
 | succ fuel ih =>
  intro listed a w hcl hfree hr hy hS H
  have hun := (mem_ready.1 hr).1
  refine ⟨fun h => (by rw [h] at hr; cases hr), fun j hj => ?_⟩
  by_cases hji : j = i
  · subst hji; exact hy.wpOp hi ⟨listed, hcl, hun, hS⟩ ⟨by rw [flags_set hiZ]; exact hS, H⟩
  have h1 := H.2 j (ready_mono hj hji)
  obtain ⟨hjun, oj, hoj, hall⟩ := mem_ready.1 hj
  have hnot : ∀ e ∈ oj.after, Region.binds md e = true → e.on ≠ i := fun e he hb heq => by
   have h1 := hall e he hb
   rw [heq] at h1
   exact getD_false_true hun h1
  have h2 := wpOp_putIf hoj (hfree j oj hoj hji hjun hnot) (fun cs b => hsel i oi cs b hi) (fun cs b => hsel j oj cs b hoj) hQ hy h1
  have hfree' : ∀ k ok, ops[k]? = some ok → k ≠ i → (listed.setIfInBounds j true).getD k true = false →
      (∀ e ∈ ok.after, Region.binds md e = true → e.on ≠ i) → oi.apart ops ok = true := fun k ok hk hki hun hno => by
   refine hfree k ok hk hki ?_ hno
   by_cases hjk : j = k
   · subst hjk; exact hjun
   rw [getD_set_ne true hjk] at hun; exact hun
  refine wpOp_mono (fun a' w' h3 => ?_) h2
  have hS' : F (flags Z (listed.setIfInBounds j true)) w' := by
   have := h3.2.1
   rw [Array.setIfInBounds_comm _ _ (Ne.symm hji), flags_set hiZ] at this
   exact this
  refine ⟨hS', ih (listed.setIfInBounds j true) a' w' (closed_set hcl hj) hfree' (ready_mono hr (Ne.symm hji)) h3.1 hS' ?_⟩
  rw [Array.setIfInBounds_comm _ _ hji]
  exact h3.2.2
def takesS (md : Region.Mode) (ops : Array Oper) (listed : Array Bool) (Z : List Nat) (i : Nat) : Bool :=
 !Z.contains i && Region.noSelect ops && Region.free md ops listed i && (Region.ready md ops listed).contains i && closedB md ops listed
theorem wpAnyS_take {i : Nat} {oi : Oper} {v : Value} {fuel : Nat} {listed : Array Bool} {a : Act} {w : World} (fl : List Bool) (hi : ops[i]? = some oi) (ht : (takesS md ops listed Z i && (flags Z listed == fl)) = true)
    (hQ : ∀ c a w, Q (.panic c) (a.put oi.dst v) w → Q (.panic c) a w) (hy : YieldsIf P ops (allow md ops Z F i) oi v a) (hS : F fl w)
    (h : wpAnyS P md ops Q Z F fuel (listed.setIfInBounds i true) (a.put oi.dst v) w) : wpAnyS P md ops Q Z F (fuel + 1) listed a w := by
 simp only [takesS, Bool.and_eq_true] at ht
 obtain ⟨⟨⟨⟨⟨h1, h3⟩, h4⟩, h5⟩, h6⟩, h7⟩ := ht
 obtain rfl : flags Z listed = fl := by simpa using h7
 exact wpAnyS_first hi (by simpa using h1) (Region.noSelect_spec h3) hQ fuel listed a w (closed_of h6) (Region.free_spec hi h4) (by simpa using h5) hy hS h
theorem sT (i : Nat) {oi : Oper} (v : Value) {fuel : Nat} {listed : Array Bool} {a : Act} {w : World} (fl : List Bool) (hi : ops[i]? = some oi) (ht : (takesS md ops listed Z i && (flags Z listed == fl)) = true) (hg : Region.wanted oi (yielded ops a.tmps) = true) (hr : ∀ X, allow md ops Z F i X → (execOp a.eval oi).run P X = .ok (.value v) X) (hS : F fl w)
 (h : wpAnyS P md ops (NoPanic Q) Z F fuel (listed.setIfInBounds i true) (a.put oi.dst v) w) : wpAnyS P md ops (NoPanic Q) Z F (fuel + 1) listed a w := wpAnyS_take fl hi ht (fun _ _ _ h => h) (.inl ⟨hg, hr⟩) hS h
theorem wpAnyS_one {i : Nat} {o : Oper} {fuel : Nat} {listed : Array Bool} {a : Act} {w : World} (fl : List Bool) (hr : (Region.ready md ops listed == [i] && flags Z (listed.setIfInBounds i true) == fl) = true) (ho : ops[i]? = some o) (hg : Region.wanted o (yielded ops a.tmps) = true)
    (h : ∀ K : Act → World → Prop, (∀ a' w', F fl w' → wpAnyS P md ops Q Z F fuel (listed.setIfInBounds i true) a' w' → K a' w') → o.wp P a w K Q) : wpAnyS P md ops Q Z F (fuel + 1) listed a w := by
 simp only [Bool.and_eq_true] at hr
 obtain ⟨hr, hfl⟩ := hr
 have hr : Region.ready md ops listed = [i] := by simpa using hr
 obtain rfl : flags Z (listed.setIfInBounds i true) = fl := by simpa using hfl
 refine ⟨fun h => (by rw [hr] at h; cases h), fun j hj => ?_⟩
 obtain rfl : j = i := by rw [hr] at hj; simpa using hj
 unfold wpOp
 rw [ho]
 simp only [hg, if_true]
 exact .inl (h _ fun a' w' h1 h2 => ⟨h1, h2⟩)
theorem wpAnyS_done {fuel : Nat} {listed : Array Bool} {a : Act} {w : World} (hr : Region.ready md ops listed = []) (h : Q .normal a w) : wpAnyS P md ops Q Z F fuel listed a w := by
 cases fuel with
 | zero => exact ⟨hr, h⟩
 | succ fuel => exact ⟨fun _ => h, fun i hi => by rw [hr] at hi; cases hi⟩
end
end Go.Proofs.YtiampoebdmflgaaGreat
/- (Env).With. -/
namespace Go.Proofs.YtiampoebdmflgaaGreat
open Go.RowKit
set_option linter.unusedVariables false
set_option maxRecDepth 100000
set_option maxHeartbeats 16000000
set_option linter.unusedSimpArgs false
def gwith : List Glb → List Glb → List Glb
 | G, [] => G
 | G, g :: l => gwith (if (gfind G g.nm).isSome = true then G else G ++ [gown g]) l
def envL (L : List (Glb × Nat)) : List (ByteArray × Value) := L.map fun x => (x.1.nm, .pointer (some ⟨x.2, 0, none⟩))
theorem envL_eq (L : List (Glb × Nat)) : envM (L.map (·.1)) (L.map (·.2)) = envL L := by
 unfold envM envL
 rw [List.zip_map', List.map_map]
 rfl
theorem envL_push (L : List (Glb × Nat)) (g : Glb) (p : Nat) : envL (L ++ [(g, p)]) = envL L ++ [(g.nm, .pointer (some ⟨p, 0, none⟩))] := by simp [envL]
theorem envL_none {L : List (Glb × Nat)} {nm : ByteArray} : mlook (envL L) nm = none ↔ gfind (L.map (·.1)) nm = none := by
 rw [← envL_eq]; exact mlook_env _ _ nm (by simp)
theorem envL_cases (L : List (Glb × Nat)) (nm : ByteArray) : (∃ V, (mlook (envL L) nm).getD (.pointer none) = V ∧ ∃ bb : Bool, ((V = .pointer none ∧ bb = true ∧ gfind (L.map (·.1)) nm = none) ∨ (∃ p : Nat, V = .pointer (some ⟨p, 0, none⟩) ∧ bb = false ∧ (gfind (L.map (·.1)) nm).isSome = true))) := by
 rcases look_env nm (L.map (·.1)) (L.map (·.2)) (by simp) with ⟨a, b⟩ | ⟨j, g, p, _, _, h3, h4⟩
 · rw [envL_eq] at b
   exact ⟨_, rfl, true, .inl ⟨by rw [b]; rfl, rfl, a⟩⟩
 rw [envL_eq] at h4
 exact ⟨_, rfl, false, .inr ⟨p, by rw [h4]; rfl, rfl, by rw [h3]; rfl⟩⟩
theorem gp_size : (Tryz.prog.info? 88).map (·.size) = some 1 := by kernel_rfl
theorem env_mk {E D' : Nat → Prop} {base : Nat} {w : World} {sv : Value} {L : List (Glb × Nat)} {eb mb : Nat} (hc : Coll gpR E base 88 w sv L) (hb : Blk w eb 118 #[sv, .map (some mb)]) (hm : MapIs w mb (envL L)) (hn : (L.map (·.1.nm)).Nodup)
    (hD : ∀ x, E x ∨ (base ≤ x ∧ x < w.heap.size) → D' x) (h1 : D' eb) (h2 : D' mb) (hl : L.length ≤ 1000000000) : EnvIs D' w eb (L.map (·.1)) := by
 obtain ⟨A, c, rfl, hle, hr⟩ := hc.rat hD
 refine ⟨A, c, mb, L.map (·.2), by simp, h1, by rw [List.length_map]; exact hb, ⟨by rw [List.length_map]; exact hle, by rw [List.length_map]; exact hl⟩, fun j p hj => ?_, h2, by rw [envL_eq]; exact hm, fun j g p hj hp => ?_, by rw [List.map_map]; exact hn⟩
 · rw [List.getElem?_map] at hj
   obtain ⟨x, hx, rfl⟩ := Option.map_eq_some_iff.1 hj
   obtain ⟨a, cs, k1, k2, k3, rfl, k5, _⟩ := hr j x hx
   have := k3 0 _ rfl
   rw [Addr_add_add, Nat.mul_one, Nat.add_zero] at this
   exact ⟨a, k1, k2, this⟩
 rw [List.getElem?_map] at hj hp
 obtain ⟨x, hx, rfl⟩ := Option.map_eq_some_iff.1 hj
 obtain ⟨y, hy, rfl⟩ := Option.map_eq_some_iff.1 hp
 rw [hx] at hy
 obtain rfl := Option.some.inj hy
 obtain ⟨a, cs, k1, k2, k3, rfl, k5, gc, k6, k7⟩ := hr j x hx
 exact ⟨k5, gc, k6, k7⟩
theorem env_rat {D : Nat → Prop} {w : World} {G : List Glb} {ps : List Nat} {L : Option Addr} (h1 : ps.length = G.length) (h5 : ∀ (j : Nat) p, ps[j]? = some p → ∃ a, L = some a ∧ D a.block ∧ w.cell? (a.add j) = some (.pointer (some ⟨p, 0, none⟩)))
    (h8 : ∀ (j : Nat) g p, G[j]? = some g → ps[j]? = some p → D p ∧ ∃ cs, Blk w p 50 cs ∧ GlIs D w g cs) : RAt gpR D w (G.zip ps) L := fun j x hj => by
 rw [List.getElem?_zip_eq_some] at hj
 obtain ⟨a, k1, k2, k3⟩ := h5 j x.2 hj.2
 obtain ⟨k4, cs, k5, k6⟩ := h8 j x.1 x.2 hj.1 hj.2
 refine ⟨a, _, k1, k2, ?_, rfl, k4, cs, k5, k6⟩
 intro i v hv
 have : i = 0 := by have := (Array.getElem?_eq_some_iff.1 hv).1; simp at this; omega
 subst this
 simp at hv
 subst hv
 rw [Addr_add_add, Nat.mul_one, Nat.add_zero]; exact k3
theorem nodup_push {G : List Glb} {g : Glb} (h : (G.map (·.nm)).Nodup) (hn : gfind G g.nm = none) : ((G ++ [g]).map (·.nm)).Nodup := by
 rw [List.map_append, List.nodup_append]
 refine ⟨h, by simp, fun a ha b hb e => ?_⟩
 simp at hb
 subst hb; subst e
 exact gfind_none.1 hn ha
theorem with_any (ev : Value) (G l : List Glb) (A : Option Addr) (c : Nat) (D : Nat → Prop) (w : World) (hD : Within D w) (hE : EnvV D w ev G) (hl : RAt glR D w l A) (hlen : G.length + l.length ≤ 1000000000) (hlc : l.length ≤ c) :
    Calls Tryz.prog 34 #[ev, .slice A l.length c] w fun e w' => ∃ eb, e = .returned (.pointer (some ⟨eb, 0, none⟩)) ∧ EnvIs (grow D w w') w' eb (gwith G l) ∧ Upd nob w w' := by
 have hgz := gl_zero
 have HL := Lib.hid hl
 obtain ⟨n, hn⟩ : ∃ n, l.length = n := ⟨_, rfl⟩
 have HN := Lib.hid hn
 rw [hn] at hlen hlc ⊢
 obtain ⟨X, hX⟩ : ∃ X, gwith G l = X := ⟨_, rfl⟩
 rw [hX]
 have HX := Lib.hid hX
 obtain ⟨W1, hW1⟩ : ∃ W, (w.alloc (.map #[] 0)).alloc (.cells #[.slice none 0 0, .map (some w.heap.size)] 118) = W := ⟨_, rfl⟩
 have hu1 : Upd nob w W1 := by rw [← hW1]; exact ((Upd.refl nob w).alloc _).alloc _
 have hm1 : MapIs W1 w.heap.size (envL []) := by rw [← hW1]; exact (MapIs.new w).upd ((Upd.refl nob _).alloc _) (fun f => f)
 have hb1 : Blk W1 (w.heap.size + 1) 118 #[.slice none 0 0, .map (some w.heap.size)] := by
  rw [← hW1]
  have h := Blk.new (w.alloc (.map #[] 0)) 118 #[.slice none 0 0, .map (some w.heap.size)]
  rw [World.size_alloc] at h
  exact h
 have hs1 : W1.heap.size = w.heap.size + 2 := by rw [← hW1]; simp
 have HS1 := Lib.hid hs1
 have HW1 := Lib.hid hW1
 clear hl hn hX hW1 hs1
 have hED : ∀ x, D x → x < w.heap.size + 2 := fun x hx => by have := hD x hx; omega
 have HM1 := Lib.hid hm1
 have HB1 := Lib.hid hb1
 clear hm1 hb1
 rcases hE with ⟨rfl, rfl⟩ | ⟨eb0, rfl, hE⟩
 · go_enter Tryz.func34, Tryz.ntmps34
   have q0 : W1.cell? ⟨w.heap.size + 1, 0, none⟩ = some (.slice none 0 0) := HB1.out.cell 0
   have qlt : w.heap.size + 1 < W1.heap.size := HB1.out.lt
   go_wp2_with (first
    | ((with_reducible refine this_op (.makeMap 115 none) ?_); refine wpList_run rfl _ _ (run_makeMap_op rfl) ?_))
   rw [HW1.out]
   try go_wp2_with fail
   refine wp_loop_once ?_
   go_wp2_with fail
   clear q0 qlt
   have HC1 : Hid (Coll gpR D (w.heap.size + 2) 88 W1 (.slice none 0 0) []) := Lib.hid Coll.nil_
   have hnd : ((([] : List (Glb × Nat))).map (·.1.nm)).Nodup := by simp
   have HU1 := Lib.hid hu1
   obtain ⟨M, hM⟩ : ∃ M, ([] : List Glb).length = M := ⟨_, rfl⟩
   rw [hM] at hlen
   have hM0 : ([] : List (Glb × Nat)).length ≤ M := by simp
   have hXX : gwith (([] : List (Glb × Nat)).map (·.1)) (l.drop 0) = X := HX.out
   have HXX := Lib.hid hXX
   clear hXX hM
   go_loopg [45] n (fun k v45 wr => ∃ (j : Nat) (Lc : List (Glb × Nat)) (sv : Value), j + k = n ∧ v45 = .int .i64 j ∧ Blk wr (w.heap.size + 1) 118 #[sv, .map (some w.heap.size)] ∧ MapIs wr w.heap.size (envL Lc) ∧ Coll gpR D (w.heap.size + 2) 88 wr sv Lc ∧ gwith (Lc.map (·.1)) (l.drop j) = X ∧ (Lc.map (·.1.nm)).Nodup ∧ Lc.length ≤ M + j ∧ Upd nob w wr ∧ w.heap.size + 2 ≤ wr.heap.size)
   case atStart => exact ⟨0, _, _, by omega, rfl, HB1.out, HM1.out, HC1.out, HXX.out, hnd, by omega, HU1.out, by have := HS1.out; omega⟩
   case round =>
    clear HB1 HM1 HC1 HXX hnd HU1
    obtain ⟨j, Lc, sv, hj, rfl, hb, hm, hc, hx, hnd, hLl, hu, hsz⟩ := hrel
    obtain ⟨sA, sc, rfl, hcp⟩ := hc.form
    have HBR := Lib.hid hb
    have HMR := Lib.hid hm
    have HCR := Lib.hid hc
    have HXR := Lib.hid hx
    clear hb hm hc hx
    by_cases hlt : j < n
    · have t2 : decide ((j : Int) < n) = true := by simp [hlt]
      obtain ⟨g, hg'⟩ : ∃ g, l[j]? = some g := ⟨_, List.getElem?_eq_getElem (by have := HN.out; omega)⟩
      obtain ⟨a, cs, hA, hDa, hrow, hg⟩ := (HL.out.old (hD.old hu) (fun _ h => h)) j g hg'
      have HG := Lib.hid (show GlIs D wr g cs from hg)
      obtain ⟨a0, a1, a2, a3, a4, a5, a6, a7, b0, b1, b2, b3, b4, b5, b6, b7, C, cc, R, rc, rfl, _⟩ := hg
      have HON := Lib.hid (GlIs.cells HG.out).2
      have HA := Lib.hid hA
      have HGJ := Lib.hid hg'
      have hdrop : l.drop j = g :: l.drop (j + 1) := by
       have h := List.getElem?_eq_some_iff.1 hg'
       rw [List.drop_eq_getElem_cons h.1, h.2]
      have hxr := HXR.out
      rw [hdrop, gwith] at hxr
      have HXR2 := Lib.hid hxr
      clear hA hg' hdrop hxr HXR
      go_wp2_with (first
       | ((with_reducible refine this_op (.indexAddr 22 (.tmp 43) (.tmp 45)) ?_); refine wpList_index_at rfl 22 (.tmp 43) (.tmp 45) rfl _ a _ _ rfl HA.out j rfl hlt 50 Tryz.underlying22 26 gl_size ?_)
       | ((with_reducible refine this_op (.load 50 (.tmp 47)) ?_); refine wpList_at rfl 50 (.tmp 47) rfl (a.add (j * 26)) rfl _ _ hrow Tryz.underlying50 rfl gl_size ?_)
       | ((with_reducible refine this_op (.store 50 (.tmp 9) (.tmp 48)) ?_); refine wpList_store_row rfl 50 (.tmp 9) (.tmp 48) rfl wr.heap.size _ rfl rfl 50 _ (Blk.new wr _ _) gl_size rfl HON.out ?_
          obtain ⟨W3, hW3⟩ : ∃ W, (wr.alloc (.cells #[.int .i64 0, .string ByteArray.empty, .int .i64 0, .int .i64 0, .int .i64 0, .string ByteArray.empty, .int .i64 0, .int .i64 0, .slice none 0 0, .slice none 0 0, .slice none 0 0, .int .i64 0, .int .i64 0, .string ByteArray.empty, .int .i64 0, .int .i64 0, .slice none 0 0, .slice none 0 0, .slice none 0 0, .string ByteArray.empty, .int .i64 0, .int .i64 0, .int .i64 0, .slice none 0 0, .int .i64 0, .slice none 0 0] 50)).setRow wr.heap.size #[.int .i64 g.kind, .string g.nm, .int .i64 g.vars, a0, a1, a2, a3, a4, a5, a6, a7, b0, b1, b2, b3, b4, b5, b6, b7, .string g.ind, .int .i64 g.params, .int .i64 g.indices, .int .i64 g.fields, .slice C g.ctors.length cc, .int .i64 g.minors, .slice R g.rules.length rc] = W := ⟨_, rfl⟩
          have hu13 : Upd nob wr W3 := by rw [← hW3]; exact ((Upd.refl nob wr).alloc _).setRow (.inr (Nat.le_refl _)) _
          have HG3 := Lib.hid (show Blk W3 wr.heap.size 50 #[.int .i64 g.kind, .string g.nm, .int .i64 g.vars, a0, a1, a2, a3, a4, a5, a6, a7, b0, b1, b2, b3, b4, b5, b6, b7, .string g.ind, .int .i64 g.params, .int .i64 g.indices, .int .i64 g.fields, .slice C g.ctors.length cc, .int .i64 g.minors, .slice R g.rules.length rc] by rw [← hW3]; exact (Blk.new wr _ _).row _)
          rw [hW3]
          clear hW3))
      have hu3 : Upd nob wr W3 := hu13
      have hb3 := HBR.out.upd hu13 (fun f => f)
      have q31 : W3.drew.cell? ⟨w.heap.size + 1, 1, none⟩ = some (.map (some w.heap.size)) := hb3.cell 1
      have q3l : w.heap.size + 1 < W3.drew.heap.size := hb3.lt
      have q32 : W3.drew.cell? ⟨wr.heap.size, 1, none⟩ = some (.string g.nm) := HG3.out.cell 1
      have q3m : wr.heap.size < W3.drew.heap.size := HG3.out.lt
      have HM3 := Lib.hid (HMR.out.upd hu13 (fun f => f))
      obtain ⟨V, hV, bb, hbb⟩ := envL_cases Lc g.nm
      have HV := Lib.hid hV
      have HBB := Lib.hid hbb
      clear hb3 hV hbb
      refine wp_region_P (by kernel_rfl) ?_
      refine wpAny_of_S [] (fun _ X => X = W3.drew) _ _ _ _ ?_
      have hS : W3.drew = W3.drew := rfl
      refine sT 0 ?_ [] rfl (by kernel_rfl) (by rfl) ?_ hS ?_
      rotate_left
      · rintro wx ⟨L, hL, hun, hx⟩
        obtain rfl := hx
        have hx := True.intro
        clear hx hL hun
        go_simp
        with_reducible rfl
      try simp only [tl]
      refine sT 1 ?_ [] rfl (by kernel_rfl) (by rfl) ?_ hS ?_
      rotate_left
      · rintro wx ⟨L, hL, hun, hx⟩
        obtain rfl := hx
        have hx := True.intro
        clear hx hL hun
        go_simp
        with_reducible rfl
      try simp only [tl]
      refine sT 2 ?_ [] rfl (by kernel_rfl) (by rfl) ?_ hS ?_
      rotate_left
      · rintro wx ⟨L, hL, hun, hx⟩
        obtain rfl := hx
        have hx := True.intro
        clear hx hL hun
        go_simp
        with_reducible rfl
      try simp only [tl]
      refine sT 3 ?_ [] rfl (by kernel_rfl) (by rfl) ?_ hS ?_
      rotate_left
      · rintro wx ⟨L, hL, hun, hx⟩
        obtain rfl := hx
        have hx := True.intro
        clear hx hL hun
        go_simp
        with_reducible rfl
      try simp only [tl]
      refine sT 4 ?_ [] rfl (by kernel_rfl) (by rfl) ?_ hS ?_
      rotate_left
      · rintro wx ⟨L, hL, hun, hx⟩
        obtain rfl := hx
        have hx := True.intro
        clear hx hL hun
        go_simp
        with_reducible rfl
      try simp only [tl]
      refine sT 5 ?_ [] rfl (by kernel_rfl) (by rfl) ?_ hS ?_
      rotate_left
      · rintro wx ⟨L, hL, hun, hx⟩
        obtain rfl := hx
        have hx := True.intro
        clear hx hL hun
        go_simp
        with_reducible rfl
      try simp only [tl]
      refine sT 6 (V) [] rfl (by kernel_rfl) (by rfl) ?_ hS ?_
      · rintro wx ⟨L, hL, hun, hx⟩
        obtain rfl := hx
        exact run_look_op (.tmp 52) (.tmp 54) rfl g.nm rfl rfl Tryz.underlying115 Tryz.underlying9 (gp_zero _) (show MapIs W3.drew w.heap.size (envL Lc) from HM3.out) V HV.out
      try simp only [tl]
      refine sT 7 (.bool bb) [] rfl (by kernel_rfl) (by rfl) ?_ hS ?_
      · rintro wx ⟨L, hL, hun, hx⟩
        obtain rfl := hx
        rcases HBB.out with ⟨h1, h2, _⟩ | ⟨p, h1, h2, _⟩ <;> subst h1 h2 <;> go_simp
      try simp only [tl]
      refine wpAnyS_done (by kernel_rfl) ?_
      refine NoPanic.normal ?_
      clear q31 q3l q32 q3m
      cases bb with
      | false =>
       have hsome : (gfind (Lc.map (·.1)) g.nm).isSome = true := by
        rcases HBB.out with ⟨_, h, _⟩ | ⟨_, _, _, h⟩
        · cases h
        exact h
       go_wp2_with fail
       go_roundg (gk - 1)
       case measure => omega
       case rel =>
        have hxr := HXR2.out
        rw [if_pos hsome] at hxr
        exact ⟨j + 1, Lc, _, by omega, by go_num, HBR.out.upd hu13.drew (fun f => f), HM3.out, HCR.out.upd hu13.drew (fun _ f => f.elim) (fun x h => by have := hED x h; omega), hxr, hnd, by omega, hu.trans hu13.drew, Nat.le_trans hsz hu13.size⟩
      | true =>
       have hnone : gfind (Lc.map (·.1)) g.nm = none := by
        rcases HBB.out with ⟨_, _, h⟩ | ⟨_, _, h, _⟩
        · exact h
        cases h
       have r9 := HG3.out.rowAt
       have hu03 : Upd nob w W3 := hu.trans hu13
       go_wp2_with (first
        | ((with_reducible refine this_op (.load 50 (.tmp 9)) ?_); refine wpList_at rfl 50 (.tmp 9) rfl ⟨wr.heap.size, 0, none⟩ rfl _ _ r9 Tryz.underlying50 rfl gl_size ?_))
       refine (own_any g _ D W3.drew (hD.up (hu.trans hu13.drew)) (HG.out.old ((hD.up hu).old hu13.drew) (fun _ h => h))).mono ?_
       rintro e w4 ⟨cs4, rfl, hg4, hu4⟩
       have hu34 : Upd nob W3 w4 := (Upd.refl nob W3).drew.trans hu4
       have HG4 := Lib.hid hg4
       obtain ⟨c0, c1, c2, c3, c4, c5, c6, c7, d0, d1, d2, d3, d4, d5, d6, d7, C', cc', R', rc', rfl, _⟩ := hg4
       have HON4 := Lib.hid (GlIs.cells HG4.out).2
       clear r9
       go_wp2_with (first
        | ((with_reducible refine this_op (.store 50 (.tmp 10) (.tmp 58)) ?_); refine wpList_store_row rfl 50 (.tmp 10) (.tmp 58) rfl w4.heap.size _ rfl rfl 50 _ (Blk.new w4 _ _) gl_size rfl HON4.out ?_
           obtain ⟨W5, hW5⟩ : ∃ W, (w4.alloc (.cells #[.int .i64 0, .string ByteArray.empty, .int .i64 0, .int .i64 0, .int .i64 0, .string ByteArray.empty, .int .i64 0, .int .i64 0, .slice none 0 0, .slice none 0 0, .slice none 0 0, .int .i64 0, .int .i64 0, .string ByteArray.empty, .int .i64 0, .int .i64 0, .slice none 0 0, .slice none 0 0, .slice none 0 0, .string ByteArray.empty, .int .i64 0, .int .i64 0, .int .i64 0, .slice none 0 0, .int .i64 0, .slice none 0 0] 50)).setRow w4.heap.size #[.int .i64 (gown g).kind, .string (gown g).nm, .int .i64 (gown g).vars, c0, c1, c2, c3, c4, c5, c6, c7, d0, d1, d2, d3, d4, d5, d6, d7, .string (gown g).ind, .int .i64 (gown g).params, .int .i64 (gown g).indices, .int .i64 (gown g).fields, .slice C' (gown g).ctors.length cc', .int .i64 (gown g).minors, .slice R' (gown g).rules.length rc'] = W := ⟨_, rfl⟩
           have hu45 : Upd nob w4 W5 := by rw [← hW5]; exact ((Upd.refl nob w4).alloc _).setRow (.inr (Nat.le_refl _)) _
           have HG5 := Lib.hid (show Blk W5 w4.heap.size 50 #[.int .i64 (gown g).kind, .string (gown g).nm, .int .i64 (gown g).vars, c0, c1, c2, c3, c4, c5, c6, c7, d0, d1, d2, d3, d4, d5, d6, d7, .string (gown g).ind, .int .i64 (gown g).params, .int .i64 (gown g).indices, .int .i64 (gown g).fields, .slice C' (gown g).ctors.length cc', .int .i64 (gown g).minors, .slice R' (gown g).rules.length rc'] by rw [← hW5]; exact (Blk.new w4 _ _).row _)
           rw [hW5]
           clear hW5))
       have hur5 : Upd nob wr W5 := ((hu13.trans hu34).trans hu45)
       have hb5 := HBR.out.upd hur5 (fun f => f)
       have c50 : W5.drew.cell? ⟨w.heap.size + 1, 0, none⟩ = some (.slice sA Lc.length sc) := hb5.cell 0
       have c51 : W5.drew.cell? ⟨w.heap.size + 1, 1, none⟩ = some (.map (some w.heap.size)) := hb5.cell 1
       have c52 : W5.drew.cell? ⟨wr.heap.size, 1, none⟩ = some (.string g.nm) := ((HG3.out.upd hu34 (fun f => f)).upd hu45 (fun f => f)).cell 1
       have e5 : w.heap.size + 1 < W5.heap.size := hb5.lt
       have e3 : wr.heap.size < W3.heap.size := HG3.out.lt
       have e34 : W3.heap.size ≤ w4.heap.size := hu34.size
       have e45 : w4.heap.size < W5.heap.size := HG5.out.lt
       have hnO : ∀ q, (Value.slice sA Lc.length sc).ownBlock = some q → w.heap.size + 2 ≤ q ∧ q < wr.heap.size := fun q h => HCR.out.lt h
       clear hb5
       refine wp_region_P (by kernel_rfl) ?_
       refine wpAny_of_S [15] (fun fl X => X.cell? ⟨w.heap.size + 1, 1, none⟩ = some (.map (some w.heap.size)) ∧ X.cell? ⟨wr.heap.size, 1, none⟩ = some (.string g.nm) ∧ (fl.getD 0 false = false → X.cell? ⟨w.heap.size + 1, 0, none⟩ = some (.slice sA Lc.length sc))) _ _ _ _ ?_
       have hS := And.intro c51 (And.intro c52 (fun _ : [false].getD 0 false = false => c50))
       refine sT 0 ?_ [false] rfl (by kernel_rfl) (by rfl) ?_ hS ?_
       rotate_left; · intro wx hx; clear hx; go_simp; with_reducible rfl
       try simp only [tl]
       refine sT 1 ?_ [false] rfl (by kernel_rfl) (by rfl) ?_ hS ?_
       rotate_left; · intro wx hx; clear hx; go_simp; with_reducible rfl
       try simp only [tl]
       refine sT 2 ?_ [false] rfl (by kernel_rfl) (by rfl) ?_ hS ?_
       rotate_left; · intro wx hx; clear hx; go_simp; with_reducible rfl
       try simp only [tl]
       refine sT 3 ?_ [false] rfl (by kernel_rfl) (by rfl) ?_ hS ?_
       rotate_left; · intro wx hx; clear hx; go_simp; with_reducible rfl
       try simp only [tl]
       refine sT 5 ?_ [false] rfl (by kernel_rfl) (by rfl) ?_ hS ?_
       rotate_left; · intro wx hx; clear hx; go_simp; with_reducible rfl
       try simp only [tl]
       refine sT 7 ?_ [false] rfl (by kernel_rfl) (by rfl) ?_ hS ?_
       rotate_left; · intro wx hx; clear hx; go_simp; with_reducible rfl
       try simp only [tl]
       refine sT 8 ?_ [false] rfl (by kernel_rfl) (by rfl) ?_ hS ?_
       rotate_left; · intro wx hx; clear hx; go_simp; with_reducible rfl
       try simp only [tl]
       refine sT 9 ?_ [false] rfl (by kernel_rfl) (by rfl) ?_ hS ?_
       rotate_left; · intro wx hx; clear hx; go_simp; with_reducible rfl
       try simp only [tl]
       refine sT 4 ?_ [false] rfl (by kernel_rfl) (by rfl) ?_ hS ?_
       rotate_left
       · rintro wx ⟨L, hL, hun, hx⟩
         have q := hx.1
         clear hx hL hun
         go_simp
         with_reducible rfl
       try simp only [tl]
       refine sT 6 ?_ [false] rfl (by kernel_rfl) (by rfl) ?_ hS ?_
       rotate_left
       · rintro wx ⟨L, hL, hun, hx⟩
         have q := hx.2.1
         clear hx hL hun
         go_simp
         with_reducible rfl
       try simp only [tl]
       refine sT 10 ?_ [false] rfl (by kernel_rfl) (by rfl) ?_ hS ?_
       rotate_left
       · rintro wx ⟨L, hL, hun, hx⟩
         have q := hx.2.2 (unl hL [] (by kernel_rfl) hun)
         clear hx hL hun
         go_simp
         with_reducible rfl
       try simp only [tl]
       refine wpAnyS_one (i := 11) [false] (by kernel_rfl) rfl (by rfl) fun K hK => ?_
       go_simp
       obtain ⟨W6, hW6⟩ : ∃ W, (W5.alloc (.cells #[.pointer (some ⟨w4.heap.size, 0, none⟩)] 88)).drew = W := ⟨_, rfl⟩
       have hu56 : Upd nob W5 W6 := by rw [← hW6]; exact ((Upd.refl nob W5).alloc _).drew
       have hb6 : Blk W6 W5.heap.size 88 #[.pointer (some ⟨w4.heap.size, 0, none⟩)] := by rw [← hW6]; exact Blk.new W5 _ _
       rw [hW6]
       clear hW6
       have hur6 : Upd nob wr W6 := hur5.trans hu56
       have e56 : W5.heap.size < W6.heap.size := hb6.lt
       have c61 : W6.cell? ⟨w.heap.size + 1, 1, none⟩ = some (.map (some w.heap.size)) := (hu56.cell (p := ⟨w.heap.size + 1, 1, none⟩) e5 (fun f => f)).trans c51
       have c62 : W6.cell? ⟨wr.heap.size, 1, none⟩ = some (.string g.nm) := (hu56.cell (p := ⟨wr.heap.size, 1, none⟩) (by show wr.heap.size < _; omega) (fun f => f)).trans c52
       have c60 : W6.cell? ⟨w.heap.size + 1, 0, none⟩ = some (.slice sA Lc.length sc) := (hu56.cell (p := ⟨w.heap.size + 1, 0, none⟩) e5 (fun f => f)).trans c50
       have hS := And.intro c61 (And.intro c62 (fun _ : [false].getD 0 false = false => c60))
       have HC6 := Lib.hid (HCR.out.upd hur6 (fun _ f => f.elim) (fun x h => by have := hED x h; omega))
       have HB6 := Lib.hid hb6
       have hl6 : gpR.is (fun q => D q ∨ (W3.heap.size ≤ q ∧ q < W5.heap.size)) W6 (gown g, w4.heap.size) #[.pointer (some ⟨w4.heap.size, 0, none⟩)] :=
        ⟨rfl, .inr ⟨e34, e45⟩, #[.int .i64 (gown g).kind, .string (gown g).nm, .int .i64 (gown g).vars, c0, c1, c2, c3, c4, c5, c6, c7, d0, d1, d2, d3, d4, d5, d6, d7, .string (gown g).ind, .int .i64 (gown g).params, .int .i64 (gown g).indices, .int .i64 (gown g).fields, .slice C' (gown g).ctors.length cc', .int .i64 (gown g).minors, .slice R' (gown g).rules.length rc'], HG5.out.upd hu56 (fun f => f), HG4.out.old (Old.of_upd (hu45.trans hu56) (fun q hq => ⟨fun f => f, hq.elim (fun h => by have := hD q h; omega) (fun h => h.2)⟩)) (fun q hq => hq.imp id (fun h => ⟨h.1, by have := h.2; omega⟩))⟩
       have HL6 := Lib.hid hl6
       have hD6 : ∀ q, (D q ∨ (W3.heap.size ≤ q ∧ q < W5.heap.size)) → cd D (w.heap.size + 2) W6 (.slice sA Lc.length sc) q := fun q hq => by
        rcases hq with h | h
        · exact ⟨.inl h, fun h2 => by have := (hnO q h2).1; have := hD q h; omega⟩
        exact ⟨.inr ⟨by have := h.1; omega, by have := h.2; omega⟩, fun h2 => by have := (hnO q h2).2; have := h.1; omega⟩
       refine hK _ _ hS ?_
       clear hb6 hl6
       clear hK K; try simp only [tl]
       refine wpAnyS_one (i := 12) [false] (by kernel_rfl) rfl (by rfl) fun K hK => ?_
       refine owp_collect (.tmp 69) (.tmp 70) 116 rfl _ 8 Tryz.underlying116 gp_info (by kernel_rfl) (by decide) rfl HC6.out hED W5.heap.size #[.pointer (some ⟨w4.heap.size, 0, none⟩)] rfl HB6.out (gown g, w4.heap.size) _ HL6.out hD6 Lc.length rfl (by omega) (by omega) (by omega) ?_
       intro A7 c7 w7 hc7 hu7 hat7
       have e7 : W6.heap.size ≤ w7.heap.size := hu7.size
       have c71 : w7.cell? ⟨w.heap.size + 1, 1, none⟩ = some (.map (some w.heap.size)) := (hu7.cell (p := ⟨w.heap.size + 1, 1, none⟩) (by show w.heap.size + 1 < _; omega) (fun h => by have := (hnO (w.heap.size + 1) h).1; omega)).trans c61
       have c72 : w7.cell? ⟨wr.heap.size, 1, none⟩ = some (.string g.nm) := (hu7.cell (p := ⟨wr.heap.size, 1, none⟩) (by show wr.heap.size < _; omega) (fun h => by have := (hnO wr.heap.size h).2; omega)).trans c62
       have hb7 := ((HBR.out.upd hur6 (fun f => f)).upd hu7 (fun h => by have := (hnO _ h).1; omega))
       have c70 : w7.cell? ⟨w.heap.size + 1, 0, none⟩ = some (.slice sA Lc.length sc) := hb7.cell 0
       have f70 := hb7.frozen 0
       have l70 := hb7.lt
       have hS := And.intro c71 (And.intro c72 (fun _ : [false].getD 0 false = false => c70))
       have HB7 := Lib.hid hb7
       have HC7 := Lib.hid hc7
       refine hK _ _ hS ?_
       clear hb7 hc7 hat7
       clear hK K; try simp only [tl]
       refine sT 13 ?_ [false] rfl (by kernel_rfl) (by rfl) ?_ hS ?_
       rotate_left; · intro wx hx; clear hx; go_simp; with_reducible rfl
       try simp only [tl]
       refine sT 14 ?_ [false] rfl (by kernel_rfl) (by rfl) ?_ hS ?_
       rotate_left; · intro wx hx; clear hx; go_simp; with_reducible rfl
       try simp only [tl]
       refine wpAnyS_one (i := 15) [true] (by kernel_rfl) rfl (by rfl) fun K hK => ?_
       go_simp
       obtain ⟨W8, hW8⟩ : ∃ W, w7.setCell ⟨w.heap.size + 1, 0, none⟩ (.slice A7 (Lc.length + 1) c7) = W := ⟨_, rfl⟩
       have hu8 : Upd (fun q => q = w.heap.size + 1) w7 W8 := by rw [← hW8]; exact (Upd.refl (fun q => q = w.heap.size + 1) w7).setCell (.inl rfl) _
       have hb8 : Blk W8 (w.heap.size + 1) 118 #[.slice A7 (Lc.length + 1) c7, .map (some w.heap.size)] := by rw [← hW8]; exact HB7.out.set 0 _
       rw [hW8]
       clear hW8
       have e8 : w7.heap.size ≤ W8.heap.size := hu8.size
       have hS : W8.cell? ⟨w.heap.size + 1, 1, none⟩ = some (.map (some w.heap.size)) ∧ W8.cell? ⟨wr.heap.size, 1, none⟩ = some (.string g.nm) ∧ ([true].getD 0 false = false → W8.cell? ⟨w.heap.size + 1, 0, none⟩ = some (.slice sA Lc.length sc)) :=
        ⟨hb8.cell 1, (hu8.cell (p := ⟨wr.heap.size, 1, none⟩) (by show wr.heap.size < _; omega) (fun h => by have h : wr.heap.size = w.heap.size + 1 := h; omega)).trans c72, fun h => by cases h⟩
       have hm8 : MapIs W8 w.heap.size (envL Lc) := ((HMR.out.upd hur6 (fun f => f)).upd hu7 (fun h => by have := (hnO _ h).1; omega)).upd hu8 (fun h => by have h : w.heap.size = w.heap.size + 1 := h; omega)
       have hmn : mlook (envL Lc) g.nm = none := envL_none.2 hnone
       have HC8 := Lib.hid (HC7.out.upd hu8 (fun k h => by have h : k = w.heap.size + 1 := h; exact ⟨by omega, fun hd => by have := hD k hd; omega⟩) (fun x h => by have := hED x h; omega))
       have HB8 := Lib.hid hb8
       have HM8 := Lib.hid hm8
       have HMN := Lib.hid hmn
       refine hK _ _ hS ?_
       clear hb8 hm8 hmn
       clear hK K; try simp only [tl]
       refine wpAnyS_one (i := 16) [true] (by kernel_rfl) rfl (by rfl) fun K hK => ?_
       refine owp_entry_new (.tmp 63) (.tmp 65) rfl g.nm rfl rfl Tryz.underlying115 Tryz.underlying9 gp_zero HM8.out HMN.out Lc.length (by simp [envL]) ?_
       have hm9 := setMap_is (l' := envL Lc ++ [(g.nm, .pointer none)]) HM8.out
       have hu9 := setMap_upd (l' := envL Lc ++ [(g.nm, .pointer none)]) HM8.out
       obtain ⟨W9, hW9⟩ : ∃ W, setMap W8 w.heap.size (envL Lc ++ [(g.nm, .pointer none)]) = W := ⟨_, rfl⟩
       rw [hW9] at hm9 hu9 ⊢
       clear hW9
       have e9 : W8.heap.size ≤ W9.heap.size := hu9.size
       have hb9 := HB8.out.upd hu9 (fun h => by have h : w.heap.size + 1 = w.heap.size := h; omega)
       have hS : W9.cell? ⟨w.heap.size + 1, 1, none⟩ = some (.map (some w.heap.size)) ∧ W9.cell? ⟨wr.heap.size, 1, none⟩ = some (.string g.nm) ∧ ([true].getD 0 false = false → W9.cell? ⟨w.heap.size + 1, 0, none⟩ = some (.slice sA Lc.length sc)) :=
        ⟨hb9.cell 1, (hu9.cell (p := ⟨wr.heap.size, 1, none⟩) (by show wr.heap.size < _; omega) (fun h => by have h : wr.heap.size = w.heap.size := h; omega)).trans hS.2.1, fun h => by cases h⟩
       have HM9 := Lib.hid hm9
       have HB9 := Lib.hid hb9
       refine hK _ _ hS ?_
       clear hm9 hb9
       clear hK K; try simp only [tl]
       refine sT 17 ?_ [true] rfl (by kernel_rfl) (by rfl) ?_ hS ?_
       rotate_left; · intro wx hx; clear hx; go_simp; with_reducible rfl
       try simp only [tl]
       refine wpAnyS_one (i := 18) [true] (by kernel_rfl) rfl (by rfl) fun K hK => ?_
       refine owp_entryStore (l := envL Lc) (.tmp 63) (.tmp 75) (.tmp 10) rfl g.nm (.pointer (some ⟨w4.heap.size, 0, none⟩)) (.pointer none) rfl Lc.length (by simp [envL]) rfl rfl HM9.out ?_
       have hm10 := setMap_is (l' := envL Lc ++ [(g.nm, .pointer (some ⟨w4.heap.size, 0, none⟩))]) HM9.out
       have hu10 := setMap_upd (l' := envL Lc ++ [(g.nm, .pointer (some ⟨w4.heap.size, 0, none⟩))]) HM9.out
       obtain ⟨W10, hW10⟩ : ∃ W, setMap W9 w.heap.size (envL Lc ++ [(g.nm, .pointer (some ⟨w4.heap.size, 0, none⟩))]) = W := ⟨_, rfl⟩
       rw [hW10] at hm10 hu10 ⊢
       clear hW10
       have hu910 := hu9.trans hu10
       have e10 : W9.heap.size ≤ W10.heap.size := hu10.size
       have HBF := Lib.hid (HB9.out.upd hu10 (fun h => by have h : w.heap.size + 1 = w.heap.size := h; omega))
       have HCF := Lib.hid (HC8.out.upd hu910 (fun k h => by have h : k = w.heap.size := h; exact ⟨by omega, fun hd => by have := hD k hd; omega⟩) (fun x h => by have := hED x h; omega))
       have HMF : Hid (MapIs W10 w.heap.size (envL (Lc ++ [(gown g, w4.heap.size)]))) := Lib.hid (by rw [envL_push]; exact hm10)
       have HUF := Lib.hid ((((hu.trans hur6).trans' hu7 (fun q hq h => by have := (hnO q h).1; omega)).trans' hu8 (fun q hq h => by have h : q = w.heap.size + 1 := h; omega)).trans' hu910 (fun q hq h => by have h : q = w.heap.size := h; omega))
       have hS : W10.cell? ⟨w.heap.size + 1, 1, none⟩ = some (.map (some w.heap.size)) ∧ W10.cell? ⟨wr.heap.size, 1, none⟩ = some (.string g.nm) ∧ ([true].getD 0 false = false → W10.cell? ⟨w.heap.size + 1, 0, none⟩ = some (.slice sA Lc.length sc)) :=
        ⟨HBF.out.cell 1, (hu10.cell (p := ⟨wr.heap.size, 1, none⟩) (by show wr.heap.size < _; omega) (fun h => by have h : wr.heap.size = w.heap.size := h; omega)).trans hS.2.1, fun h => by cases h⟩
       refine hK _ _ hS ?_
       clear hm10
       clear hK K; try simp only [tl]
       refine wpAnyS_done (by kernel_rfl) ?_
       refine NoPanic.normal ?_
       go_wp2_with fail
       go_roundg (gk - 1)
       case measure => omega
       case rel =>
        have hxr := HXR2.out
        rw [if_neg (by rw [hnone]; decide)] at hxr
        refine ⟨j + 1, Lc ++ [(gown g, w4.heap.size)], _, by omega, by go_num, HBF.out, HMF.out, HCF.out, by rw [List.map_append]; exact hxr, ?_, by simp; omega, HUF.out, by have := HUF.out.size; omega⟩
        have := nodup_push (G := Lc.map (·.1)) (g := gown g) (by rw [List.map_map]; exact hnd) hnone
        simpa [Function.comp_def] using this
    have t2 : decide ((j : Int) < n) = false := by simp; omega
    have : j = n := by omega
    subst this
    have hxr := HXR.out
    rw [← HN.out, List.drop_length, gwith] at hxr
    have hfin := env_mk (D' := grow D w wr) HCR.out HBR.out HMR.out hnd (fun q hq => hq.imp id (fun h => ⟨by omega, h.2⟩)) (.inr ⟨by omega, by omega⟩) (.inr ⟨by omega, by omega⟩) (by omega)
    rw [hxr] at hfin
    have HF := Lib.hid hfin
    clear hfin hxr
    go_wp2_with fail
    go_ret
    exact ⟨_, rfl, HF.out, hu⟩
 obtain ⟨L, cL, mb, ps, h1, h2, h3, h4, h5, h6, h7, h8, h9⟩ := hE
 have he0 : eb0 < w.heap.size := hD _ h2
 have q0 : W1.cell? ⟨eb0, 0, none⟩ = some (.slice L G.length cL) := (hu1.cell he0 (fun f => f)).trans (h3.cell 0)
 have qlt : eb0 < W1.heap.size := Nat.lt_of_lt_of_le he0 hu1.size
 have hzl : (G.zip ps).length = G.length := by rw [List.length_zip]; omega
 have hra := (env_rat h1 h5 h8).old (hD.old hu1) (fun _ h => h)
 have hnd0 : ((G.zip ps).map (·.1.nm)).Nodup := by
  have e : (G.zip ps).map (·.1.nm) = G.map (·.nm) := by
   have : (G.zip ps).map (·.1) = G := List.map_fst_zip (by omega)
   rw [show ((fun x : Glb × Nat => x.1.nm) = (fun g : Glb => g.nm) ∘ (fun x : Glb × Nat => x.1)) from rfl, ← List.map_map, this]
  rw [e]; exact h9
 have hG0 : (G.zip ps).map (·.1) = G := List.map_fst_zip (by omega)
 obtain ⟨L0, hL0⟩ : ∃ L0, G.zip ps = L0 := ⟨_, rfl⟩
 rw [hL0] at hzl hra hnd0 hG0
 obtain ⟨M, hM⟩ : ∃ M, G.length = M := ⟨_, rfl⟩
 rw [hM] at hzl hlen q0 h4
 have HRA := Lib.hid hra
 have HG0 := Lib.hid hG0
 have HZL := Lib.hid hzl
 have HND := Lib.hid hnd0
 clear h1 h2 h3 h5 h6 h7 h8 h9 hL0 hra hG0 hM hzl hnd0
 rw [← HW1.out] at q0 qlt
 go_enter Tryz.func34, Tryz.ntmps34
 go_wp2_with (first
  | ((with_reducible refine this_op (.makeMap 115 none) ?_); refine wpList_run rfl _ _ (run_makeMap_op rfl) ?_))
 rw [HW1.out]
 clear q0 qlt
 have hcl := clone_ptr L0 L cL D W1 (hD.up hu1) HRA.out (by have := HZL.out; omega)
 rw [HZL.out] at hcl
 refine hcl.mono ?_
 clear hcl
 rintro e w2 ⟨A', c', rfl, hc2, hle2, hu2⟩
 have hb2 := HB1.out.upd hu2 (fun f => f)
 have q0 : w2.cell? ⟨w.heap.size + 1, 0, none⟩ = some (.slice none 0 0) := hb2.cell 0
 have qf := hb2.frozen 0
 have qlt := hb2.lt
 have hsetb : Blk (w2.setCell ⟨w.heap.size + 1, 0, none⟩ (.slice A' M c')) (w.heap.size + 1) 118 #[.slice A' M c', .map (some w.heap.size)] := hb2.set 0 _
 have hset : Upd (fun q => q = w.heap.size + 1) w2 (w2.setCell ⟨w.heap.size + 1, 0, none⟩ (.slice A' M c')) := (Upd.refl (fun q => q = w.heap.size + 1) w2).setCell (.inl rfl) _
 have q9 : (w2.setCell ⟨w.heap.size + 1, 0, none⟩ (.slice A' M c')).cell? ⟨w.heap.size + 1, 0, none⟩ = some (.slice A' M c') := hsetb.cell 0
 have HSB := Lib.hid hsetb
 have HST := Lib.hid hset
 have HC2 := Lib.hid hc2
 clear hb2 hsetb hset hc2
 go_wp2_with fail
 obtain ⟨W3, hW3⟩ : ∃ W, w2.setCell ⟨w.heap.size + 1, 0, none⟩ (.slice A' M c') = W := ⟨_, rfl⟩
 have HSB3 := HSB.out
 have HST3 := HST.out
 rw [hW3] at HSB3 HST3 ⊢
 clear hW3 q9 q0 qf qlt HSB HST
 have hs13 : W1.heap.size ≤ W3.heap.size := Nat.le_trans hu2.size HST3.size
 have hu3 : Upd nob w W3 := (hu1.trans hu2).trans' HST3 (fun q hq h => by have h : q = w.heap.size + 1 := h; omega)
 have hc3 : Coll gpR D (w.heap.size + 2) 88 W3 (.slice A' M c') L0 := by
  have h := HC2.out
  rw [HS1.out] at h
  exact h.upd HST3 (fun k h => by have h : k = w.heap.size + 1 := h; exact ⟨by omega, fun hd => by have := hD k hd; omega⟩) (fun k hk => by have := hD k hk; have := hu1.size; have := hu2.size; omega)
 have hm3 : MapIs W3 w.heap.size (envL (L0.take 0)) := (HM1.out.upd hu2 (fun f => f)).upd HST3 (fun h => by have h : w.heap.size = w.heap.size + 1 := h; omega)
 have HC3 := Lib.hid hc3
 have HM3 := Lib.hid hm3
 have HB3 := Lib.hid HSB3
 have HU3 := Lib.hid hu3
 clear HSB3 HST3 hc3 hm3 hu2 hu3 HC2
 go_loopg [29] M (fun k v29 wr => ∃ j : Nat, j + k = M ∧ v29 = .int .i64 j ∧ MapIs wr w.heap.size (envL (L0.take j)) ∧ Upd (fun q => q = w.heap.size) W3 wr)
 case atStart => exact ⟨0, by omega, rfl, HM3.out, Upd.refl _ _⟩
 case round =>
  obtain ⟨j, hj, rfl, hm, hu⟩ := hrel
  have hb := HB3.out.upd hu (fun h => by have h : w.heap.size + 1 = w.heap.size := h; omega)
  have hcr := HC3.out.upd hu (fun k h => by have h : k = w.heap.size := h; exact ⟨by omega, fun hd => by have := hD k hd; omega⟩) (fun k hk => by have := hD k hk; have := HU3.out.size; omega)
  have hsz : W3.heap.size ≤ wr.heap.size := hu.size
  have hz3 := HS1.out
  by_cases hlt : j < M
  · have t2 : decide ((j : Int) < M) = true := by simp [hlt]
    obtain ⟨x, hx⟩ : ∃ x, L0[j]? = some x := ⟨_, List.getElem?_eq_getElem (by have := HZL.out; omega)⟩
    obtain ⟨A9, c9, hv9, hle9, hat⟩ := hcr.rat (D := fun q => D q ∨ (w.heap.size + 2 ≤ q ∧ q < wr.heap.size)) (fun q hq => hq)
    rw [HZL.out] at hv9
    injection hv9 with z1 z2 z3
    subst z1 z3
    obtain ⟨a, cs, k1, k2, k3, rfl, k5, gc, k6, k7⟩ := hat j x hx
    have q1 := k3 0 _ rfl
    rw [Addr_add_add, Nat.mul_one, Nat.add_zero] at q1
    have HA := Lib.hid k1
    obtain ⟨a0, a1, a2, a3, a4, a5, a6, a7, b0, b1, b2, b3, b4, b5, b6, b7, Cq, ccq, Rq, rcq, rfl, _⟩ := k7
    have q2 : wr.cell? ⟨x.2, 1, none⟩ = some (.string x.1.nm) := k6.cell 1
    have qx : x.2 < wr.heap.size := k6.lt
    have q3 : wr.cell? ⟨w.heap.size + 1, 1, none⟩ = some (.map (some w.heap.size)) := hb.cell 1
    have q4 : w.heap.size + 1 < wr.heap.size := hb.lt
    have hmn : mlook (envL (L0.take j)) x.1.nm = none := by
     rw [envL_none, gfind_none, List.map_map]
     have hd := HND.out
     obtain ⟨hjl, hje⟩ := List.getElem?_eq_some_iff.1 hx
     have e : L0 = L0.take j ++ L0[j]'hjl :: L0.drop (j + 1) := by rw [List.getElem_cons_drop]; exact (List.take_append_drop j L0).symm
     rw [e, List.map_append, List.nodup_append] at hd
     intro hin
     exact hd.2.2 x.1.nm hin x.1.nm (List.mem_map.2 ⟨x, by rw [hje]; exact List.mem_cons_self, rfl⟩) rfl
    have HMN := Lib.hid hmn
    have HM := Lib.hid hm
    have HX9 := Lib.hid hx
    clear k1 k3 k5 k6 hat hcr hb hmn hm hx hz3
    go_wp2_with (first
     | ((with_reducible refine this_op (.indexAddr 116 (.tmp 27) (.tmp 29)) ?_); refine wpList_index_at rfl 116 (.tmp 27) (.tmp 29) rfl _ a _ _ rfl HA.out j rfl hlt 88 Tryz.underlying116 1 gp_size ?_))
    refine wp_region_P (by kernel_rfl) ?_
    refine wpAny_of_S [9] (fun fl X => fl.getD 0 false = false → X = wr.drew) _ _ _ _ ?_
    have hS : [false].getD 0 false = false → wr.drew = wr.drew := fun _ => rfl
    refine sT 0 ?_ [false] rfl (by kernel_rfl) (by rfl) ?_ hS ?_
    rotate_left
    · rintro wx ⟨L, hL, hun, hx⟩
      obtain rfl := hx (unl hL [] (by kernel_rfl) hun)
      have hx := True.intro
      clear hx hL hun
      go_simp
      with_reducible rfl
    try simp only [tl]
    refine sT 1 ?_ [false] rfl (by kernel_rfl) (by rfl) ?_ hS ?_
    rotate_left
    · rintro wx ⟨L, hL, hun, hx⟩
      obtain rfl := hx (unl hL [] (by kernel_rfl) hun)
      have hx := True.intro
      clear hx hL hun
      go_simp
      with_reducible rfl
    try simp only [tl]
    refine sT 2 ?_ [false] rfl (by kernel_rfl) (by rfl) ?_ hS ?_
    rotate_left
    · rintro wx ⟨L, hL, hun, hx⟩
      obtain rfl := hx (unl hL [] (by kernel_rfl) hun)
      have hx := True.intro
      clear hx hL hun
      go_simp
      with_reducible rfl
    try simp only [tl]
    refine sT 3 ?_ [false] rfl (by kernel_rfl) (by rfl) ?_ hS ?_
    rotate_left
    · rintro wx ⟨L, hL, hun, hx⟩
      obtain rfl := hx (unl hL [] (by kernel_rfl) hun)
      have hx := True.intro
      have q : wr.drew.cell? ⟨w.heap.size + 1, 1, none⟩ = some (.map (some w.heap.size)) := q3
      clear hx hL hun
      go_simp
      with_reducible rfl
    try simp only [tl]
    refine sT 4 ?_ [false] rfl (by kernel_rfl) (by rfl) ?_ hS ?_
    rotate_left
    · rintro wx ⟨L, hL, hun, hx⟩
      obtain rfl := hx (unl hL [] (by kernel_rfl) hun)
      have hx := True.intro
      clear hx hL hun
      go_simp
      with_reducible rfl
    try simp only [tl]
    refine sT 5 ?_ [false] rfl (by kernel_rfl) (by rfl) ?_ hS ?_
    rotate_left
    · rintro wx ⟨L, hL, hun, hx⟩
      obtain rfl := hx (unl hL [] (by kernel_rfl) hun)
      have hx := True.intro
      clear hx hL hun
      go_simp
      with_reducible rfl
    try simp only [tl]
    refine sT 6 ?_ [false] rfl (by kernel_rfl) (by rfl) ?_ hS ?_
    rotate_left
    · rintro wx ⟨L, hL, hun, hx⟩
      obtain rfl := hx (unl hL [] (by kernel_rfl) hun)
      have hx := True.intro
      clear hx hL hun
      go_simp
      with_reducible rfl
    try simp only [tl]
    refine sT 7 ?_ [false] rfl (by kernel_rfl) (by rfl) ?_ hS ?_
    rotate_left
    · rintro wx ⟨L, hL, hun, hx⟩
      obtain rfl := hx (unl hL [] (by kernel_rfl) hun)
      have hx := True.intro
      have q : wr.drew.cell? ⟨x.2, 1, none⟩ = some (.string x.1.nm) := q2
      clear hx hL hun
      go_simp
      with_reducible rfl
    try simp only [tl]
    refine sT 8 ?_ [false] rfl (by kernel_rfl) (by rfl) ?_ hS ?_
    rotate_left
    · rintro wx ⟨L, hL, hun, hx⟩
      obtain rfl := hx (unl hL [] (by kernel_rfl) hun)
      have hx := True.intro
      clear hx hL hun
      go_simp
      with_reducible rfl
    try simp only [tl]
    refine wpAnyS_one (i := 9) [true] (by kernel_rfl) rfl (by rfl) fun K hK => ?_
    refine owp_upd_new (.tmp 36) (.tmp 40) (.tmp 41) rfl x.1.nm _ rfl rfl rfl Tryz.underlying115 Tryz.underlying9 (show MapIs wr.drew w.heap.size (envL (L0.take j)) from HM.out) HMN.out ?_
    have HMR := Lib.hid (setMap_is (l' := envL (L0.take j) ++ [(x.1.nm, .pointer (some ⟨x.2, 0, none⟩))]) (show MapIs wr.drew w.heap.size (envL (L0.take j)) from HM.out))
    have HUR := Lib.hid ((Upd.refl (fun q => q = w.heap.size) wr).drew.trans (setMap_upd (l' := envL (L0.take j) ++ [(x.1.nm, .pointer (some ⟨x.2, 0, none⟩))]) (show MapIs wr.drew w.heap.size (envL (L0.take j)) from HM.out)))
    refine hK _ _ (fun h => by cases h) ?_
    clear hK K; try simp only [tl]
    refine wpAnyS_done (by kernel_rfl) ?_
    refine NoPanic.normal ?_
    go_wp2_with fail
    go_roundg (gk - 1)
    case measure => omega
    case rel =>
     refine ⟨j + 1, by omega, by go_num, ?_, hu.trans HUR.out⟩
     have hs := List.getElem?_eq_some_iff.1 HX9.out
     rw [List.take_succ_eq_append_getElem hs.1, hs.2]
     obtain ⟨g, p⟩ := x
     rw [envL_push]
     exact HMR.out
  have t2 : decide ((j : Int) < M) = false := by simp; omega
  have : j = M := by omega
  subst this
  have hfull : L0.take j = L0 := by rw [← HZL.out, List.take_length]
  rw [hfull] at hm
  have hu1' : Upd nob w wr := HU3.out.trans' hu (fun q hq h => by have h : q = w.heap.size := h; omega)
  obtain ⟨W1', hW1'⟩ : ∃ W, wr = W := ⟨_, rfl⟩
  have HB1 := Lib.hid hb
  have HM1 := Lib.hid hm
  have HU1 := Lib.hid hu1'
  have HC1 := Lib.hid hcr
  have hnd := HND.out
  have hM0 : L0.length ≤ j := by have := HZL.out; omega
  have hXX : gwith (L0.map (·.1)) (l.drop 0) = X := by rw [HG0.out]; exact HX.out
  have HXX := Lib.hid hXX
  clear hXX hb hm hu1' hcr hfull hu hW1' HC3 HM3 HB3 HU3 HND hz3
  go_wp2_with fail
  go_loopg [45] n (fun k v45 wr => ∃ (jq : Nat) (Lc : List (Glb × Nat)) (sv : Value), jq + k = n ∧ v45 = .int .i64 jq ∧ Blk wr (w.heap.size + 1) 118 #[sv, .map (some w.heap.size)] ∧ MapIs wr w.heap.size (envL Lc) ∧ Coll gpR D (w.heap.size + 2) 88 wr sv Lc ∧ gwith (Lc.map (·.1)) (l.drop jq) = X ∧ (Lc.map (·.1.nm)).Nodup ∧ Lc.length ≤ j + jq ∧ Upd nob w wr ∧ w.heap.size + 2 ≤ wr.heap.size)
  case atStart => exact ⟨0, _, _, by omega, rfl, HB1.out, HM1.out, HC1.out, HXX.out, hnd, by omega, HU1.out, by have := HS1.out; omega⟩
  case round =>
   clear HB1 HM1 HC1 HXX hnd HU1
   obtain ⟨jq, Lc, sv, hj, rfl, hb, hm, hc, hx, hnd, hLl, hu, hsz⟩ := hrel
   obtain ⟨sA, sc, rfl, hcp⟩ := hc.form
   have HBR := Lib.hid hb
   have HMR := Lib.hid hm
   have HCR := Lib.hid hc
   have HXR := Lib.hid hx
   clear hb hm hc hx
   by_cases hlt : jq < n
   · have t2 : decide ((jq : Int) < n) = true := by simp [hlt]
     obtain ⟨g, hg'⟩ : ∃ g, l[jq]? = some g := ⟨_, List.getElem?_eq_getElem (by have := HN.out; omega)⟩
     obtain ⟨a, cs, hA, hDa, hrow, hg⟩ := (HL.out.old (hD.old hu) (fun _ h => h)) jq g hg'
     have HG := Lib.hid (show GlIs D wr g cs from hg)
     obtain ⟨a0, a1, a2, a3, a4, a5, a6, a7, b0, b1, b2, b3, b4, b5, b6, b7, C, cc, R, rc, rfl, _⟩ := hg
     have HON := Lib.hid (GlIs.cells HG.out).2
     have HA := Lib.hid hA
     have HGJ := Lib.hid hg'
     have hdrop : l.drop jq = g :: l.drop (jq + 1) := by
      have h := List.getElem?_eq_some_iff.1 hg'
      rw [List.drop_eq_getElem_cons h.1, h.2]
     have hxr := HXR.out
     rw [hdrop, gwith] at hxr
     have HXR2 := Lib.hid hxr
     clear hA hg' hdrop hxr HXR
     go_wp2_with (first
      | ((with_reducible refine this_op (.indexAddr 22 (.tmp 43) (.tmp 45)) ?_); refine wpList_index_at rfl 22 (.tmp 43) (.tmp 45) rfl _ a _ _ rfl HA.out jq rfl hlt 50 Tryz.underlying22 26 gl_size ?_)
      | ((with_reducible refine this_op (.load 50 (.tmp 47)) ?_); refine wpList_at rfl 50 (.tmp 47) rfl (a.add (jq * 26)) rfl _ _ hrow Tryz.underlying50 rfl gl_size ?_)
      | ((with_reducible refine this_op (.store 50 (.tmp 9) (.tmp 48)) ?_); refine wpList_store_row rfl 50 (.tmp 9) (.tmp 48) rfl wr.heap.size _ rfl rfl 50 _ (Blk.new wr _ _) gl_size rfl HON.out ?_
         obtain ⟨W3, hW3⟩ : ∃ W, (wr.alloc (.cells #[.int .i64 0, .string ByteArray.empty, .int .i64 0, .int .i64 0, .int .i64 0, .string ByteArray.empty, .int .i64 0, .int .i64 0, .slice none 0 0, .slice none 0 0, .slice none 0 0, .int .i64 0, .int .i64 0, .string ByteArray.empty, .int .i64 0, .int .i64 0, .slice none 0 0, .slice none 0 0, .slice none 0 0, .string ByteArray.empty, .int .i64 0, .int .i64 0, .int .i64 0, .slice none 0 0, .int .i64 0, .slice none 0 0] 50)).setRow wr.heap.size #[.int .i64 g.kind, .string g.nm, .int .i64 g.vars, a0, a1, a2, a3, a4, a5, a6, a7, b0, b1, b2, b3, b4, b5, b6, b7, .string g.ind, .int .i64 g.params, .int .i64 g.indices, .int .i64 g.fields, .slice C g.ctors.length cc, .int .i64 g.minors, .slice R g.rules.length rc] = W := ⟨_, rfl⟩
         have hu13 : Upd nob wr W3 := by rw [← hW3]; exact ((Upd.refl nob wr).alloc _).setRow (.inr (Nat.le_refl _)) _
         have HG3 := Lib.hid (show Blk W3 wr.heap.size 50 #[.int .i64 g.kind, .string g.nm, .int .i64 g.vars, a0, a1, a2, a3, a4, a5, a6, a7, b0, b1, b2, b3, b4, b5, b6, b7, .string g.ind, .int .i64 g.params, .int .i64 g.indices, .int .i64 g.fields, .slice C g.ctors.length cc, .int .i64 g.minors, .slice R g.rules.length rc] by rw [← hW3]; exact (Blk.new wr _ _).row _)
         rw [hW3]
         clear hW3))
     have hu3 : Upd nob wr W3 := hu13
     have hb3 := HBR.out.upd hu13 (fun f => f)
     have q31 : W3.drew.cell? ⟨w.heap.size + 1, 1, none⟩ = some (.map (some w.heap.size)) := hb3.cell 1
     have q3l : w.heap.size + 1 < W3.drew.heap.size := hb3.lt
     have q32 : W3.drew.cell? ⟨wr.heap.size, 1, none⟩ = some (.string g.nm) := HG3.out.cell 1
     have q3m : wr.heap.size < W3.drew.heap.size := HG3.out.lt
     have HM3 := Lib.hid (HMR.out.upd hu13 (fun f => f))
     obtain ⟨V, hV, bb, hbb⟩ := envL_cases Lc g.nm
     have HV := Lib.hid hV
     have HBB := Lib.hid hbb
     clear hb3 hV hbb
     refine wp_region_P (by kernel_rfl) ?_
     refine wpAny_of_S [] (fun _ X => X = W3.drew) _ _ _ _ ?_
     have hS : W3.drew = W3.drew := rfl
     refine sT 0 ?_ [] rfl (by kernel_rfl) (by rfl) ?_ hS ?_
     rotate_left
     · rintro wx ⟨L, hL, hun, hx⟩
       obtain rfl := hx
       have hx := True.intro
       clear hx hL hun
       go_simp
       with_reducible rfl
     try simp only [tl]
     refine sT 1 ?_ [] rfl (by kernel_rfl) (by rfl) ?_ hS ?_
     rotate_left
     · rintro wx ⟨L, hL, hun, hx⟩
       obtain rfl := hx
       have hx := True.intro
       clear hx hL hun
       go_simp
       with_reducible rfl
     try simp only [tl]
     refine sT 2 ?_ [] rfl (by kernel_rfl) (by rfl) ?_ hS ?_
     rotate_left
     · rintro wx ⟨L, hL, hun, hx⟩
       obtain rfl := hx
       have hx := True.intro
       clear hx hL hun
       go_simp
       with_reducible rfl
     try simp only [tl]
     refine sT 3 ?_ [] rfl (by kernel_rfl) (by rfl) ?_ hS ?_
     rotate_left
     · rintro wx ⟨L, hL, hun, hx⟩
       obtain rfl := hx
       have hx := True.intro
       clear hx hL hun
       go_simp
       with_reducible rfl
     try simp only [tl]
     refine sT 4 ?_ [] rfl (by kernel_rfl) (by rfl) ?_ hS ?_
     rotate_left
     · rintro wx ⟨L, hL, hun, hx⟩
       obtain rfl := hx
       have hx := True.intro
       clear hx hL hun
       go_simp
       with_reducible rfl
     try simp only [tl]
     refine sT 5 ?_ [] rfl (by kernel_rfl) (by rfl) ?_ hS ?_
     rotate_left
     · rintro wx ⟨L, hL, hun, hx⟩
       obtain rfl := hx
       have hx := True.intro
       clear hx hL hun
       go_simp
       with_reducible rfl
     try simp only [tl]
     refine sT 6 (V) [] rfl (by kernel_rfl) (by rfl) ?_ hS ?_
     · rintro wx ⟨L, hL, hun, hx⟩
       obtain rfl := hx
       exact run_look_op (.tmp 52) (.tmp 54) rfl g.nm rfl rfl Tryz.underlying115 Tryz.underlying9 (gp_zero _) (show MapIs W3.drew w.heap.size (envL Lc) from HM3.out) V HV.out
     try simp only [tl]
     refine sT 7 (.bool bb) [] rfl (by kernel_rfl) (by rfl) ?_ hS ?_
     · rintro wx ⟨L, hL, hun, hx⟩
       obtain rfl := hx
       rcases HBB.out with ⟨h1, h2, _⟩ | ⟨p, h1, h2, _⟩ <;> subst h1 h2 <;> go_simp
     try simp only [tl]
     refine wpAnyS_done (by kernel_rfl) ?_
     refine NoPanic.normal ?_
     clear q31 q3l q32 q3m
     cases bb with
     | false =>
      have hsome : (gfind (Lc.map (·.1)) g.nm).isSome = true := by
       rcases HBB.out with ⟨_, h, _⟩ | ⟨_, _, _, h⟩
       · cases h
       exact h
      go_wp2_with fail
      go_roundg (gk - 1)
      case measure => omega
      case rel =>
       have hxr := HXR2.out
       rw [if_pos hsome] at hxr
       exact ⟨jq + 1, Lc, _, by omega, by go_num, HBR.out.upd hu13.drew (fun f => f), HM3.out, HCR.out.upd hu13.drew (fun _ f => f.elim) (fun x h => by have := hED x h; omega), hxr, hnd, by omega, hu.trans hu13.drew, Nat.le_trans hsz hu13.size⟩
     | true =>
      have hnone : gfind (Lc.map (·.1)) g.nm = none := by
       rcases HBB.out with ⟨_, _, h⟩ | ⟨_, _, h, _⟩
       · exact h
       cases h
      have r9 := HG3.out.rowAt
      have hu03 : Upd nob w W3 := hu.trans hu13
      go_wp2_with (first
       | ((with_reducible refine this_op (.load 50 (.tmp 9)) ?_); refine wpList_at rfl 50 (.tmp 9) rfl ⟨wr.heap.size, 0, none⟩ rfl _ _ r9 Tryz.underlying50 rfl gl_size ?_))
      refine (own_any g _ D W3.drew (hD.up (hu.trans hu13.drew)) (HG.out.old ((hD.up hu).old hu13.drew) (fun _ h => h))).mono ?_
      rintro e w4 ⟨cs4, rfl, hg4, hu4⟩
      have hu34 : Upd nob W3 w4 := (Upd.refl nob W3).drew.trans hu4
      have HG4 := Lib.hid hg4
      obtain ⟨c0, c1, c2, c3, c4, c5, c6, c7, d0, d1, d2, d3, d4, d5, d6, d7, C', cc', R', rc', rfl, _⟩ := hg4
      have HON4 := Lib.hid (GlIs.cells HG4.out).2
      clear r9
      go_wp2_with (first
       | ((with_reducible refine this_op (.store 50 (.tmp 10) (.tmp 58)) ?_); refine wpList_store_row rfl 50 (.tmp 10) (.tmp 58) rfl w4.heap.size _ rfl rfl 50 _ (Blk.new w4 _ _) gl_size rfl HON4.out ?_
          obtain ⟨W5, hW5⟩ : ∃ W, (w4.alloc (.cells #[.int .i64 0, .string ByteArray.empty, .int .i64 0, .int .i64 0, .int .i64 0, .string ByteArray.empty, .int .i64 0, .int .i64 0, .slice none 0 0, .slice none 0 0, .slice none 0 0, .int .i64 0, .int .i64 0, .string ByteArray.empty, .int .i64 0, .int .i64 0, .slice none 0 0, .slice none 0 0, .slice none 0 0, .string ByteArray.empty, .int .i64 0, .int .i64 0, .int .i64 0, .slice none 0 0, .int .i64 0, .slice none 0 0] 50)).setRow w4.heap.size #[.int .i64 (gown g).kind, .string (gown g).nm, .int .i64 (gown g).vars, c0, c1, c2, c3, c4, c5, c6, c7, d0, d1, d2, d3, d4, d5, d6, d7, .string (gown g).ind, .int .i64 (gown g).params, .int .i64 (gown g).indices, .int .i64 (gown g).fields, .slice C' (gown g).ctors.length cc', .int .i64 (gown g).minors, .slice R' (gown g).rules.length rc'] = W := ⟨_, rfl⟩
          have hu45 : Upd nob w4 W5 := by rw [← hW5]; exact ((Upd.refl nob w4).alloc _).setRow (.inr (Nat.le_refl _)) _
          have HG5 := Lib.hid (show Blk W5 w4.heap.size 50 #[.int .i64 (gown g).kind, .string (gown g).nm, .int .i64 (gown g).vars, c0, c1, c2, c3, c4, c5, c6, c7, d0, d1, d2, d3, d4, d5, d6, d7, .string (gown g).ind, .int .i64 (gown g).params, .int .i64 (gown g).indices, .int .i64 (gown g).fields, .slice C' (gown g).ctors.length cc', .int .i64 (gown g).minors, .slice R' (gown g).rules.length rc'] by rw [← hW5]; exact (Blk.new w4 _ _).row _)
          rw [hW5]
          clear hW5))
      have hur5 : Upd nob wr W5 := ((hu13.trans hu34).trans hu45)
      have hb5 := HBR.out.upd hur5 (fun f => f)
      have c50 : W5.drew.cell? ⟨w.heap.size + 1, 0, none⟩ = some (.slice sA Lc.length sc) := hb5.cell 0
      have c51 : W5.drew.cell? ⟨w.heap.size + 1, 1, none⟩ = some (.map (some w.heap.size)) := hb5.cell 1
      have c52 : W5.drew.cell? ⟨wr.heap.size, 1, none⟩ = some (.string g.nm) := ((HG3.out.upd hu34 (fun f => f)).upd hu45 (fun f => f)).cell 1
      have e5 : w.heap.size + 1 < W5.heap.size := hb5.lt
      have e3 : wr.heap.size < W3.heap.size := HG3.out.lt
      have e34 : W3.heap.size ≤ w4.heap.size := hu34.size
      have e45 : w4.heap.size < W5.heap.size := HG5.out.lt
      have hnO : ∀ q, (Value.slice sA Lc.length sc).ownBlock = some q → w.heap.size + 2 ≤ q ∧ q < wr.heap.size := fun q h => HCR.out.lt h
      clear hb5
      refine wp_region_P (by kernel_rfl) ?_
      refine wpAny_of_S [15] (fun fl X => X.cell? ⟨w.heap.size + 1, 1, none⟩ = some (.map (some w.heap.size)) ∧ X.cell? ⟨wr.heap.size, 1, none⟩ = some (.string g.nm) ∧ (fl.getD 0 false = false → X.cell? ⟨w.heap.size + 1, 0, none⟩ = some (.slice sA Lc.length sc))) _ _ _ _ ?_
      have hS := And.intro c51 (And.intro c52 (fun _ : [false].getD 0 false = false => c50))
      refine sT 0 ?_ [false] rfl (by kernel_rfl) (by rfl) ?_ hS ?_
      rotate_left; · intro wx hx; clear hx; go_simp; with_reducible rfl
      try simp only [tl]
      refine sT 1 ?_ [false] rfl (by kernel_rfl) (by rfl) ?_ hS ?_
      rotate_left; · intro wx hx; clear hx; go_simp; with_reducible rfl
      try simp only [tl]
      refine sT 2 ?_ [false] rfl (by kernel_rfl) (by rfl) ?_ hS ?_
      rotate_left; · intro wx hx; clear hx; go_simp; with_reducible rfl
      try simp only [tl]
      refine sT 3 ?_ [false] rfl (by kernel_rfl) (by rfl) ?_ hS ?_
      rotate_left; · intro wx hx; clear hx; go_simp; with_reducible rfl
      try simp only [tl]
      refine sT 5 ?_ [false] rfl (by kernel_rfl) (by rfl) ?_ hS ?_
      rotate_left; · intro wx hx; clear hx; go_simp; with_reducible rfl
      try simp only [tl]
      refine sT 7 ?_ [false] rfl (by kernel_rfl) (by rfl) ?_ hS ?_
      rotate_left; · intro wx hx; clear hx; go_simp; with_reducible rfl
      try simp only [tl]
      refine sT 8 ?_ [false] rfl (by kernel_rfl) (by rfl) ?_ hS ?_
      rotate_left; · intro wx hx; clear hx; go_simp; with_reducible rfl
      try simp only [tl]
      refine sT 9 ?_ [false] rfl (by kernel_rfl) (by rfl) ?_ hS ?_
      rotate_left; · intro wx hx; clear hx; go_simp; with_reducible rfl
      try simp only [tl]
      refine sT 4 ?_ [false] rfl (by kernel_rfl) (by rfl) ?_ hS ?_
      rotate_left
      · rintro wx ⟨L, hL, hun, hx⟩
        have q := hx.1
        clear hx hL hun
        go_simp
        with_reducible rfl
      try simp only [tl]
      refine sT 6 ?_ [false] rfl (by kernel_rfl) (by rfl) ?_ hS ?_
      rotate_left
      · rintro wx ⟨L, hL, hun, hx⟩
        have q := hx.2.1
        clear hx hL hun
        go_simp
        with_reducible rfl
      try simp only [tl]
      refine sT 10 ?_ [false] rfl (by kernel_rfl) (by rfl) ?_ hS ?_
      rotate_left
      · rintro wx ⟨L, hL, hun, hx⟩
        have q := hx.2.2 (unl hL [] (by kernel_rfl) hun)
        clear hx hL hun
        go_simp
        with_reducible rfl
      try simp only [tl]
      refine wpAnyS_one (i := 11) [false] (by kernel_rfl) rfl (by rfl) fun K hK => ?_
      go_simp
      obtain ⟨W6, hW6⟩ : ∃ W, (W5.alloc (.cells #[.pointer (some ⟨w4.heap.size, 0, none⟩)] 88)).drew = W := ⟨_, rfl⟩
      have hu56 : Upd nob W5 W6 := by rw [← hW6]; exact ((Upd.refl nob W5).alloc _).drew
      have hb6 : Blk W6 W5.heap.size 88 #[.pointer (some ⟨w4.heap.size, 0, none⟩)] := by rw [← hW6]; exact Blk.new W5 _ _
      rw [hW6]
      clear hW6
      have hur6 : Upd nob wr W6 := hur5.trans hu56
      have e56 : W5.heap.size < W6.heap.size := hb6.lt
      have c61 : W6.cell? ⟨w.heap.size + 1, 1, none⟩ = some (.map (some w.heap.size)) := (hu56.cell (p := ⟨w.heap.size + 1, 1, none⟩) e5 (fun f => f)).trans c51
      have c62 : W6.cell? ⟨wr.heap.size, 1, none⟩ = some (.string g.nm) := (hu56.cell (p := ⟨wr.heap.size, 1, none⟩) (by show wr.heap.size < _; omega) (fun f => f)).trans c52
      have c60 : W6.cell? ⟨w.heap.size + 1, 0, none⟩ = some (.slice sA Lc.length sc) := (hu56.cell (p := ⟨w.heap.size + 1, 0, none⟩) e5 (fun f => f)).trans c50
      have hS := And.intro c61 (And.intro c62 (fun _ : [false].getD 0 false = false => c60))
      have HC6 := Lib.hid (HCR.out.upd hur6 (fun _ f => f.elim) (fun x h => by have := hED x h; omega))
      have HB6 := Lib.hid hb6
      have hl6 : gpR.is (fun q => D q ∨ (W3.heap.size ≤ q ∧ q < W5.heap.size)) W6 (gown g, w4.heap.size) #[.pointer (some ⟨w4.heap.size, 0, none⟩)] :=
       ⟨rfl, .inr ⟨e34, e45⟩, #[.int .i64 (gown g).kind, .string (gown g).nm, .int .i64 (gown g).vars, c0, c1, c2, c3, c4, c5, c6, c7, d0, d1, d2, d3, d4, d5, d6, d7, .string (gown g).ind, .int .i64 (gown g).params, .int .i64 (gown g).indices, .int .i64 (gown g).fields, .slice C' (gown g).ctors.length cc', .int .i64 (gown g).minors, .slice R' (gown g).rules.length rc'], HG5.out.upd hu56 (fun f => f), HG4.out.old (Old.of_upd (hu45.trans hu56) (fun q hq => ⟨fun f => f, hq.elim (fun h => by have := hD q h; omega) (fun h => h.2)⟩)) (fun q hq => hq.imp id (fun h => ⟨h.1, by have := h.2; omega⟩))⟩
      have HL6 := Lib.hid hl6
      have hD6 : ∀ q, (D q ∨ (W3.heap.size ≤ q ∧ q < W5.heap.size)) → cd D (w.heap.size + 2) W6 (.slice sA Lc.length sc) q := fun q hq => by
       rcases hq with h | h
       · exact ⟨.inl h, fun h2 => by have := (hnO q h2).1; have := hD q h; omega⟩
       exact ⟨.inr ⟨by have := h.1; omega, by have := h.2; omega⟩, fun h2 => by have := (hnO q h2).2; have := h.1; omega⟩
      refine hK _ _ hS ?_
      clear hb6 hl6
      clear hK K; try simp only [tl]
      refine wpAnyS_one (i := 12) [false] (by kernel_rfl) rfl (by rfl) fun K hK => ?_
      refine owp_collect (.tmp 69) (.tmp 70) 116 rfl _ 8 Tryz.underlying116 gp_info (by kernel_rfl) (by decide) rfl HC6.out hED W5.heap.size #[.pointer (some ⟨w4.heap.size, 0, none⟩)] rfl HB6.out (gown g, w4.heap.size) _ HL6.out hD6 Lc.length rfl (by omega) (by omega) (by omega) ?_
      intro A7 c7 w7 hc7 hu7 hat7
      have e7 : W6.heap.size ≤ w7.heap.size := hu7.size
      have c71 : w7.cell? ⟨w.heap.size + 1, 1, none⟩ = some (.map (some w.heap.size)) := (hu7.cell (p := ⟨w.heap.size + 1, 1, none⟩) (by show w.heap.size + 1 < _; omega) (fun h => by have := (hnO (w.heap.size + 1) h).1; omega)).trans c61
      have c72 : w7.cell? ⟨wr.heap.size, 1, none⟩ = some (.string g.nm) := (hu7.cell (p := ⟨wr.heap.size, 1, none⟩) (by show wr.heap.size < _; omega) (fun h => by have := (hnO wr.heap.size h).2; omega)).trans c62
      have hb7 := ((HBR.out.upd hur6 (fun f => f)).upd hu7 (fun h => by have := (hnO _ h).1; omega))
      have c70 : w7.cell? ⟨w.heap.size + 1, 0, none⟩ = some (.slice sA Lc.length sc) := hb7.cell 0
      have f70 := hb7.frozen 0
      have l70 := hb7.lt
      have hS := And.intro c71 (And.intro c72 (fun _ : [false].getD 0 false = false => c70))
      have HB7 := Lib.hid hb7
      have HC7 := Lib.hid hc7
      refine hK _ _ hS ?_
      clear hb7 hc7 hat7
      clear hK K; try simp only [tl]
      refine sT 13 ?_ [false] rfl (by kernel_rfl) (by rfl) ?_ hS ?_
      rotate_left; · intro wx hx; clear hx; go_simp; with_reducible rfl
      try simp only [tl]
      refine sT 14 ?_ [false] rfl (by kernel_rfl) (by rfl) ?_ hS ?_
      rotate_left; · intro wx hx; clear hx; go_simp; with_reducible rfl
      try simp only [tl]
      refine wpAnyS_one (i := 15) [true] (by kernel_rfl) rfl (by rfl) fun K hK => ?_
      go_simp
      obtain ⟨W8, hW8⟩ : ∃ W, w7.setCell ⟨w.heap.size + 1, 0, none⟩ (.slice A7 (Lc.length + 1) c7) = W := ⟨_, rfl⟩
      have hu8 : Upd (fun q => q = w.heap.size + 1) w7 W8 := by rw [← hW8]; exact (Upd.refl (fun q => q = w.heap.size + 1) w7).setCell (.inl rfl) _
      have hb8 : Blk W8 (w.heap.size + 1) 118 #[.slice A7 (Lc.length + 1) c7, .map (some w.heap.size)] := by rw [← hW8]; exact HB7.out.set 0 _
      rw [hW8]
      clear hW8
      have e8 : w7.heap.size ≤ W8.heap.size := hu8.size
      have hS : W8.cell? ⟨w.heap.size + 1, 1, none⟩ = some (.map (some w.heap.size)) ∧ W8.cell? ⟨wr.heap.size, 1, none⟩ = some (.string g.nm) ∧ ([true].getD 0 false = false → W8.cell? ⟨w.heap.size + 1, 0, none⟩ = some (.slice sA Lc.length sc)) :=
       ⟨hb8.cell 1, (hu8.cell (p := ⟨wr.heap.size, 1, none⟩) (by show wr.heap.size < _; omega) (fun h => by have h : wr.heap.size = w.heap.size + 1 := h; omega)).trans c72, fun h => by cases h⟩
      have hm8 : MapIs W8 w.heap.size (envL Lc) := ((HMR.out.upd hur6 (fun f => f)).upd hu7 (fun h => by have := (hnO _ h).1; omega)).upd hu8 (fun h => by have h : w.heap.size = w.heap.size + 1 := h; omega)
      have hmn : mlook (envL Lc) g.nm = none := envL_none.2 hnone
      have HC8 := Lib.hid (HC7.out.upd hu8 (fun k h => by have h : k = w.heap.size + 1 := h; exact ⟨by omega, fun hd => by have := hD k hd; omega⟩) (fun x h => by have := hED x h; omega))
      have HB8 := Lib.hid hb8
      have HM8 := Lib.hid hm8
      have HMN := Lib.hid hmn
      refine hK _ _ hS ?_
      clear hb8 hm8 hmn
      clear hK K; try simp only [tl]
      refine wpAnyS_one (i := 16) [true] (by kernel_rfl) rfl (by rfl) fun K hK => ?_
      refine owp_entry_new (.tmp 63) (.tmp 65) rfl g.nm rfl rfl Tryz.underlying115 Tryz.underlying9 gp_zero HM8.out HMN.out Lc.length (by simp [envL]) ?_
      have hm9 := setMap_is (l' := envL Lc ++ [(g.nm, .pointer none)]) HM8.out
      have hu9 := setMap_upd (l' := envL Lc ++ [(g.nm, .pointer none)]) HM8.out
      obtain ⟨W9, hW9⟩ : ∃ W, setMap W8 w.heap.size (envL Lc ++ [(g.nm, .pointer none)]) = W := ⟨_, rfl⟩
      rw [hW9] at hm9 hu9 ⊢
      clear hW9
      have e9 : W8.heap.size ≤ W9.heap.size := hu9.size
      have hb9 := HB8.out.upd hu9 (fun h => by have h : w.heap.size + 1 = w.heap.size := h; omega)
      have hS : W9.cell? ⟨w.heap.size + 1, 1, none⟩ = some (.map (some w.heap.size)) ∧ W9.cell? ⟨wr.heap.size, 1, none⟩ = some (.string g.nm) ∧ ([true].getD 0 false = false → W9.cell? ⟨w.heap.size + 1, 0, none⟩ = some (.slice sA Lc.length sc)) :=
       ⟨hb9.cell 1, (hu9.cell (p := ⟨wr.heap.size, 1, none⟩) (by show wr.heap.size < _; omega) (fun h => by have h : wr.heap.size = w.heap.size := h; omega)).trans hS.2.1, fun h => by cases h⟩
      have HM9 := Lib.hid hm9
      have HB9 := Lib.hid hb9
      refine hK _ _ hS ?_
      clear hm9 hb9
      clear hK K; try simp only [tl]
      refine sT 17 ?_ [true] rfl (by kernel_rfl) (by rfl) ?_ hS ?_
      rotate_left; · intro wx hx; clear hx; go_simp; with_reducible rfl
      try simp only [tl]
      refine wpAnyS_one (i := 18) [true] (by kernel_rfl) rfl (by rfl) fun K hK => ?_
      refine owp_entryStore (l := envL Lc) (.tmp 63) (.tmp 75) (.tmp 10) rfl g.nm (.pointer (some ⟨w4.heap.size, 0, none⟩)) (.pointer none) rfl Lc.length (by simp [envL]) rfl rfl HM9.out ?_
      have hm10 := setMap_is (l' := envL Lc ++ [(g.nm, .pointer (some ⟨w4.heap.size, 0, none⟩))]) HM9.out
      have hu10 := setMap_upd (l' := envL Lc ++ [(g.nm, .pointer (some ⟨w4.heap.size, 0, none⟩))]) HM9.out
      obtain ⟨W10, hW10⟩ : ∃ W, setMap W9 w.heap.size (envL Lc ++ [(g.nm, .pointer (some ⟨w4.heap.size, 0, none⟩))]) = W := ⟨_, rfl⟩
      rw [hW10] at hm10 hu10 ⊢
      clear hW10
      have hu910 := hu9.trans hu10
      have e10 : W9.heap.size ≤ W10.heap.size := hu10.size
      have HBF := Lib.hid (HB9.out.upd hu10 (fun h => by have h : w.heap.size + 1 = w.heap.size := h; omega))
      have HCF := Lib.hid (HC8.out.upd hu910 (fun k h => by have h : k = w.heap.size := h; exact ⟨by omega, fun hd => by have := hD k hd; omega⟩) (fun x h => by have := hED x h; omega))
      have HMF : Hid (MapIs W10 w.heap.size (envL (Lc ++ [(gown g, w4.heap.size)]))) := Lib.hid (by rw [envL_push]; exact hm10)
      have HUF := Lib.hid ((((hu.trans hur6).trans' hu7 (fun q hq h => by have := (hnO q h).1; omega)).trans' hu8 (fun q hq h => by have h : q = w.heap.size + 1 := h; omega)).trans' hu910 (fun q hq h => by have h : q = w.heap.size := h; omega))
      have hS : W10.cell? ⟨w.heap.size + 1, 1, none⟩ = some (.map (some w.heap.size)) ∧ W10.cell? ⟨wr.heap.size, 1, none⟩ = some (.string g.nm) ∧ ([true].getD 0 false = false → W10.cell? ⟨w.heap.size + 1, 0, none⟩ = some (.slice sA Lc.length sc)) :=
       ⟨HBF.out.cell 1, (hu10.cell (p := ⟨wr.heap.size, 1, none⟩) (by show wr.heap.size < _; omega) (fun h => by have h : wr.heap.size = w.heap.size := h; omega)).trans hS.2.1, fun h => by cases h⟩
      refine hK _ _ hS ?_
      clear hm10
      clear hK K; try simp only [tl]
      refine wpAnyS_done (by kernel_rfl) ?_
      refine NoPanic.normal ?_
      go_wp2_with fail
      go_roundg (gk - 1)
      case measure => omega
      case rel =>
       have hxr := HXR2.out
       rw [if_neg (by rw [hnone]; decide)] at hxr
       refine ⟨jq + 1, Lc ++ [(gown g, w4.heap.size)], _, by omega, by go_num, HBF.out, HMF.out, HCF.out, by rw [List.map_append]; exact hxr, ?_, by simp; omega, HUF.out, by have := HUF.out.size; omega⟩
       have := nodup_push (G := Lc.map (·.1)) (g := gown g) (by rw [List.map_map]; exact hnd) hnone
       simpa [Function.comp_def] using this
   have t2 : decide ((jq : Int) < n) = false := by simp; omega
   have : jq = n := by omega
   subst this
   have hxr := HXR.out
   rw [← HN.out, List.drop_length, gwith] at hxr
   have hfin := env_mk (D' := grow D w wr) HCR.out HBR.out HMR.out hnd (fun q hq => hq.imp id (fun h => ⟨by omega, h.2⟩)) (.inr ⟨by omega, by omega⟩) (.inr ⟨by omega, by omega⟩) (by omega)
   rw [hxr] at hfin
   have HF := Lib.hid hfin
   clear hfin hxr
   go_wp2_with fail
   go_ret
   exact ⟨_, rfl, HF.out, hu⟩
end Go.Proofs.YtiampoebdmflgaaGreat
/- New of globals; Find. -/
namespace Go.Proofs.YtiampoebdmflgaaGreat
open Go.RowKit
set_option linter.unusedVariables false
set_option maxRecDepth 100000
set_option maxHeartbeats 8000000
set_option linter.unusedSimpArgs false
theorem new_any (l : List Glb) (A : Option Addr) (c : Nat) (D : Nat → Prop) (w : World) (hD : Within D w) (hl : RAt glR D w l A) (hlen : l.length ≤ 1000000) (hlc : l.length ≤ c) :
    Calls Tryz.prog 12 #[.slice A l.length c] w fun e w' => ∃ eb, e = .returned (.pointer (some ⟨eb, 0, none⟩)) ∧ EnvIs (grow D w w') w' eb (gwith [] l) ∧ Upd nob w w' := by
 go_enter Tryz.func12, Tryz.ntmps12
 go_wp2_with fail
 refine (with_any (.pointer none) [] l A c D w hD (.inl ⟨rfl, rfl⟩) hl (by simp only [List.length_nil]; omega) hlc).mono ?_
 rintro e w' ⟨eb, rfl, h⟩
 go_wp2_with fail
 go_ret
 exact ⟨eb, rfl, h⟩
def FindIs (D : Nat → Prop) (w : World) (og : Option Glb) (cs : Array Value) (ok : Bool) : Prop := (og = none ∧ ok = false ∧ cs = #[.int .i64 0, .string ByteArray.empty, .int .i64 0, .int .i64 0, .int .i64 0, .string ByteArray.empty, .int .i64 0, .int .i64 0, .slice none 0 0, .slice none 0 0, .slice none 0 0, .int .i64 0, .int .i64 0, .string ByteArray.empty, .int .i64 0, .int .i64 0, .slice none 0 0, .slice none 0 0, .slice none 0 0, .string ByteArray.empty, .int .i64 0, .int .i64 0, .int .i64 0, .slice none 0 0, .int .i64 0, .slice none 0 0]) ∨ ∃ g, og = some g ∧ ok = true ∧ GlIs D w g cs
theorem FindIs.old {D D' : Nat → Prop} {w w' : World} {og : Option Glb} {cs : Array Value} {ok : Bool} (h : FindIs D w og cs ok) (ho : Old D w w') (hD : ∀ k, D k → D' k) : FindIs D' w' og cs ok :=
 h.imp id fun ⟨g, h1, h2, h3⟩ => ⟨g, h1, h2, h3.old ho hD⟩
theorem FindIs.cells {D : Nat → Prop} {w : World} {og : Option Glb} {cs : Array Value} {ok : Bool} (h : FindIs D w og cs ok) : cs.size = 26 ∧ cs.all (·.oneCell') = true := by
 rcases h with ⟨_, _, rfl⟩ | ⟨g, _, _, h⟩
 · exact ⟨rfl, by simp [Value.oneCell']⟩
 exact h.cells
theorem FindIs.lit {D : Nat → Prop} {w : World} {og : Option Glb} {cs : Array Value} {ok : Bool} (h : FindIs D w og cs ok) : ok = og.isSome ∧ cs[0]? = some (.int .i64 ((og.map (·.kind)).getD 0)) ∧ cs[1]? = some (.string ((og.map (·.nm)).getD ByteArray.empty)) ∧ cs[2]? = some (.int .i64 ((og.map (·.vars)).getD 0)) := by
 rcases h with ⟨rfl, rfl, rfl⟩ | ⟨g, rfl, rfl, h⟩
 · exact ⟨rfl, rfl, rfl, rfl⟩
 obtain ⟨a0, a1, a2, a3, a4, a5, a6, a7, b0, b1, b2, b3, b4, b5, b6, b7, C, cc, R, rc, rfl, _⟩ := h
 exact ⟨rfl, rfl, rfl, rfl⟩
end Go.Proofs.YtiampoebdmflgaaGreat
/- The law's light: few globals, of few rules. -/
namespace Go.Proofs.YtiampoebdmflgaaGreat
open Go.RowKit
set_option linter.unusedVariables false
set_option maxRecDepth 100000
set_option maxHeartbeats 8000000
set_option linter.unusedSimpArgs false
def wlight : Nat → List Glb → Bool
 | _, [] => true
 | i, g :: l => if 30 ≤ i ∨ 12 < g.rules.length then false else wlight (i + 1) l
theorem wlight_len : ∀ (i : Nat) (l : List Glb), wlight i l = true → l.length + i ≤ 30 ∨ l = []
 | _, [], _ => .inr rfl
 | i, g :: l, h => by
  rw [wlight] at h
  split at h
  · cases h
  rename_i hn
  rcases wlight_len (i + 1) l h with h1 | rfl
  · simp only [List.length_cons]; omega
  simp only [List.length_cons, List.length_nil]; omega
theorem light10_any (l : List Glb) (A : Option Addr) (c : Nat) (D : Nat → Prop) (w : World) (hD : Within D w) (hl : RAt glR D w l A) :
    Calls Tryz.prog 8 #[.slice A l.length c] w fun e w' => e = .returned (.bool (wlight 0 l)) ∧ Upd nob w w' := by
 have hz := gl_zero
 obtain ⟨n, hn⟩ : ∃ n, l.length = n := ⟨_, rfl⟩
 have HN := Lib.hid hn
 have HL := Lib.hid hl
 rw [hn]
 obtain ⟨X, hX⟩ : ∃ X, wlight 0 l = X := ⟨_, rfl⟩
 rw [hX]
 have hX0 : wlight 0 (l.drop 0) = X := hX
 have HX := Lib.hid hX0
 clear hl hn hX hX0
 go_enter Tryz.func8, Tryz.ntmps8
 go_wp2_with fail
 go_loopg [7] n (fun k v7 wr => ∃ j : Nat, j + k = n ∧ v7 = .int .i64 j ∧ wlight j (l.drop j) = X ∧ Upd nob w wr ∧ j ≤ 30)
 case atStart => exact ⟨0, by omega, rfl, HX.out, Upd.refl _ _, by omega⟩
 case round =>
  clear HX
  obtain ⟨j, hj, rfl, hx, hu, hj30⟩ := hrel
  have HX := Lib.hid hx
  clear hx
  by_cases hlt : j < n
  · have t2 : decide ((j : Int) < n) = true := by simp [hlt]
    obtain ⟨g, hg'⟩ : ∃ g, l[j]? = some g := ⟨_, List.getElem?_eq_getElem (by have := HN.out; omega)⟩
    obtain ⟨a, cs, hA, hDa, hrow, hg⟩ := (HL.out.old (hD.old hu) (fun _ h => h)) j g hg'
    have hrl : g.rules.length * 144 ≤ 140737488351232 := by obtain ⟨_, _, _, _, _, _, _, _, _, _, _, _, _, _, _, _, _, _, _, _, _, _, _, _, _, _, _, _, h⟩ := hg; exact h.1
    have HON := Lib.hid (GlIs.cells (show GlIs D wr g cs from hg)).2
    obtain ⟨a0, a1, a2, a3, a4, a5, a6, a7, b0, b1, b2, b3, b4, b5, b6, b7, C, cc, R, rc, rfl, _⟩ := hg
    have HA := Lib.hid hA
    have hdrop : l.drop j = g :: l.drop (j + 1) := by
     have h := List.getElem?_eq_some_iff.1 hg'
     rw [List.drop_eq_getElem_cons h.1, h.2]
    have hxr := HX.out
    rw [hdrop, wlight] at hxr
    have HXR := Lib.hid hxr
    clear hA hg' hdrop hxr HX
    by_cases hjj : 30 ≤ j
    · have t3 : decide ((30 : Int) ≤ j) = true := by simp; omega
      have hX : X = false := by rw [← HXR.out, if_pos (.inl hjj)]
      clear hjj
      go_wp2_with (first
       | ((with_reducible refine this_op (.indexAddr 22 (.tmp 5) (.tmp 7)) ?_); refine wpList_index_at rfl 22 (.tmp 5) (.tmp 7) rfl _ a _ _ rfl HA.out j rfl hlt 50 Tryz.underlying22 26 gl_size ?_)
       | ((with_reducible refine this_op (.load 50 (.tmp 10)) ?_); refine wpList_at rfl 50 (.tmp 10) rfl (a.add (j * 26)) rfl _ _ hrow Tryz.underlying50 rfl gl_size ?_)
       | ((with_reducible refine this_op (.store 50 (.tmp 4) (.tmp 11)) ?_); refine wpList_store_row rfl 50 (.tmp 4) (.tmp 11) rfl wr.heap.size _ rfl rfl 50 _ (Blk.new wr _ _) gl_size rfl HON.out ?_
          obtain ⟨W3, hW3⟩ : ∃ W, (wr.alloc (.cells #[.int .i64 0, .string ByteArray.empty, .int .i64 0, .int .i64 0, .int .i64 0, .string ByteArray.empty, .int .i64 0, .int .i64 0, .slice none 0 0, .slice none 0 0, .slice none 0 0, .int .i64 0, .int .i64 0, .string ByteArray.empty, .int .i64 0, .int .i64 0, .slice none 0 0, .slice none 0 0, .slice none 0 0, .string ByteArray.empty, .int .i64 0, .int .i64 0, .int .i64 0, .slice none 0 0, .int .i64 0, .slice none 0 0] 50)).setRow wr.heap.size #[.int .i64 g.kind, .string g.nm, .int .i64 g.vars, a0, a1, a2, a3, a4, a5, a6, a7, b0, b1, b2, b3, b4, b5, b6, b7, .string g.ind, .int .i64 g.params, .int .i64 g.indices, .int .i64 g.fields, .slice C g.ctors.length cc, .int .i64 g.minors, .slice R g.rules.length rc] = W := ⟨_, rfl⟩
          have hu13 : Upd nob wr W3 := by rw [← hW3]; exact ((Upd.refl nob wr).alloc _).setRow (.inr (Nat.le_refl _)) _
          have hbG : Blk W3 wr.heap.size 50 #[.int .i64 g.kind, .string g.nm, .int .i64 g.vars, a0, a1, a2, a3, a4, a5, a6, a7, b0, b1, b2, b3, b4, b5, b6, b7, .string g.ind, .int .i64 g.params, .int .i64 g.indices, .int .i64 g.fields, .slice C g.ctors.length cc, .int .i64 g.minors, .slice R g.rules.length rc] := by rw [← hW3]; exact (Blk.new wr _ _).row _
          rw [hW3]
          clear hW3
          have p1 : W3.cell? ⟨wr.heap.size, 25, none⟩ = some (.slice R g.rules.length rc) := hbG.cell 25
          have pl : wr.heap.size < W3.heap.size := hbG.lt))
      go_ret
      exact ⟨by rw [hX]; rfl, hu.trans hu13⟩
    have t3 : decide ((30 : Int) ≤ j) = false := by simp; omega
    by_cases hr : 12 < g.rules.length
    · have t4 : decide ((12 : Int) < g.rules.length) = true := by simp; omega
      have hX : X = false := by rw [← HXR.out, if_pos (.inr hr)]
      clear hr
      go_wp2_with (first
       | ((with_reducible refine this_op (.indexAddr 22 (.tmp 5) (.tmp 7)) ?_); refine wpList_index_at rfl 22 (.tmp 5) (.tmp 7) rfl _ a _ _ rfl HA.out j rfl hlt 50 Tryz.underlying22 26 gl_size ?_)
       | ((with_reducible refine this_op (.load 50 (.tmp 10)) ?_); refine wpList_at rfl 50 (.tmp 10) rfl (a.add (j * 26)) rfl _ _ hrow Tryz.underlying50 rfl gl_size ?_)
       | ((with_reducible refine this_op (.store 50 (.tmp 4) (.tmp 11)) ?_); refine wpList_store_row rfl 50 (.tmp 4) (.tmp 11) rfl wr.heap.size _ rfl rfl 50 _ (Blk.new wr _ _) gl_size rfl HON.out ?_
          obtain ⟨W3, hW3⟩ : ∃ W, (wr.alloc (.cells #[.int .i64 0, .string ByteArray.empty, .int .i64 0, .int .i64 0, .int .i64 0, .string ByteArray.empty, .int .i64 0, .int .i64 0, .slice none 0 0, .slice none 0 0, .slice none 0 0, .int .i64 0, .int .i64 0, .string ByteArray.empty, .int .i64 0, .int .i64 0, .slice none 0 0, .slice none 0 0, .slice none 0 0, .string ByteArray.empty, .int .i64 0, .int .i64 0, .int .i64 0, .slice none 0 0, .int .i64 0, .slice none 0 0] 50)).setRow wr.heap.size #[.int .i64 g.kind, .string g.nm, .int .i64 g.vars, a0, a1, a2, a3, a4, a5, a6, a7, b0, b1, b2, b3, b4, b5, b6, b7, .string g.ind, .int .i64 g.params, .int .i64 g.indices, .int .i64 g.fields, .slice C g.ctors.length cc, .int .i64 g.minors, .slice R g.rules.length rc] = W := ⟨_, rfl⟩
          have hu13 : Upd nob wr W3 := by rw [← hW3]; exact ((Upd.refl nob wr).alloc _).setRow (.inr (Nat.le_refl _)) _
          have hbG : Blk W3 wr.heap.size 50 #[.int .i64 g.kind, .string g.nm, .int .i64 g.vars, a0, a1, a2, a3, a4, a5, a6, a7, b0, b1, b2, b3, b4, b5, b6, b7, .string g.ind, .int .i64 g.params, .int .i64 g.indices, .int .i64 g.fields, .slice C g.ctors.length cc, .int .i64 g.minors, .slice R g.rules.length rc] := by rw [← hW3]; exact (Blk.new wr _ _).row _
          rw [hW3]
          clear hW3
          have p1 : W3.cell? ⟨wr.heap.size, 25, none⟩ = some (.slice R g.rules.length rc) := hbG.cell 25
          have pl : wr.heap.size < W3.heap.size := hbG.lt))
      go_ret
      exact ⟨by rw [hX]; rfl, hu.trans hu13⟩
    have t4 : decide ((12 : Int) < g.rules.length) = false := by simp; omega
    have hx2 := HXR.out
    rw [if_neg (by omega)] at hx2
    have HX2 := Lib.hid hx2
    clear hr hx2
    go_wp2_with (first
     | ((with_reducible refine this_op (.indexAddr 22 (.tmp 5) (.tmp 7)) ?_); refine wpList_index_at rfl 22 (.tmp 5) (.tmp 7) rfl _ a _ _ rfl HA.out j rfl hlt 50 Tryz.underlying22 26 gl_size ?_)
     | ((with_reducible refine this_op (.load 50 (.tmp 10)) ?_); refine wpList_at rfl 50 (.tmp 10) rfl (a.add (j * 26)) rfl _ _ hrow Tryz.underlying50 rfl gl_size ?_)
     | ((with_reducible refine this_op (.store 50 (.tmp 4) (.tmp 11)) ?_); refine wpList_store_row rfl 50 (.tmp 4) (.tmp 11) rfl wr.heap.size _ rfl rfl 50 _ (Blk.new wr _ _) gl_size rfl HON.out ?_
        obtain ⟨W3, hW3⟩ : ∃ W, (wr.alloc (.cells #[.int .i64 0, .string ByteArray.empty, .int .i64 0, .int .i64 0, .int .i64 0, .string ByteArray.empty, .int .i64 0, .int .i64 0, .slice none 0 0, .slice none 0 0, .slice none 0 0, .int .i64 0, .int .i64 0, .string ByteArray.empty, .int .i64 0, .int .i64 0, .slice none 0 0, .slice none 0 0, .slice none 0 0, .string ByteArray.empty, .int .i64 0, .int .i64 0, .int .i64 0, .slice none 0 0, .int .i64 0, .slice none 0 0] 50)).setRow wr.heap.size #[.int .i64 g.kind, .string g.nm, .int .i64 g.vars, a0, a1, a2, a3, a4, a5, a6, a7, b0, b1, b2, b3, b4, b5, b6, b7, .string g.ind, .int .i64 g.params, .int .i64 g.indices, .int .i64 g.fields, .slice C g.ctors.length cc, .int .i64 g.minors, .slice R g.rules.length rc] = W := ⟨_, rfl⟩
        have hu13 : Upd nob wr W3 := by rw [← hW3]; exact ((Upd.refl nob wr).alloc _).setRow (.inr (Nat.le_refl _)) _
        have hbG : Blk W3 wr.heap.size 50 #[.int .i64 g.kind, .string g.nm, .int .i64 g.vars, a0, a1, a2, a3, a4, a5, a6, a7, b0, b1, b2, b3, b4, b5, b6, b7, .string g.ind, .int .i64 g.params, .int .i64 g.indices, .int .i64 g.fields, .slice C g.ctors.length cc, .int .i64 g.minors, .slice R g.rules.length rc] := by rw [← hW3]; exact (Blk.new wr _ _).row _
        rw [hW3]
        clear hW3
        have p1 : W3.cell? ⟨wr.heap.size, 25, none⟩ = some (.slice R g.rules.length rc) := hbG.cell 25
        have pl : wr.heap.size < W3.heap.size := hbG.lt))
    go_roundg (gk - 1)
    case measure => omega
    case rel => exact ⟨j + 1, by omega, by go_num, HX2.out, hu.trans hu13, by omega⟩
  have t2 : decide ((j : Int) < n) = false := by simp; omega
  have : j = n := by omega
  subst this
  have hx2 := HX.out
  rw [← HN.out, List.drop_length, wlight] at hx2
  go_wp2_with fail
  go_ret
  exact ⟨by rw [← hx2]; rfl, hu⟩
end Go.Proofs.YtiampoebdmflgaaGreat
/- The reference's small functions of terms and levels. -/
namespace Go.Proofs.YtiampoebdmflgaaGreat
open Go.RowKit
set_option linter.unusedVariables false
set_option maxRecDepth 100000
set_option maxHeartbeats 4000000
set_option linter.unusedSimpArgs false
theorem rkids_any (k : Int) (w : World) : Calls Tryz.prog 53 #[.int .i64 k] w fun e w' => e = .returned (.int .i64 (tar k)) ∧ w' = w := by
 unfold tar
 by_cases h1 : k = 1
 · subst h1
   go_enter Tryz.func53, Tryz.ntmps53
   go_wp2
   go_ret
   exact ⟨rfl, rfl⟩
 have e1 : (k == 1) = false := by simpa using h1
 by_cases h2 : k = 2
 · subst h2
   go_enter Tryz.func53, Tryz.ntmps53
   go_wp2
   go_ret
   exact ⟨rfl, rfl⟩
 have e2 : (k == 2) = false := by simpa using h2
 by_cases h7 : k = 7
 · subst h7
   go_enter Tryz.func53, Tryz.ntmps53
   go_wp2
   go_ret
   exact ⟨rfl, rfl⟩
 have e7 : (k == 7) = false := by simpa using h7
 by_cases h3 : k = 3
 · subst h3
   go_enter Tryz.func53, Tryz.ntmps53
   go_wp2
   go_ret
   exact ⟨rfl, rfl⟩
 have e3 : (k == 3) = false := by simpa using h3
 by_cases h4 : k = 4
 · subst h4
   go_enter Tryz.func53, Tryz.ntmps53
   go_wp2
   go_ret
   exact ⟨rfl, rfl⟩
 have e4 : (k == 4) = false := by simpa using h4
 by_cases h6 : k = 6
 · subst h6
   go_enter Tryz.func53, Tryz.ntmps53
   go_wp2
   go_ret
   exact ⟨rfl, rfl⟩
 have e6 : (k == 6) = false := by simpa using h6
 by_cases h5 : k = 5
 · subst h5
   go_enter Tryz.func53, Tryz.ntmps53
   go_wp2
   go_ret
   exact ⟨rfl, rfl⟩
 have e5 : (k == 5) = false := by simpa using h5
 rw [if_neg h1, if_neg h2, if_neg h7, if_neg h3, if_neg h4, if_neg h6, if_neg h5]
 go_enter Tryz.func53, Tryz.ntmps53
 go_wp2
 go_ret
 exact ⟨rfl, rfl⟩
theorem rarity_any (k : Int) (w : World) : Calls Tryz.prog 116 #[.int .i64 k] w fun e w' => e = .returned (.int .i64 (lar k)) ∧ w' = w := by
 unfold lar
 by_cases h1 : k = 1
 · subst h1
   go_enter Tryz.func116, Tryz.ntmps116
   go_wp2
   go_ret
   exact ⟨rfl, rfl⟩
 have e1 : (k == 1) = false := by simpa using h1
 by_cases h2 : k = 2
 · subst h2
   go_enter Tryz.func116, Tryz.ntmps116
   go_wp2
   go_ret
   exact ⟨rfl, rfl⟩
 have e2 : (k == 2) = false := by simpa using h2
 by_cases h3 : k = 3
 · subst h3
   go_enter Tryz.func116, Tryz.ntmps116
   go_wp2
   go_ret
   exact ⟨rfl, rfl⟩
 have e3 : (k == 3) = false := by simpa using h3
 by_cases h4 : k = 4
 · subst h4
   go_enter Tryz.func116, Tryz.ntmps116
   go_wp2
   go_ret
   exact ⟨rfl, rfl⟩
 have e4 : (k == 4) = false := by simpa using h4
 rw [if_neg h1, if_neg h2, if_neg h3, if_neg h4]
 go_enter Tryz.func116, Tryz.ntmps116
 go_wp2
 go_ret
 exact ⟨rfl, rfl⟩
def rlf (k : Int) (m : Nat) : Bool := decide (tar k < 0) || decide ((m : Int) < tar k)
def Tm.rleaf (t : Tm) : Bool := rlf t.k t.ks.length
theorem rleaf_any (t : Tm) (cs : Array Value) (D : Nat → Prop) (w : World) (ht : TmIs D w t cs) :
    Calls Tryz.prog 60 #[.agg cs] w fun e w' => e = .returned (.bool t.rleaf) ∧ Below w.heap.size w w' := by
 obtain ⟨x, y, z, A, c, A', c', rfl, _, _, _, _, _, _, _, _⟩ := ht.lit
 obtain ⟨R, hR⟩ : ∃ R, t.rleaf = R := ⟨_, rfl⟩
 have hR2 : (decide (tar t.k < 0) || decide ((t.ks.length : Int) < tar t.k)) = R := hR
 rw [hR]
 have HR := Lib.hid hR2; clear hR hR2 ht
 obtain ⟨m, hm⟩ : ∃ m, t.ks.length = m := ⟨_, rfl⟩
 obtain ⟨k, hk⟩ : ∃ k, t.k = k := ⟨_, rfl⟩
 rw [hm, hk] at HR ⊢
 clear hm hk
 obtain ⟨q, hq⟩ : ∃ q, tar k = q := ⟨_, rfl⟩
 have hTA : ∀ wx : World, Calls Tryz.prog 53 #[.int .i64 k] wx fun e w' => e = .returned (.int .i64 q) ∧ w' = wx := fun wx => hq ▸ rkids_any k wx
 rw [hq] at HR
 have TA := Lib.hid hTA; clear hTA hq
 by_cases h1 : q < 0
 · have t1 : decide (q < 0) = true := by simpa using h1
   obtain rfl : true = R := by rw [← HR.out]; simp [h1]
   go_enter Tryz.func60, Tryz.ntmps60
   go_wp2
   go_quiet ((go_at_call 53; exact Calls.quiet_of_same (TA.out _)))
   go_wp2
   go_ret
   exact ⟨rfl, below_drewN ((Below.refl _ _).alloc (Nat.le_refl _) _) _⟩
 have t1 : decide (q < 0) = false := by simpa using h1
 obtain rfl : decide ((m : Int) < q) = R := by rw [← HR.out]; simp [h1]
 go_enter Tryz.func60, Tryz.ntmps60
 go_wp2
 go_quiet ((go_at_call 53; exact Calls.quiet_of_same (TA.out _)))
 go_wp2
 go_ret
 exact ⟨rfl, below_drewN ((Below.refl _ _).alloc (Nat.le_refl _) _) _⟩
theorem rvar_any (n : Int) (hn : InI n) (w : World) : Calls Tryz.prog 33 #[.int .i64 n] w fun e w' => ∃ cs', e = .returned (.agg cs') ∧ TmIs nob w' (.mk 1 n ByteArray.empty lzero' [] []) cs' ∧ Below w.heap.size w w' := by
 have hz := tm_zero
 go_enter Tryz.func33, Tryz.ntmps33
 go_wp2
 refine bodyPost_ret (results_cell_row rfl _ _ w.heap.size 28 #[.int .i64 1, .int .i64 n, .string ByteArray.empty, .int .i64 0, .int .i64 0, .slice none 0 0, .slice none 0 0, .slice none 0 0] (0, 0) _ rfl (Blk.new _ _ _) Tryz.underlying28 rfl tm_size) rfl ?_
 exact ⟨_, rfl, TmIs.short _ _ (by unfold InI; omega) hn, (Below.refl _ _).alloc (Nat.le_refl _) _⟩
theorem rconst_any (nm : ByteArray) (hnm : nm.size ≤ 140737488351232) (ls : List Lv) (A : Option Addr) (c : Nat) (D : Nat → Prop) (w : World) (hD : Within D w) (hlen : ls.length * 40 ≤ 140737488351232 ∧ ls.length ≤ c) (hls : LvsAt D w ls A 0) :
    Calls Tryz.prog 22 #[.string nm, .slice A ls.length c] w fun e w' => ∃ cs', e = .returned (.agg cs') ∧ TmIs D w' (.mk 7 0 nm lzero' ls []) cs' ∧ Below w.heap.size w w' := by
 have hz := tm_zero
 have HLS := Lib.hid (hls.old (hD.old ((Upd.refl nob w).alloc (.cells #[.int .i64 7, .int .i64 0, .string nm, .int .i64 0, .int .i64 0, .slice none 0 0, .slice A ls.length c, .slice none 0 0] 28))) (fun _ h => h))
 clear hls
 go_enter Tryz.func22, Tryz.ntmps22
 go_wp2
 refine bodyPost_ret (results_cell_row rfl _ _ w.heap.size 28 #[.int .i64 7, .int .i64 0, .string nm, .int .i64 0, .int .i64 0, .slice none 0 0, .slice A ls.length c, .slice none 0 0] (0, 0) _ rfl (Blk.new _ _ _) Tryz.underlying28 rfl tm_size) rfl ?_
 refine ⟨_, rfl, ?_, (Below.refl _ _).alloc (Nat.le_refl _) _⟩
 simp only [TmIs]
 exact ⟨_, _, _, A, c, none, 0, rfl, by unfold InI; omega, by unfold InI; omega, hnm, lzero_is _ _, hlen, HLS.out, ⟨by simp, Nat.zero_le _⟩, by simp only [TmsAt]⟩
end Go.Proofs.YtiampoebdmflgaaGreat
/- The reference's Bind. -/
namespace Go.Proofs.YtiampoebdmflgaaGreat
open Go.RowKit
set_option linter.unusedVariables false
set_option maxRecDepth 100000
set_option maxHeartbeats 4000000
set_option linter.unusedSimpArgs false
theorem two_rows (c1 c2 : Array Value) (w : World) (g : Nat) (t : TypeId) (h : Blk w g t (c1 ++ c2)) (h1 : c1.size = 8) : rowAt w ((⟨g, 0, none⟩ : Addr).add (0 * 8)) c1 ∧ rowAt w ((⟨g, 0, none⟩ : Addr).add (1 * 8)) c2 := by
 refine ⟨sub_row h.rowAt _ _ fun j v hv => ?_, sub_row h.rowAt _ _ fun j v hv => ?_⟩
 · have hj : j < c1.size := (Array.getElem?_eq_some_iff.1 hv).1
   rw [Nat.zero_mul, Nat.zero_add, Array.getElem?_append_left hj]; exact hv
 rw [Array.getElem?_append_right (by omega), h1, Nat.one_mul, Nat.add_sub_cancel_left]; exact hv
theorem rbind_any (k : Int) (hk : InI k) (x y : Tm) (ca cb : Array Value) (D : Nat → Prop) (w : World) (hD : Within D w) (ha : TmIs D w x ca) (hb : TmIs D w y cb) :
    Calls Tryz.prog 20 #[.int .i64 k, .agg ca, .agg cb] w fun e w' => ∃ cs', e = .returned (.agg cs') ∧ TmIs (grow D w w') w' (.mk k 0 ByteArray.empty lzero' [] [x, y]) cs' ∧ Below w.heap.size w w' := by
 have hz := tm_zero
 have HA := Lib.hid ha
 have HB := Lib.hid hb
 obtain ⟨x1, y1, z1, A1, c1, A2, c2, hca, _, _, _, _, _, _, _, _⟩ := ha.lit
 obtain ⟨x2, y2, z2, B1, d1, B2, d2, hcb, _, _, _, _, _, _, _, _⟩ := hb.lit
 clear ha hb
 subst hca; subst hcb
 have hb1 := Blk.new (w.alloc (.cells #[.int .i64 x.k, .int .i64 x.n, .string x.nm, x1, y1, z1, .slice A1 x.ls.length c1, .slice A2 x.ks.length c2] 28) |>.alloc (.cells #[.int .i64 y.k, .int .i64 y.n, .string y.nm, x2, y2, z2, .slice B1 y.ls.length d1, .slice B2 y.ks.length d2] 28))
  28 #[.int .i64 k, .int .i64 0, .string ByteArray.empty, .int .i64 0, .int .i64 0, .slice none 0 0, .slice none 0 0, .slice (some ⟨w.heap.size + 1 + 1 + 1, 0, none⟩) 2 2]
 have hb2 := hb1.alloc (.cells #[.int .i64 x.k, .int .i64 x.n, .string x.nm, x1, y1, z1, .slice A1 x.ls.length c1, .slice A2 x.ks.length c2, .int .i64 y.k, .int .i64 y.n, .string y.nm, x2, y2, z2, .slice B1 y.ls.length d1, .slice B2 y.ks.length d2] 28)
 have hb3 := Blk.new (((w.alloc (.cells #[.int .i64 x.k, .int .i64 x.n, .string x.nm, x1, y1, z1, .slice A1 x.ls.length c1, .slice A2 x.ks.length c2] 28)).alloc (.cells #[.int .i64 y.k, .int .i64 y.n, .string y.nm, x2, y2, z2, .slice B1 y.ls.length d1, .slice B2 y.ks.length d2] 28)).alloc
  (.cells #[.int .i64 k, .int .i64 0, .string ByteArray.empty, .int .i64 0, .int .i64 0, .slice none 0 0, .slice none 0 0, .slice (some ⟨w.heap.size + 1 + 1 + 1, 0, none⟩) 2 2] 28)) 28
  (#[.int .i64 x.k, .int .i64 x.n, .string x.nm, x1, y1, z1, .slice A1 x.ls.length c1, .slice A2 x.ks.length c2] ++ #[.int .i64 y.k, .int .i64 y.n, .string y.nm, x2, y2, z2, .slice B1 y.ls.length d1, .slice B2 y.ks.length d2])
 simp only [World.size_alloc] at hb1 hb2 hb3
 obtain ⟨r1, r2⟩ := two_rows _ _ _ _ _ hb3 rfl
 have HR1 := Lib.hid r1
 have HR2 := Lib.hid r2
 have HB2 := Lib.hid hb2
 clear hb1 hb2 hb3 r1 r2
 go_enter Tryz.func20, Tryz.ntmps20
 go_wp2_with fail
 have hu : Upd nob w ((((w.alloc (.cells #[.int .i64 x.k, .int .i64 x.n, .string x.nm, x1, y1, z1, .slice A1 x.ls.length c1, .slice A2 x.ks.length c2] 28)).alloc (.cells #[.int .i64 y.k, .int .i64 y.n, .string y.nm, x2, y2, z2, .slice B1 y.ls.length d1, .slice B2 y.ks.length d2] 28)).alloc
  (.cells #[.int .i64 k, .int .i64 0, .string ByteArray.empty, .int .i64 0, .int .i64 0, .slice none 0 0, .slice none 0 0, .slice (some ⟨w.heap.size + 1 + 1 + 1, 0, none⟩) 2 2] 28)).alloc
  (.cells #[.int .i64 x.k, .int .i64 x.n, .string x.nm, x1, y1, z1, .slice A1 x.ls.length c1, .slice A2 x.ks.length c2, .int .i64 y.k, .int .i64 y.n, .string y.nm, x2, y2, z2, .slice B1 y.ls.length d1, .slice B2 y.ks.length d2] 28)) :=
  ((((Upd.refl nob w).alloc _).alloc _).alloc _).alloc _
 refine bodyPost_ret (results_cell_row rfl _ _ (w.heap.size + 1 + 1) 28 _ (0, 0) _ rfl HB2.out Tryz.underlying28 rfl tm_size) rfl ?_
 have hg : grow D w ((((w.alloc (.cells #[.int .i64 x.k, .int .i64 x.n, .string x.nm, x1, y1, z1, .slice A1 x.ls.length c1, .slice A2 x.ks.length c2] 28)).alloc (.cells #[.int .i64 y.k, .int .i64 y.n, .string y.nm, x2, y2, z2, .slice B1 y.ls.length d1, .slice B2 y.ks.length d2] 28)).alloc
  (.cells #[.int .i64 k, .int .i64 0, .string ByteArray.empty, .int .i64 0, .int .i64 0, .slice none 0 0, .slice none 0 0, .slice (some ⟨w.heap.size + 1 + 1 + 1, 0, none⟩) 2 2] 28)).alloc
  (.cells #[.int .i64 x.k, .int .i64 x.n, .string x.nm, x1, y1, z1, .slice A1 x.ls.length c1, .slice A2 x.ks.length c2, .int .i64 y.k, .int .i64 y.n, .string y.nm, x2, y2, z2, .slice B1 y.ls.length d1, .slice B2 y.ks.length d2] 28)) (w.heap.size + 1 + 1 + 1) :=
  .inr ⟨by omega, by simp only [World.size_alloc]; omega⟩
 refine ⟨_, rfl, ?_, hu.below⟩
 simp only [TmIs]
 refine ⟨_, _, _, none, 0, some ⟨w.heap.size + 1 + 1 + 1, 0, none⟩, 2, rfl, hk, by unfold InI; omega, by simp, lzero_is _ _, ⟨by simp, Nat.zero_le _⟩, by simp only [LvsAt], ⟨by simp, by simp⟩, ?_⟩
 simp only [TmsAt]
 exact ⟨⟨_, _, rfl, hg, HR1.out, HA.out.old (hD.old hu) (fun _ h => .inl h)⟩, ⟨_, _, rfl, hg, HR2.out, HB.out.old (hD.old hu) (fun _ h => .inl h)⟩, trivial⟩
end Go.Proofs.YtiampoebdmflgaaGreat
/- The reference's App. -/
namespace Go.Proofs.YtiampoebdmflgaaGreat
open Go.RowKit
set_option linter.unusedVariables false
set_option maxRecDepth 100000
set_option maxHeartbeats 4000000
set_option linter.unusedSimpArgs false
theorem rapp_any (x y : Tm) (ca cb : Array Value) (D : Nat → Prop) (w : World) (hD : Within D w) (ha : TmIs D w x ca) (hb : TmIs D w y cb) :
    Calls Tryz.prog 19 #[.agg ca, .agg cb] w fun e w' => ∃ cs', e = .returned (.agg cs') ∧ TmIs (grow D w w') w' (.mk 6 0 ByteArray.empty lzero' [] [x, y]) cs' ∧ Below w.heap.size w w' := by
 have hz := tm_zero
 have HA := Lib.hid ha
 have HB := Lib.hid hb
 obtain ⟨x1, y1, z1, A1, c1, A2, c2, hca, _, _, _, _, _, _, _, _⟩ := ha.lit
 obtain ⟨x2, y2, z2, B1, d1, B2, d2, hcb, _, _, _, _, _, _, _, _⟩ := hb.lit
 clear ha hb
 subst hca; subst hcb
 have hb1 := Blk.new (w.alloc (.cells #[.int .i64 x.k, .int .i64 x.n, .string x.nm, x1, y1, z1, .slice A1 x.ls.length c1, .slice A2 x.ks.length c2] 28) |>.alloc (.cells #[.int .i64 y.k, .int .i64 y.n, .string y.nm, x2, y2, z2, .slice B1 y.ls.length d1, .slice B2 y.ks.length d2] 28))
  28 #[.int .i64 6, .int .i64 0, .string ByteArray.empty, .int .i64 0, .int .i64 0, .slice none 0 0, .slice none 0 0, .slice (some ⟨w.heap.size + 1 + 1 + 1, 0, none⟩) 2 2]
 have hb2 := hb1.alloc (.cells #[.int .i64 x.k, .int .i64 x.n, .string x.nm, x1, y1, z1, .slice A1 x.ls.length c1, .slice A2 x.ks.length c2, .int .i64 y.k, .int .i64 y.n, .string y.nm, x2, y2, z2, .slice B1 y.ls.length d1, .slice B2 y.ks.length d2] 28)
 have hb3 := Blk.new (((w.alloc (.cells #[.int .i64 x.k, .int .i64 x.n, .string x.nm, x1, y1, z1, .slice A1 x.ls.length c1, .slice A2 x.ks.length c2] 28)).alloc (.cells #[.int .i64 y.k, .int .i64 y.n, .string y.nm, x2, y2, z2, .slice B1 y.ls.length d1, .slice B2 y.ks.length d2] 28)).alloc
  (.cells #[.int .i64 6, .int .i64 0, .string ByteArray.empty, .int .i64 0, .int .i64 0, .slice none 0 0, .slice none 0 0, .slice (some ⟨w.heap.size + 1 + 1 + 1, 0, none⟩) 2 2] 28)) 28
  (#[.int .i64 x.k, .int .i64 x.n, .string x.nm, x1, y1, z1, .slice A1 x.ls.length c1, .slice A2 x.ks.length c2] ++ #[.int .i64 y.k, .int .i64 y.n, .string y.nm, x2, y2, z2, .slice B1 y.ls.length d1, .slice B2 y.ks.length d2])
 simp only [World.size_alloc] at hb1 hb2 hb3
 obtain ⟨r1, r2⟩ := two_rows _ _ _ _ _ hb3 rfl
 have HR1 := Lib.hid r1
 have HR2 := Lib.hid r2
 have HB2 := Lib.hid hb2
 clear hb1 hb2 hb3 r1 r2
 go_enter Tryz.func19, Tryz.ntmps19
 go_wp2_with fail
 have hu : Upd nob w ((((w.alloc (.cells #[.int .i64 x.k, .int .i64 x.n, .string x.nm, x1, y1, z1, .slice A1 x.ls.length c1, .slice A2 x.ks.length c2] 28)).alloc (.cells #[.int .i64 y.k, .int .i64 y.n, .string y.nm, x2, y2, z2, .slice B1 y.ls.length d1, .slice B2 y.ks.length d2] 28)).alloc
  (.cells #[.int .i64 6, .int .i64 0, .string ByteArray.empty, .int .i64 0, .int .i64 0, .slice none 0 0, .slice none 0 0, .slice (some ⟨w.heap.size + 1 + 1 + 1, 0, none⟩) 2 2] 28)).alloc
  (.cells #[.int .i64 x.k, .int .i64 x.n, .string x.nm, x1, y1, z1, .slice A1 x.ls.length c1, .slice A2 x.ks.length c2, .int .i64 y.k, .int .i64 y.n, .string y.nm, x2, y2, z2, .slice B1 y.ls.length d1, .slice B2 y.ks.length d2] 28)) :=
  ((((Upd.refl nob w).alloc _).alloc _).alloc _).alloc _
 refine bodyPost_ret (results_cell_row rfl _ _ (w.heap.size + 1 + 1) 28 _ (0, 0) _ rfl HB2.out Tryz.underlying28 rfl tm_size) rfl ?_
 have hg : grow D w ((((w.alloc (.cells #[.int .i64 x.k, .int .i64 x.n, .string x.nm, x1, y1, z1, .slice A1 x.ls.length c1, .slice A2 x.ks.length c2] 28)).alloc (.cells #[.int .i64 y.k, .int .i64 y.n, .string y.nm, x2, y2, z2, .slice B1 y.ls.length d1, .slice B2 y.ks.length d2] 28)).alloc
  (.cells #[.int .i64 6, .int .i64 0, .string ByteArray.empty, .int .i64 0, .int .i64 0, .slice none 0 0, .slice none 0 0, .slice (some ⟨w.heap.size + 1 + 1 + 1, 0, none⟩) 2 2] 28)).alloc
  (.cells #[.int .i64 x.k, .int .i64 x.n, .string x.nm, x1, y1, z1, .slice A1 x.ls.length c1, .slice A2 x.ks.length c2, .int .i64 y.k, .int .i64 y.n, .string y.nm, x2, y2, z2, .slice B1 y.ls.length d1, .slice B2 y.ks.length d2] 28)) (w.heap.size + 1 + 1 + 1) :=
  .inr ⟨by omega, by simp only [World.size_alloc]; omega⟩
 refine ⟨_, rfl, ?_, hu.below⟩
 simp only [TmIs]
 refine ⟨_, _, _, none, 0, some ⟨w.heap.size + 1 + 1 + 1, 0, none⟩, 2, rfl, by unfold InI; omega, by unfold InI; omega, by simp, lzero_is _ _, ⟨by simp, Nat.zero_le _⟩, by simp only [LvsAt], ⟨by simp, by simp⟩, ?_⟩
 simp only [TmsAt]
 exact ⟨⟨_, _, rfl, hg, HR1.out, HA.out.old (hD.old hu) (fun _ h => .inl h)⟩, ⟨_, _, rfl, hg, HR2.out, HB.out.old (hD.old hu) (fun _ h => .inl h)⟩, trivial⟩
end Go.Proofs.YtiampoebdmflgaaGreat
/- What whnf makes of the law's small term; whnf's model answers once. -/
namespace Go.Proofs.YtiampoebdmflgaaGreat
open Go.RowKit
set_option linter.unusedVariables false
set_option maxRecDepth 100000
set_option maxHeartbeats 4000000
theorem wwhnf_one {G : List Glb} {n m fuel : Nat} {t : Tm} {r s : WRes} (h1 : wwhnf G n fuel t = some r) (h2 : wwhnf G m fuel t = some s) : r = s := by
 have a := wwhnf_mono (Nat.le_max_left n m) h1
 have b := wwhnf_mono (Nat.le_max_right n m) h2
 rw [a] at b
 exact Option.some.inj b
def cN : ByteArray := { data := #[99] }
def natN3 : ByteArray := { data := #[110, 97, 116] }
def awkN : Tm := .mk 7 0 natN3 lzero' [] []
def awkC : Tm := .mk 7 0 cN lzero' [] []
def awkV : Tm := .mk 1 0 ByteArray.empty lzero' [] []
def awkL : Tm := .mk 4 0 ByteArray.empty lzero' [] [awkN, awkV]
def awkT : Tm := .mk 6 0 ByteArray.empty lzero' [] [awkL, awkC]
theorem awk10 : wwhnf [] 5 1 awkT = some (awkC, 0, 0) := by kernel_rfl
theorem awk10_one {n : Nat} {u : Tm} {err : Int} {left : Nat} (h : wwhnf [] n (wfuel 1).toNat awkT = some (u, err, left)) : u = awkC ∧ err = 0 ∧ left = 0 := by
 have := wwhnf_one h awk10
 simp only [Prod.mk.injEq] at this
 exact this
end Go.Proofs.YtiampoebdmflgaaGreat
/- The law's awake of chapter 10. -/
namespace Go.Proofs.YtiampoebdmflgaaGreat
open Go.RowKit
set_option linter.unusedVariables false
set_option maxRecDepth 100000
set_option maxHeartbeats 2000000
set_option linter.unusedSimpArgs false
def puts (a : Act) : List (Tmp × Value) → Act
 | [] => a
 | (d, v) :: l => puts (a.put (some d) v) l
theorem wp_region_post {P : Program} {c : Code} {Q : Exit → Act → World → Prop} {a : Act} {w : World} (R : Act → Act → World → Prop) (h : c.wp P (fun e a' w' => e = .normal ∧ R a a' w') a w) (k : ∀ a' w', R a a' w' → Q .normal a' w') : c.wp P Q a w :=
 Code.wp_mono (fun e a' w' h => by obtain ⟨rfl, h⟩ := h; exact k a' w' h) h
def NB (b : Nat) (w : World) : Nat → Prop := fun q => q < w.heap.size ∧ q ≠ b
theorem awake10_any (w : World) : Calls Tryz.prog 10 #[] w fun e w' => e = .returned (.bool true) ∧ Below w.heap.size w w' := by
 have hz := tm_zero
 go_enter Tryz.func10, Tryz.ntmps10
 go_wp2_with fail
 refine (rconst_any natN3 (by decide) [] none 0 nob _ (fun _ f => f.elim) (by simp) (by simp only [LvsAt])).mono ?_
 rintro e w1 ⟨c1, rfl, h1, hb1⟩
 have hu1 : Upd nob _ w1 := Upd.of_below hb1
 have H1 := Lib.hid h1
 clear h1 hb1
 go_wp2_with fail
 refine (rvar_any 0 (by unfold InI; omega) w1).mono ?_
 rintro e w2 ⟨c2, rfl, h2, hb2⟩
 have hu2 : Upd nob w1 w2 := Upd.of_below hb2
 have h12 : TmIs nob w2 awkN c1 := H1.out.old (Old.of_upd hu2 fun _ f => f.elim) (fun _ f => f.elim)
 have H12 := Lib.hid h12
 have H2 := Lib.hid h2
 clear h2 hb2 h12 H1
 go_wp2_with fail
 refine (rbind_any 4 (by unfold InI; omega) awkN awkV c1 c2 nob w2 (fun _ f => f.elim) H12.out H2.out).mono ?_
 rintro e w3 ⟨c3, rfl, h3, hb3⟩
 have hu3 : Upd nob w2 w3 := Upd.of_below hb3
 have H3 := Lib.hid h3
 clear h3 hb3 H12 H2
 go_wp2_with fail
 refine (rconst_any cN (by decide) [] none 0 nob _ (fun _ f => f.elim) (by simp) (by simp only [LvsAt])).mono ?_
 rintro e w4 ⟨c4, rfl, h4, hb4⟩
 have hu4 : Upd nob w3 w4 := Upd.of_below hb4
 have hin3 : Within (grow nob w2 w3) w3 := fun q hq => hq.elim (fun f => f.elim) fun h => h.2
 have h34 : TmIs (grow nob w2 w3) w4 awkL c3 := H3.out.old (hin3.old hu4) (fun _ h => h)
 have h44 : TmIs (grow nob w2 w3) w4 awkC c4 := h4.old (Old.refl _ _) (fun _ f => f.elim)
 have H34 := Lib.hid h34
 have H44 := Lib.hid h44
 have hin4 : Within (grow nob w2 w3) w4 := hin3.up hu4
 clear h34 h44 h4 hb4 H3
 go_wp2_with fail
 refine (rapp_any awkL awkC c3 c4 (grow nob w2 w3) w4 hin4 H34.out H44.out).mono ?_
 rintro e w5 ⟨c5, rfl, h5, hb5⟩
 have hu5 : Upd nob w4 w5 := Upd.of_below hb5
 have hu05 : Upd nob w w5 := ((((hu1).trans hu2).trans hu3).trans hu4).trans hu5
 obtain ⟨D, hD5, h5⟩ : ∃ D, Within D w5 ∧ TmIs D w5 awkT c5 := ⟨_, fun q hq => hq.elim (fun h => Nat.lt_of_lt_of_le (hin4 _ h) hu5.size) fun h => h.2, h5⟩
 obtain ⟨yp, yq, yB, ym, yd, yE, yx, yE', yx', rfl⟩ := h5.lit8
 have hz1 := h5.oneCell
 have HO := Lib.hid hz1.2
 have H5 := Lib.hid h5
 clear h5 hb5 H34 H44 hz1 hin3 hin4
 go_wp2_with (first
  | ((with_reducible refine this_op (.store 28 (.tmp 1) (.tmp 9)) ?_); refine wpList_store_row rfl 28 (.tmp 1) (.tmp 9) rfl w5.heap.size _ rfl rfl 28 _ (Blk.new w5 _ _) tm_size rfl HO.out ?_))
 obtain ⟨W6, hW6⟩ : ∃ W6, (w5.alloc (.cells #[.int .i64 0, .int .i64 0, .string ByteArray.empty, .int .i64 0, .int .i64 0, .slice none 0 0, .slice none 0 0, .slice none 0 0] 28)).setRow w5.heap.size #[.int .i64 awkT.k, .int .i64 awkT.n, .string awkT.nm, .int .i64 yp, .int .i64 yq, .slice yB ym yd, .slice yE awkT.ls.length yx, .slice yE' awkT.ks.length yx'] = W6 := ⟨_, rfl⟩
 have hu6 : Upd nob w5 W6 := by rw [← hW6]; exact ((Upd.refl nob w5).alloc _).setRow (.inr (Nat.le_refl _)) _
 have hb6 : Blk W6 w5.heap.size 28 #[.int .i64 awkT.k, .int .i64 awkT.n, .string awkT.nm, .int .i64 yp, .int .i64 yq, .slice yB ym yd, .slice yE awkT.ls.length yx, .slice yE' awkT.ks.length yx'] := by rw [← hW6]; exact (Blk.new w5 _ _).row _
 rw [hW6]
 clear hW6
 have hu06 : Upd nob w W6 := hu05.trans hu6
 have r6 := hb6.rowAt
 have hlt6 := hb6.lt
 have H6 := Lib.hid (H5.out.old (hD5.old hu6) (fun _ h => h))
 have hD6 : Within D W6 := hD5.up hu6
 clear H5 HO hD5
 refine wp_region_post (R := fun a0 a' w' => ∃ (eb b : Nat) (p q : Int) (B : Option Addr) (m d : Nat) (E : Option Addr) (x : Nat) (E' : Option Addr) (x' : Nat), a' = puts a0 [(11, .pointer (some ⟨eb, 0, none⟩)), (12, .agg #[.int .i64 awkT.k, .int .i64 awkT.n, .string awkT.nm, .int .i64 yp, .int .i64 yq, .slice yB ym yd, .slice yE awkT.ls.length yx, .slice yE' awkT.ks.length yx']), (13, .tuple #[.agg #[.int .i64 awkC.k, .int .i64 awkC.n, .string awkC.nm, .int .i64 p, .int .i64 q, .slice B m d, .slice E awkC.ls.length x, .slice E' awkC.ks.length x'], .int .i64 0, .int .i64 0]), (10, .tuple #[.agg #[.int .i64 awkC.k, .int .i64 awkC.n, .string awkC.nm, .int .i64 p, .int .i64 q, .slice B m d, .slice E awkC.ls.length x, .slice E' awkC.ks.length x'], .int .i64 0, .int .i64 0]), (14, .agg #[.int .i64 awkC.k, .int .i64 awkC.n, .string awkC.nm, .int .i64 p, .int .i64 q, .slice B m d, .slice E awkC.ls.length x, .slice E' awkC.ks.length x']), (15, .int .i64 0), (16, .int .i64 0), (2, .pointer (some ⟨b, 0, none⟩)), (3, .int .i64 0), (4, .int .i64 0)] ∧ Blk w' b 28 #[.int .i64 awkC.k, .int .i64 awkC.n, .string awkC.nm, .int .i64 p, .int .i64 q, .slice B m d, .slice E awkC.ls.length x, .slice E' awkC.ks.length x'] ∧ Upd nob W6 w') ?_ ?_
 rotate_left
 rotate_left
 refine wp_region_P (by kernel_rfl) ?_
 refine wpAny_of_E (fun X : World => ∀ p : Addr, p.block < W6.heap.size → X.cell? p = W6.cell? p) 10 _ _ _ _ ?_
 have hS : ∀ p : Addr, p.block < W6.heap.size → W6.drew.cell? p = W6.cell? p := fun _ _ => rfl
 refine eT 1 (.agg #[.int .i64 awkT.k, .int .i64 awkT.n, .string awkT.nm, .int .i64 yp, .int .i64 yq, .slice yB ym yd, .slice yE awkT.ls.length yx, .slice yE' awkT.ks.length yx']) [] rfl (by kernel_rfl) (by rfl) ?_ hS ?_
 · intro wx hx
   exact run_load_at 28 (.tmp 1) rfl ⟨w5.heap.size, 0, none⟩ rfl #[.int .i64 awkT.k, .int .i64 awkT.n, .string awkT.nm, .int .i64 yp, .int .i64 yq, .slice yB ym yd, .slice yE awkT.ls.length yx, .slice yE' awkT.ks.length yx'] _ (row_on r6 hlt6 hx) Tryz.underlying28 rfl tm_size
 try simp only [tl]
 refine wpAnyE_br (i := 0) (j := 7) (by kernel_rfl) (by kernel_rfl) (by kernel_rfl) rfl rfl (by rfl) (by rfl) (fun K hK => ?_) (fun K hK => ?_)
 · go_simp
   refine (new_nil W6.drew).mono ?_
   rintro e w7 ⟨eb, rfl, hE0, hn7⟩
   have huw7 : Upd nob W6.drew w7 := hn7
   have hUw7 : Upd nob W6 w7 := ((Upd.refl nob W6).drew).trans huw7
   have hsw7 : W6.heap.size ≤ w7.heap.size := huw7.size
   refine hK _ _ (cells_of_upd hUw7) ?_
   clear hK K; try simp only [tl]
   have hS : ∀ p : Addr, p.block < W6.heap.size → w7.cell? p = W6.cell? p := cells_of_upd hUw7
   have HE0 := Lib.hid hE0
   clear hE0
   refine wpAnyE_br (i := 2) (j := 7) (by kernel_rfl) (by kernel_rfl) (by kernel_rfl) rfl rfl (by rfl) (by rfl) (fun K hK => ?_) (fun K hK => ?_)
   · go_simp
     refine (whnf_top [] _ 1 awkT (There w7) w7 _ (fun _ h => h) (.inr ⟨eb, rfl, HE0.out.old (Old.refl _ _) (fun q hq => by have h1 : W6.heap.size ≤ q := hq.1; have h2 := hq.2; exact h2)⟩) (H6.out.old (hD6.old hUw7) (fun q hq => by have h1 := hD6 q hq; exact (by omega : q < w7.heap.size)))).mono ?_
     rintro e w8 ⟨n8, u, err, left, ucs, hwh, rfl, ht8, hn8, hle8⟩
     have huw8 : Upd nob w7 w8 := hn8
     have hUw8 : Upd nob W6 w8 := (hUw7).trans huw8
     have hsw8 : w7.heap.size ≤ w8.heap.size := huw8.size
     refine hK _ _ (cells_of_upd hUw8) ?_
     clear hK K; try simp only [tl]
     have hS : ∀ p : Addr, p.block < W6.heap.size → w8.cell? p = W6.cell? p := cells_of_upd hUw8
     obtain ⟨rfl, rfl, rfl⟩ := awk10_one hwh
     obtain ⟨p, q, B, m, d, E, x, E', x', rfl⟩ := ht8.lit8
     have HO8 := Lib.hid ht8.oneCell.2
     clear ht8 hwh hle8
     refine eT 3 ?_ [] rfl (by kernel_rfl) (by rfl) ?_ hS ?_
     rotate_left; · intro wx hx; clear hx; go_simp; with_reducible rfl
     try simp only [tl]
     refine eT 4 ?_ [] rfl (by kernel_rfl) (by rfl) ?_ hS ?_
     rotate_left; · intro wx hx; clear hx; go_simp; with_reducible rfl
     try simp only [tl]
     refine eT 5 ?_ [] rfl (by kernel_rfl) (by rfl) ?_ hS ?_
     rotate_left; · intro wx hx; clear hx; go_simp; with_reducible rfl
     try simp only [tl]
     refine eT 6 ?_ [] rfl (by kernel_rfl) (by rfl) ?_ hS ?_
     rotate_left; · intro wx hx; clear hx; go_simp; with_reducible rfl
     try simp only [tl]
     refine wpAnyE_one (i := 7) (by kernel_rfl) (by kernel_rfl) rfl (by rfl) fun K hK => ?_
     go_simp
     have huwa : Upd nob w8 (w8.alloc (.cells #[.int .i64 0, .int .i64 0, .string ByteArray.empty, .int .i64 0, .int .i64 0, .slice none 0 0, .slice none 0 0, .slice none 0 0] 28)) := (Upd.refl nob w8).alloc _
     obtain ⟨wa, hwwa⟩ : ∃ wa, w8.alloc (.cells #[.int .i64 0, .int .i64 0, .string ByteArray.empty, .int .i64 0, .int .i64 0, .slice none 0 0, .slice none 0 0, .slice none 0 0] 28) = wa := ⟨_, rfl⟩
     have hAwa : Blk wa w8.heap.size 28 #[.int .i64 0, .int .i64 0, .string ByteArray.empty, .int .i64 0, .int .i64 0, .slice none 0 0, .slice none 0 0, .slice none 0 0] := by rw [← hwwa]; exact Blk.new w8 _ _
     rw [hwwa] at huwa ⊢
     clear hwwa
     have hUwa : Upd nob W6 wa := (hUw8).trans huwa
     have hswa : w8.heap.size + 1 ≤ wa.heap.size := hAwa.lt
     have hgwa : W6.heap.size ≤ w8.heap.size := (hUw8).size
     refine hK _ _ (cells_of_upd hUwa) ?_
     clear hK K; try simp only [tl]
     have hS : ∀ p : Addr, p.block < W6.heap.size → wa.cell? p = W6.cell? p := cells_of_upd hUwa
     refine wpAnyE_one (i := 8) (by kernel_rfl) (by kernel_rfl) rfl (by rfl) fun K hK => ?_
     refine owp_store_blk 28 (.tmp 2) (.tmp 14) rfl rfl (w8.heap.size) _ rfl rfl 28 _ hAwa tm_size rfl HO8.out ?_
     obtain ⟨gb, hgb⟩ : ∃ gb, w8.heap.size = gb := ⟨_, rfl⟩
     have hgW : W6.heap.size ≤ gb := by rw [← hgb]; exact (by omega)
     have hB := (hAwa).row #[.int .i64 awkC.k, .int .i64 awkC.n, .string awkC.nm, .int .i64 p, .int .i64 q, .slice B m d, .slice E awkC.ls.length x, .slice E' awkC.ks.length x']
     obtain ⟨wS, hwwS⟩ : ∃ WF, wa.setRow (w8.heap.size) #[.int .i64 awkC.k, .int .i64 awkC.n, .string awkC.nm, .int .i64 p, .int .i64 q, .slice B m d, .slice E awkC.ls.length x, .slice E' awkC.ks.length x'] = WF := ⟨_, rfl⟩
     have huwS : Upd (fun q => q = gb) wa wS := by rw [← hwwS, ← hgb]; exact (Upd.refl (fun q => q = w8.heap.size) wa).setRow (.inl rfl) _
     rw [hwwS] at hB ⊢
     clear hwwS
     have hUwS : Upd nob W6 wS := (hUwa).trans' huwS (fun q hq h => by have h : q = gb := h; omega)
     refine hK _ _ (cells_of_upd hUwS) ?_
     clear hK K; try simp only [tl]
     have hS : ∀ p : Addr, p.block < W6.heap.size → wS.cell? p = W6.cell? p := cells_of_upd hUwS
     refine wpAnyE_one (i := 9) (by kernel_rfl) (by kernel_rfl) rfl (by rfl) fun K hK => ?_
     go_simp
     refine hK _ _ hS ?_
     clear hK K; try simp only [tl]
     refine wpAnyE_z (by kernel_rfl) rfl (by rfl) fun K hK => ?_
     go_simp
     refine hK _ _ ?_
     clear hK K; try simp only [tl]
     refine wpAny_done (by kernel_rfl) ?_ _
     refine NoPanic.normal ?_
     exact ⟨rfl, eb, gb, p, q, B, m, d, E, x, E', x', by rw [← hgb]; simp only [puts]; try simp only [tl], by rw [← hgb]; exact hB, hUwS⟩
   go_simp
   have huwa : Upd nob w7 (w7.alloc (.cells #[.int .i64 0, .int .i64 0, .string ByteArray.empty, .int .i64 0, .int .i64 0, .slice none 0 0, .slice none 0 0, .slice none 0 0] 28)) := (Upd.refl nob w7).alloc _
   obtain ⟨wa, hwwa⟩ : ∃ wa, w7.alloc (.cells #[.int .i64 0, .int .i64 0, .string ByteArray.empty, .int .i64 0, .int .i64 0, .slice none 0 0, .slice none 0 0, .slice none 0 0] 28) = wa := ⟨_, rfl⟩
   have hAwa : Blk wa w7.heap.size 28 #[.int .i64 0, .int .i64 0, .string ByteArray.empty, .int .i64 0, .int .i64 0, .slice none 0 0, .slice none 0 0, .slice none 0 0] := by rw [← hwwa]; exact Blk.new w7 _ _
   rw [hwwa] at huwa ⊢
   clear hwwa
   have hUwa : Upd nob W6 wa := (hUw7).trans huwa
   have hswa : w7.heap.size + 1 ≤ wa.heap.size := hAwa.lt
   have hgwa : W6.heap.size ≤ w7.heap.size := (hUw7).size
   refine hK _ _ (cells_of_upd hUwa) ?_
   clear hK K; try simp only [tl]
   have hS : ∀ p : Addr, p.block < W6.heap.size → wa.cell? p = W6.cell? p := cells_of_upd hUwa
   refine wpAnyE_one (i := 2) (by kernel_rfl) (by kernel_rfl) rfl (by rfl) fun K hK => ?_
   go_simp
   refine (whnf_top [] _ 1 awkT (NB (w7.heap.size) wa) wa _ (fun _ h => h.1) (.inr ⟨eb, rfl, HE0.out.old (Old.of_upd (huwa) (fun q hq => ⟨fun f => f, hq.2⟩)) (fun q hq => by have h1 : W6.heap.size ≤ q := hq.1; have h2 := hq.2; exact ⟨by omega, by omega⟩)⟩) (H6.out.old (hD6.old hUwa) (fun q hq => by have h1 := hD6 q hq; exact ⟨by omega, by omega⟩))).mono ?_
   rintro e w8 ⟨n8, u, err, left, ucs, hwh, rfl, ht8, hn8, hle8⟩
   have huw8 : Upd nob wa w8 := hn8
   have hUw8 : Upd nob W6 w8 := (hUwa).trans huw8
   have hsw8 : wa.heap.size ≤ w8.heap.size := huw8.size
   have hAw8 := (hAwa).upd huw8 (fun f => f)
   refine hK _ _ (cells_of_upd hUw8) ?_
   clear hK K; try simp only [tl]
   have hS : ∀ p : Addr, p.block < W6.heap.size → w8.cell? p = W6.cell? p := cells_of_upd hUw8
   obtain ⟨rfl, rfl, rfl⟩ := awk10_one hwh
   obtain ⟨p, q, B, m, d, E, x, E', x', rfl⟩ := ht8.lit8
   have HO8 := Lib.hid ht8.oneCell.2
   clear ht8 hwh hle8
   refine eT 3 ?_ [] rfl (by kernel_rfl) (by rfl) ?_ hS ?_
   rotate_left; · intro wx hx; clear hx; go_simp; with_reducible rfl
   try simp only [tl]
   refine eT 4 ?_ [] rfl (by kernel_rfl) (by rfl) ?_ hS ?_
   rotate_left; · intro wx hx; clear hx; go_simp; with_reducible rfl
   try simp only [tl]
   refine eT 5 ?_ [] rfl (by kernel_rfl) (by rfl) ?_ hS ?_
   rotate_left; · intro wx hx; clear hx; go_simp; with_reducible rfl
   try simp only [tl]
   refine eT 6 ?_ [] rfl (by kernel_rfl) (by rfl) ?_ hS ?_
   rotate_left; · intro wx hx; clear hx; go_simp; with_reducible rfl
   try simp only [tl]
   refine wpAnyE_one (i := 8) (by kernel_rfl) (by kernel_rfl) rfl (by rfl) fun K hK => ?_
   refine owp_store_blk 28 (.tmp 2) (.tmp 14) rfl rfl (w7.heap.size) _ rfl rfl 28 _ hAw8 tm_size rfl HO8.out ?_
   obtain ⟨gb, hgb⟩ : ∃ gb, w7.heap.size = gb := ⟨_, rfl⟩
   have hgW : W6.heap.size ≤ gb := by rw [← hgb]; exact (by omega)
   have hB := (hAw8).row #[.int .i64 awkC.k, .int .i64 awkC.n, .string awkC.nm, .int .i64 p, .int .i64 q, .slice B m d, .slice E awkC.ls.length x, .slice E' awkC.ks.length x']
   obtain ⟨wS, hwwS⟩ : ∃ WF, w8.setRow (w7.heap.size) #[.int .i64 awkC.k, .int .i64 awkC.n, .string awkC.nm, .int .i64 p, .int .i64 q, .slice B m d, .slice E awkC.ls.length x, .slice E' awkC.ks.length x'] = WF := ⟨_, rfl⟩
   have huwS : Upd (fun q => q = gb) w8 wS := by rw [← hwwS, ← hgb]; exact (Upd.refl (fun q => q = w7.heap.size) w8).setRow (.inl rfl) _
   rw [hwwS] at hB ⊢
   clear hwwS
   have hUwS : Upd nob W6 wS := (hUw8).trans' huwS (fun q hq h => by have h : q = gb := h; omega)
   refine hK _ _ (cells_of_upd hUwS) ?_
   clear hK K; try simp only [tl]
   have hS : ∀ p : Addr, p.block < W6.heap.size → wS.cell? p = W6.cell? p := cells_of_upd hUwS
   refine wpAnyE_one (i := 9) (by kernel_rfl) (by kernel_rfl) rfl (by rfl) fun K hK => ?_
   go_simp
   refine hK _ _ hS ?_
   clear hK K; try simp only [tl]
   refine wpAnyE_z (by kernel_rfl) rfl (by rfl) fun K hK => ?_
   go_simp
   refine hK _ _ ?_
   clear hK K; try simp only [tl]
   refine wpAny_done (by kernel_rfl) ?_ _
   refine NoPanic.normal ?_
   exact ⟨rfl, eb, gb, p, q, B, m, d, E, x, E', x', by rw [← hgb]; simp only [puts]; try simp only [tl], by rw [← hgb]; exact hB, hUwS⟩
 · go_simp
   have huwa : Upd nob W6.drew ((W6.alloc (.cells #[.int .i64 0, .int .i64 0, .string ByteArray.empty, .int .i64 0, .int .i64 0, .slice none 0 0, .slice none 0 0, .slice none 0 0] 28)).drew) := (Upd.refl nob W6.drew).alloc _
   obtain ⟨wa, hwwa⟩ : ∃ wa, (W6.alloc (.cells #[.int .i64 0, .int .i64 0, .string ByteArray.empty, .int .i64 0, .int .i64 0, .slice none 0 0, .slice none 0 0, .slice none 0 0] 28)).drew = wa := ⟨_, rfl⟩
   have hAwa : Blk wa W6.heap.size 28 #[.int .i64 0, .int .i64 0, .string ByteArray.empty, .int .i64 0, .int .i64 0, .slice none 0 0, .slice none 0 0, .slice none 0 0] := by rw [← hwwa]; exact Blk.new W6.drew _ _
   rw [hwwa] at huwa ⊢
   clear hwwa
   have hUwa : Upd nob W6 wa := ((Upd.refl nob W6).drew).trans huwa
   have hswa : W6.heap.size + 1 ≤ wa.heap.size := hAwa.lt
   have hgwa : W6.heap.size ≤ W6.heap.size := ((Upd.refl nob W6).drew).size
   refine hK _ _ (cells_of_upd hUwa) ?_
   clear hK K; try simp only [tl]
   have hS : ∀ p : Addr, p.block < W6.heap.size → wa.cell? p = W6.cell? p := cells_of_upd hUwa
   refine wpAnyE_one (i := 0) (by kernel_rfl) (by kernel_rfl) rfl (by rfl) fun K hK => ?_
   go_simp
   refine (new_nil wa).mono ?_
   rintro e w7 ⟨eb, rfl, hE0, hn7⟩
   have huw7 : Upd nob wa w7 := hn7
   have hUw7 : Upd nob W6 w7 := (hUwa).trans huw7
   have hsw7 : wa.heap.size ≤ w7.heap.size := huw7.size
   have hAw7 := (hAwa).upd huw7 (fun f => f)
   refine hK _ _ (cells_of_upd hUw7) ?_
   clear hK K; try simp only [tl]
   have hS : ∀ p : Addr, p.block < W6.heap.size → w7.cell? p = W6.cell? p := cells_of_upd hUw7
   have HE0 := Lib.hid hE0
   clear hE0
   refine wpAnyE_one (i := 2) (by kernel_rfl) (by kernel_rfl) rfl (by rfl) fun K hK => ?_
   go_simp
   refine (whnf_top [] _ 1 awkT (NB (W6.heap.size) w7) w7 _ (fun _ h => h.1) (.inr ⟨eb, rfl, HE0.out.old (Old.refl _ _) (fun q hq => by have h1 : wa.heap.size ≤ q := hq.1; have h2 := hq.2; exact ⟨by omega, by omega⟩)⟩) (H6.out.old (hD6.old hUw7) (fun q hq => by have h1 := hD6 q hq; exact ⟨by omega, by omega⟩))).mono ?_
   rintro e w8 ⟨n8, u, err, left, ucs, hwh, rfl, ht8, hn8, hle8⟩
   have huw8 : Upd nob w7 w8 := hn8
   have hUw8 : Upd nob W6 w8 := (hUw7).trans huw8
   have hsw8 : w7.heap.size ≤ w8.heap.size := huw8.size
   have hAw8 := (hAw7).upd huw8 (fun f => f)
   refine hK _ _ (cells_of_upd hUw8) ?_
   clear hK K; try simp only [tl]
   have hS : ∀ p : Addr, p.block < W6.heap.size → w8.cell? p = W6.cell? p := cells_of_upd hUw8
   obtain ⟨rfl, rfl, rfl⟩ := awk10_one hwh
   obtain ⟨p, q, B, m, d, E, x, E', x', rfl⟩ := ht8.lit8
   have HO8 := Lib.hid ht8.oneCell.2
   clear ht8 hwh hle8
   refine eT 3 ?_ [] rfl (by kernel_rfl) (by rfl) ?_ hS ?_
   rotate_left; · intro wx hx; clear hx; go_simp; with_reducible rfl
   try simp only [tl]
   refine eT 4 ?_ [] rfl (by kernel_rfl) (by rfl) ?_ hS ?_
   rotate_left; · intro wx hx; clear hx; go_simp; with_reducible rfl
   try simp only [tl]
   refine eT 5 ?_ [] rfl (by kernel_rfl) (by rfl) ?_ hS ?_
   rotate_left; · intro wx hx; clear hx; go_simp; with_reducible rfl
   try simp only [tl]
   refine eT 6 ?_ [] rfl (by kernel_rfl) (by rfl) ?_ hS ?_
   rotate_left; · intro wx hx; clear hx; go_simp; with_reducible rfl
   try simp only [tl]
   refine wpAnyE_one (i := 8) (by kernel_rfl) (by kernel_rfl) rfl (by rfl) fun K hK => ?_
   refine owp_store_blk 28 (.tmp 2) (.tmp 14) rfl rfl (W6.heap.size) _ rfl rfl 28 _ hAw8 tm_size rfl HO8.out ?_
   obtain ⟨gb, hgb⟩ : ∃ gb, W6.heap.size = gb := ⟨_, rfl⟩
   have hgW : W6.heap.size ≤ gb := by rw [← hgb]; exact (by omega)
   have hB := (hAw8).row #[.int .i64 awkC.k, .int .i64 awkC.n, .string awkC.nm, .int .i64 p, .int .i64 q, .slice B m d, .slice E awkC.ls.length x, .slice E' awkC.ks.length x']
   obtain ⟨wS, hwwS⟩ : ∃ WF, w8.setRow (W6.heap.size) #[.int .i64 awkC.k, .int .i64 awkC.n, .string awkC.nm, .int .i64 p, .int .i64 q, .slice B m d, .slice E awkC.ls.length x, .slice E' awkC.ks.length x'] = WF := ⟨_, rfl⟩
   have huwS : Upd (fun q => q = gb) w8 wS := by rw [← hwwS, ← hgb]; exact (Upd.refl (fun q => q = W6.heap.size) w8).setRow (.inl rfl) _
   rw [hwwS] at hB ⊢
   clear hwwS
   have hUwS : Upd nob W6 wS := (hUw8).trans' huwS (fun q hq h => by have h : q = gb := h; omega)
   refine hK _ _ (cells_of_upd hUwS) ?_
   clear hK K; try simp only [tl]
   have hS : ∀ p : Addr, p.block < W6.heap.size → wS.cell? p = W6.cell? p := cells_of_upd hUwS
   refine wpAnyE_one (i := 9) (by kernel_rfl) (by kernel_rfl) rfl (by rfl) fun K hK => ?_
   go_simp
   refine hK _ _ hS ?_
   clear hK K; try simp only [tl]
   refine wpAnyE_z (by kernel_rfl) rfl (by rfl) fun K hK => ?_
   go_simp
   refine hK _ _ ?_
   clear hK K; try simp only [tl]
   refine wpAny_done (by kernel_rfl) ?_ _
   refine NoPanic.normal ?_
   exact ⟨rfl, eb, gb, p, q, B, m, d, E, x, E', x', by rw [← hgb]; simp only [puts]; try simp only [tl], by rw [← hgb]; exact hB, hUwS⟩
 rintro a' w' ⟨eb, b, p, q, B, m, d, E, x, E', x', rfl, hb, hu⟩
 have k0 : w'.cell? ⟨b, 0, none⟩ = some (.int .i64 7) := hb.cell 0
 have k2 : w'.cell? ⟨b, 2, none⟩ = some (.string cN) := hb.cell 2
 have hlt := hb.lt
 have hbel : Below w.heap.size w w' := (hu06.trans hu).below
 have hc : cN = { data := #[99] } := rfl
 rw [hc] at k2
 clear hb hu
 simp only [puts]
 try simp only [tl]
 go_wp2_with fail
 go_ret
 exact ⟨rfl, hbel⟩
end Go.Proofs.YtiampoebdmflgaaGreat
