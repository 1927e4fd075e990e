/- Laws for walks: whole rows loaded and stored, within the fence and outside; blocks known whole. Over any program. -/
import Derived.Test.YtdpnpkleobjkfaaIter
import Derived.Laws.ResultCell
import Derived.Deep.MidRow
import Derived.Maps.AppendAt
namespace Go.Proofs.Ytdpnpkleobjkfaa
open Go.RowKit

/-- Block g is a row of cells that may be written, known whole. -/
def Blk (w : World) (g : Nat) (t : TypeId) (cs : Array Value) : Prop := w.heap[g]? = some (.cells cs t (0, 0))

section
variable {w w' : World} {g : Nat} {t : TypeId} {cs : Array Value}
theorem Blk.lt (h : Blk w g t cs) : g < w.heap.size := (Array.getElem?_eq_some_iff.1 h).1
theorem Blk.cell (h : Blk w g t cs) (i : Nat) : w.cell? ⟨g, i, none⟩ = cs[i]? := cell_of_row w g i cs t (0, 0) h
theorem Blk.frozen (h : Blk w g t cs) (i : Nat) : w.frozen? ⟨g, i, none⟩ = false := frozen_of_row w g i cs t h
theorem Blk.new (w : World) (t : TypeId) (cs : Array Value) : Blk (w.alloc (.cells cs t)) w.heap.size t cs := heap_alloc_new w _
theorem Blk.alloc (h : Blk w g t cs) (o : Obj) : Blk (w.alloc o) g t cs := (Below.heap_alloc w o g h.lt).trans h
theorem Blk.set (h : Blk w g t cs) (i : Nat) (u : Value) : Blk (w.setCell ⟨g, i, none⟩ u) g t (cs.setIfInBounds i u) := heap_setCell_same w g i cs t u h
theorem Blk.same (h : Blk w g t cs) {i : Nat} {u : Value} (hu : cs[i]? = some u) : Blk (w.setCell ⟨g, i, none⟩ u) g t cs := by
  have e : cs.setIfInBounds i u = cs := by
    apply Array.ext (by simp)
    intro j h1 h2
    rw [Array.getElem_setIfInBounds]
    split
    · rename_i e; subst e; exact (Array.getElem?_eq_some_iff.1 hu).2.symm
    · rfl
  have := h.set i u
  rwa [e] at this
theorem Blk.far (h : Blk w g t cs) {p : Addr} (hp : g ≠ p.block) (u : Value) : Blk (w.setCell p u) g t cs := (heap_setCell_other w p g u hp).trans h
theorem Blk.below {B : Nat} (h : Blk w g t cs) (hb : Below B w w') (hg : g < B) : Blk w' g t cs := (hb.block g hg).trans h
theorem Blk.upd {S : Nat → Prop} (h : Blk w g t cs) (hb : Upd S w w') (hg : ¬ S g) : Blk w' g t cs := (hb.block g h.lt hg).trans h
theorem Blk.keeps {K : Nat → Prop} (h : Blk w g t cs) (hb : Keeps K w w') (hg : K g) : Blk w' g t cs := (hb.same g hg).trans h
theorem Blk.row (h : Blk w g t cs) (cs' : Array Value) : Blk (w.setRow g cs') g t cs' := setRow_heap w g cs cs' t _ h
theorem Blk.rowFar (h : Blk w g t cs) {k : Nat} (hk : g ≠ k) (cs' : Array Value) : Blk (w.setRow k cs') g t cs := (setRow_other w k g cs' hk).trans h
end

theorem Upd.setRow {S : Nat → Prop} {a w : World} (h : Upd S a w) {g : Nat} (hg : S g ∨ a.heap.size ≤ g) (cs : Array Value) : Upd S a (w.setRow g cs) :=
  ⟨h.os, h.tape, h.output, by simp; exact h.size, fun k hk hs => by
    have hne : k ≠ g := by
      rintro rfl
      rcases hg with hp | hp
      · exact hs hp
      · omega
    exact (setRow_other w g k cs hne).trans (h.block k hk hs)⟩

/-- The fences that are used here: every function, any depth; within a round or outside. -/
inductive Wide : Fence → Prop where
  | out : Wide Fence.wide
  | within (l : Nat) : Wide (Fence.wide.inRound l)

theorem Wide.sem {F : Fence} (h : Wide F) (ρ : Operand → Value) (o : Oper) (hd : ∀ c, o.op ≠ .defer c) : o.semAt F.round ρ = execOp ρ o := by
  cases h with
  | out => rfl
  | within l => exact Oper.semAt_some l _ _ hd
theorem Wide.fn {F : Fence} (h : Wide F) (f : FuncId) : F.fn f := by cases h <;> trivial

/-- An operation whose run is known. -/
theorem wpListIn_runTo {P : Program} {F : Fence} (hF : Wide F) {ops : Array Oper} {rest : List Oper} {o : Oper} {a : Act} {w : World} {Q : Exit → Act → World → Prop} (hg : o.guard = none) (hd : ∀ c, o.op ≠ .defer c)
    (v : Value) (w' : World) (hrun : (execOp a.eval o).run P w = .ok (.value v) w')
    (h : wpListIn F 0 P ops Q rest (a.put o.dst v) w') : wpListIn F 0 P ops Q (o :: rest) a w := by
  refine wpListIn_plain hg fun K hK => ⟨fun f _ => hF.fn f, ?_⟩
  rw [hF.sem _ _ hd, hrun]
  exact hK _ _ h

theorem run_load_blk {P : Program} {o : Oper} {a : Act} {w : World} (ty : TypeId) (x : Operand) (ho : o.op = .load ty x)
    (g : Nat) (hx : a.eval x = .pointer (some ⟨g, 0, none⟩)) (t : TypeId) (cs : Array Value) (d : TypeDesc) (hg : Blk w g t cs)
    (hu : P.underlying ty = some d) (hd : (match d with | .struct _ | .array _ _ => true | _ => false) = true) (hi : (P.info? ty).map (·.size) = some cs.size) :
    (execOp a.eval o).run P w = .ok (.value (.agg cs)) w := by
  unfold execOp
  simp only [ho, hx, Instr.loadAt, Instr.sureAddr, Sem.run_bind, Sem.run_pure, Result.andThen_ok, run_loadVar_row w g t ty cs (0, 0) d hg hu hd hi]

theorem run_store_blk {P : Program} {o : Oper} {a : Act} {w : World} (ty : TypeId) (x y : Operand) (ho : o.op = .store ty x y)
    (g : Nat) (cells : Array Value) (hx : a.eval x = .pointer (some ⟨g, 0, none⟩)) (hy : a.eval y = .agg cells)
    (t : TypeId) (old : Array Value) (hg : Blk w g t old) (hi : (P.info? ty).map (·.size) = some cells.size)
    (hold : old.size = cells.size) (h1 : cells.all (·.oneCell') = true) :
    ∃ r, (execOp a.eval o).run P w = .ok r (w.setRow g cells) ∧ (r = .skip ∨ r = .value undef) := by
  unfold execOp
  simp only [ho, hx, hy, Instr.storeAt, Instr.sureAddr, Sem.run_bind, Sem.run_pure, Result.andThen_ok, run_storeVar_row w g t ty old cells hg hi hold h1]
  exact ⟨_, rfl, by simp⟩

theorem run_load_mid {P : Program} {o : Oper} {a : Act} {w : World} (ty : TypeId) (x : Operand) (ho : o.op = .load ty x)
    (g off : Nat) (hx : a.eval x = .pointer (some ⟨g, off, none⟩)) (cs : Array Value) (d : TypeDesc) (hg : w.rangeAt g off cs.toList)
    (hu : P.underlying ty = some d) (hd : d.isRow = true) (hi : (P.info? ty).map (·.size) = some cs.size) :
    (execOp a.eval o).run P w = .ok (.value (.agg cs)) w := by
  have := run_loadVar_mid (P := P) w g off ty cs.toList d hg hu hd (by simpa using hi)
  unfold execOp
  simp only [ho, hx, Instr.loadAt, Instr.sureAddr, Sem.run_bind, Sem.run_pure, Result.andThen_ok, this]

theorem Blk.range {w : World} {g : Nat} {t : TypeId} {pre cs post : Array Value} (h : Blk w g t (pre ++ cs ++ post)) : w.rangeAt g pre.size cs.toList := by
  intro j v hv
  rw [h.cell]
  have hj : j < cs.size := by have := (List.getElem?_eq_some_iff.1 hv).1; simpa using this
  rw [Array.getElem?_append_left (by simp; omega), Array.getElem?_append_right (by omega)]
  simpa using hv
theorem Blk.range2 {w : World} {g : Nat} {t : TypeId} {pre cs : Array Value} (h : Blk w g t (pre ++ cs)) : w.rangeAt g pre.size cs.toList := by
  have h' : Blk w g t (pre ++ cs ++ #[]) := by simpa using h
  exact h'.range
theorem Blk.range1 {w : World} {g : Nat} {t : TypeId} {cs : Array Value} (h : Blk w g t cs) : w.rangeAt g 0 cs.toList := by
  intro j v hv
  rw [Nat.zero_add, h.cell]
  simpa using hv

theorem wpListIn_load_blk {P : Program} {F : Fence} (hF : Wide F) {ops : Array Oper} {rest : List Oper} {o : Oper} {a : Act} {w : World} {Q : Exit → Act → World → Prop} (hgd : o.guard = none) (ty : TypeId) (x : Operand) (ho : o.op = .load ty x)
    (g : Nat) (hx : a.eval x = .pointer (some ⟨g, 0, none⟩)) (t : TypeId) (cs : Array Value) (d : TypeDesc) (hg : Blk w g t cs)
    (hu : P.underlying ty = some d) (hd : (match d with | .struct _ | .array _ _ => true | _ => false) = true) (hi : (P.info? ty).map (·.size) = some cs.size)
    (h : wpListIn F 0 P ops Q rest (a.put o.dst (.agg cs)) w) : wpListIn F 0 P ops Q (o :: rest) a w :=
  wpListIn_runTo hF hgd (by intro c; rw [ho]; simp) _ _ (run_load_blk ty x ho g hx t cs d hg hu hd hi) h

theorem wpListIn_load_mid {P : Program} {F : Fence} (hF : Wide F) {ops : Array Oper} {rest : List Oper} {o : Oper} {a : Act} {w : World} {Q : Exit → Act → World → Prop} (hgd : o.guard = none) (ty : TypeId) (x : Operand) (ho : o.op = .load ty x)
    (g off : Nat) (hx : a.eval x = .pointer (some ⟨g, off, none⟩)) (cs : Array Value) (d : TypeDesc) (hg : w.rangeAt g off cs.toList)
    (hu : P.underlying ty = some d) (hd : d.isRow = true) (hi : (P.info? ty).map (·.size) = some cs.size)
    (h : wpListIn F 0 P ops Q rest (a.put o.dst (.agg cs)) w) : wpListIn F 0 P ops Q (o :: rest) a w :=
  wpListIn_runTo hF hgd (by intro c; rw [ho]; simp) _ _ (run_load_mid ty x ho g off hx cs d hg hu hd hi) h

theorem wpListIn_store_blk {P : Program} {F : Fence} (hF : Wide F) {ops : Array Oper} {rest : List Oper} {o : Oper} {a : Act} {w : World} {Q : Exit → Act → World → Prop} (hgd : o.guard = none) (ty : TypeId) (x y : Operand) (ho : o.op = .store ty x y) (hdst : o.dst = none)
    (g : Nat) (cells : Array Value) (hx : a.eval x = .pointer (some ⟨g, 0, none⟩)) (hy : a.eval y = .agg cells)
    (t : TypeId) (old : Array Value) (hg : Blk w g t old) (hi : (P.info? ty).map (·.size) = some cells.size)
    (hold : old.size = cells.size) (h1 : cells.all (·.oneCell') = true)
    (h : wpListIn F 0 P ops Q rest a (w.setRow g cells)) : wpListIn F 0 P ops Q (o :: rest) a w := by
  obtain ⟨r, hrun, hr⟩ := run_store_blk (P := P) ty x y ho g cells hx hy t old hg hi hold h1
  refine wpListIn_plain hgd fun K hK => ⟨fun f _ => hF.fn f, ?_⟩
  rw [hF.sem _ _ (by intro c; rw [ho]; simp), hrun]
  have h' := hK _ _ h
  rcases hr with rfl | rfl
  · rw [Oper.uponIn_skip, hdst]; exact h'
  · rw [Oper.uponIn_value, hdst]; exact h'

theorem run_eql_func_nil {P : Program} {ps rs : Array TypeId} {vr : Bool} (t : TypeId) (h : P.underlying t = some (.func ps rs vr)) (f : Fn) (xs ys : Array Value) (w : World) :
    (binOp .eql t (.func f xs ys) .nilFunc).run P w = .ok (.bool false) w := by
  have h1 : ∀ d : Nat, (Op.equalIn (d + 1) t (.func f xs ys) .nilFunc).run P w = .ok false w := fun d => by
    simp [Op.equalIn, run_underlying h]
  simp only [binOp]
  simp [Op.equal, Op.maxDepth, h1 9999]

/-! ### A struct put together out of parts -/

theorem splice_get (off k : Nat) : ∀ (l : List Value) (s : Nat) (acc : Array Value), off + s + l.length ≤ acc.size →
    ((l.zipIdx s).foldl (fun a (x : Value × Nat) => a.setIfInBounds (off + x.2) x.1) acc)[k]? = if off + s ≤ k ∧ k < off + s + l.length then l[k - (off + s)]? else acc[k]?
  | [], s, acc, _ => by simp; omega
  | x :: l, s, acc, h => by
    simp only [List.length_cons] at h
    have ih := splice_get off k l (s + 1) (acc.setIfInBounds (off + s) x) (by simp; omega)
    simp only [List.zipIdx_cons, List.foldl_cons]
    rw [ih]
    by_cases h1 : k = off + s
    · subst h1
      rw [if_neg (by omega), if_pos (by simp), Array.getElem?_setIfInBounds_self_of_lt (by omega)]
      simp
    · by_cases h2 : off + s ≤ k ∧ k < off + s + (x :: l).length
      · rw [if_pos h2, if_pos (by simp only [List.length_cons] at h2; omega)]
        rw [show k - (off + s) = (k - (off + (s + 1))) + 1 by omega]
        simp
      · rw [if_neg h2, if_neg (by simp only [List.length_cons] at h2; omega)]
        exact Array.getElem?_setIfInBounds_ne (Ne.symm h1)

theorem splice_eq (cs cells pre post : Array Value) (hc : cells.size = pre.size + cs.size + post.size) (h1 : ∀ k, k < pre.size → cells[k]? = pre[k]?) (h2 : ∀ k, k < post.size → cells[pre.size + cs.size + k]? = post[k]?) :
    cs.zipIdx.foldl (fun a (x : Value × Nat) => a.setIfInBounds (pre.size + x.2) x.1) cells = pre ++ cs ++ post := by
  apply Array.ext_getElem?
  intro k
  rw [← Array.foldl_toList]
  have hz : cs.zipIdx.toList = cs.toList.zipIdx 0 := by simp
  rw [hz, splice_get pre.size k cs.toList 0 cells (by simp; omega)]
  by_cases hk : pre.size ≤ k ∧ k < pre.size + cs.size
  · rw [if_pos (by simp; omega), Array.getElem?_append_left (by simp; omega), Array.getElem?_append_right (by omega)]
    simp
  · rw [if_neg (by simp; omega)]
    by_cases hk1 : k < pre.size
    · rw [Array.getElem?_append_left (by simp; omega), Array.getElem?_append_left hk1]
      exact h1 k hk1
    · rw [Array.getElem?_append_right (by simp; omega)]
      by_cases hk2 : k < cells.size
      · have := h2 (k - (pre.size + cs.size)) (by omega)
        rw [show pre.size + cs.size + (k - (pre.size + cs.size)) = k by omega] at this
        rw [this, Array.size_append]
      · rw [Array.getElem?_eq_none (by omega), Array.getElem?_eq_none (by simp; omega)]

theorem run_build_op {P : Program} {o : Oper} {a : Act} {w : World} (t : TypeId) (parts : Array (Nat × Operand)) (ho : o.op = .build t parts) (cells : Array Value)
    (h : P.built t (parts.map fun (i, x) => (i, a.eval x)).toList = some cells) : (execOp a.eval o).run P w = .ok (.value (.agg cells)) w := by
  have := run_build (P := P) w t (parts.map fun (i, x) => (i, a.eval x)) cells h
  unfold execOp
  simp only [ho, Sem.run_bind, Sem.run_pure, Result.andThen_ok, this]

/-- 'for x := range g { body }' where x is a plain slot: the assignment is carried out here. -/
theorem wpIn_range1 {P : Program} {gf : FuncId} {lb : Array Value} {D : Nat → Prop} {w₀ : World} {xs : List (Array Value)} (hit : IterSpec P gf lb D w₀ xs)
    {g : Operand} {p d id : Nat} {o : Oper} {body : Code} {Q : Exit → Act → World → Prop} {a : Act} {w : World}
    (hg : a.eval g = .func (.func gf) #[] lb) (eg : ∀ args w, (callFunc gf args).run P w = .ok (.enter gf args) w)
    (hop : o.op = .assign (.tmp p)) (hdst : o.dst = some d) (hgd : o.guard = none) (hp : p < a.tmps.size)
    (hD : ∀ k, D k → k < w.heap.size) (hag : Keeps D w₀ w) (hps : ∀ x, x ∈ xs → x.size = 1)
    (J : Nat → (Nat → Prop) → World → Prop) (Jx : Code → (Nat → Prop) → World → Prop) (hJ : ∀ i, Stab (J i)) (hJx : ∀ c, Stab (Jx c)) (h0 : J 0 nob w)
    (hbody : ∀ l i v I W, xs[i]? = some #[v] → J i I W → (∀ k, I k → k < W.heap.size) →
      body.wpIn (Fence.wide.inRound l) 0 P (roundEnd (fun k => I k ∨ D k) (J (i + 1)) Jx I W) { tmps := (a.tmps.setIfInBounds p v).setIfInBounds d v, defers := [] } W)
    (hdone : ∀ e I W, J xs.length I W → I e → w.heap.size ≤ e → W.heap[e]? = some (.deferred (some [])) → (∀ k, I k → w.heap.size ≤ k) →
      Q .normal { a with defers := { target := .collected e, args := #[] } :: a.defers } W)
    (hstop : ∀ e c I W, Jx c I W → I e → w.heap.size ≤ e → W.heap[e]? = some (.deferred (some [])) → (∀ k, I k → w.heap.size ≤ k) →
      c.wpIn Fence.wide 0 P Q { a with defers := { target := .collected e, args := #[] } :: a.defers } W) :
    (Code.rangeFunc g #[p] (Code.region id #[o] false) body).wpIn Fence.wide 0 P Q a w := by
  have one : ∀ {i : Nat} {x : Array Value}, xs[i]? = some x → ∃ v, x = #[v] := fun {i x} h => by
    have := hps x (List.mem_of_getElem? h)
    exact ⟨x[0], by apply Array.ext (by simpa using this); intro j h1 h2; simp at h2; subst h2; rfl⟩
  refine wpIn_range hit hg eg hD hag (by simpa using hps) J Jx hJ hJx nob (fun _ h => h.elim) h0
    (fun i x a₁ I W => (∃ v, x = #[v] ∧ a₁ = { tmps := (a.tmps.setIfInBounds p v).setIfInBounds d v, defers := [] }) ∧ J i I W) (fun i x a₁ => stab_and _ (hJ i)) ?_ ?_
    (fun e I W hj he hle hk _ hI => hdone e I W hj he hle hk (fun k h => (hI k h).resolve_left (fun f => f)))
    (fun e c I W hj he hle hk _ hI => hstop e c I W hj he hle hk (fun k h => (hI k h).resolve_left (fun f => f)))
  · intro l i x I W hx hj hlt
    obtain ⟨v, rfl⟩ := one hx
    have ez : (#[p].zip #[v]).foldl (fun t (x : Nat × Value) => t.setIfInBounds x.1 x.2) a.tmps = a.tmps.setIfInBounds p v := by simp
    rw [ez]
    refine wpIn_region_list ?_
    refine wpListIn_runTo (.within l) hgd (by intro c; rw [hop]; simp) v W ?_ (wpListIn_nil ?_)
    · unfold execOp
      simp [hop, Act.eval, hp]
    · simp only [Act.put, hdst]
      exact ⟨Keeps.refl _ _, ⟨v, rfl, rfl⟩, hj⟩
  · rintro l i x I W a₁ hx ⟨⟨v, rfl, rfl⟩, hj⟩ hlt _
    exact hbody l i v I W hx hj hlt

/-- A slice literal of one struct. -/
theorem fill_one {n : Nat} {cells ms : Array Value} (hc : cells.size = n) (hm : ms.size = n) : Instr.fill (fun i => some (i * n, n)) cells [(0, .agg ms)] = some ms := by
  have hs := splice_eq ms cells #[] #[] (by simp; omega) (by intro k hk; simp at hk) (by intro k hk; simp at hk)
  simp only [Array.append_empty, Array.empty_append, List.size_toArray, List.length_nil, Nat.zero_add] at hs
  have h0 : (Value.agg ms).cells = ms := rfl
  simp only [Instr.fill, h0, Nat.zero_mul, Nat.zero_add]
  rw [if_neg (by simp [hm, hc]), hs]

/-- append onto a row of one's own: where the new row lies is told. -/
theorem wp_append_at {P : Program} {o : Oper} {a : Act} {w : World} {K : Act → World → Prop} {Q : Exit → Act → World → Prop} (s x : Operand) (t : TypeId)
    (ho : o.op = .call { callee := .builtin .append, args := #[s, x], argTypes := #[t, t] })
    (base : Nat) (e : TypeId) (i : TypeInfo) (z : Value) (size bytes : Nat) (ht : P.underlying t = some (.slice e)) (hi : P.info? e = some i) (hz : i.zero = some z)
    (hsize : i.size = size) (hby : i.bytes = bytes) (hzs : z.cells.size = size) (hsz : 0 < size)
    (v : Value) (n : Nat) (xs : List Value) (hs : a.eval s = v) (hown : w.ownsRow base e size v n xs)
    (ad : Addr) (m c : Nat) (news : List Value) (hx : a.eval x = .slice (some ad) m c) (hl : news.length = m * size) (hnews : ∀ j u, news[j]? = some u → w.cell? (ad.add j) = some u) (h1 : ∀ u ∈ news, u.oneCell' = true)
    (h63 : n + m ≤ maxLen) (hbytes : (n + m) * bytes ≤ 140737488355328) (hbase : base ≤ w.heap.size)
    (h : ∀ v' w', w'.ownsRow base e size v' (n + m) (xs ++ news) → w.grownBy w' v.ownBlock → (v'.ownBlock = v.ownBlock ∨ v'.ownBlock = some w.heap.size) → K (a.put o.dst v') w') : o.wp P a w K Q := by
  obtain ⟨v', w', hrun, h2, h3, _, h4⟩ := run_append_own_at (P := P) w base t o.type e i z size bytes ht hi hz hsize hby hzs hsz v n xs hown ad m c news hl hnews h1 h63 hbytes hbase
  unfold Oper.wp execOp
  simp only [ho, resolve, invoke, builtin, Sem.run_bind, Sem.run_pure, Result.andThen_ok, List.map_toArray, List.map_cons, List.map_nil, hs, hx, hrun]
  exact h v' w' h2 h3 h4

/-- Two results: a struct in its block, and a slot. -/
theorem results_blk_tmp {P : Program} {fn : Func} {p u : Tmp} {ty : TypeId} (h : fn.results = #[.cell p ty, .tmp u]) (tmps : Array Value) (w : World) (g : Nat) (t : TypeId) (cs : Array Value) (d : TypeDesc)
    (hp : tmps.getD p undef = .pointer (some ⟨g, 0, none⟩)) (hg : Blk w g t cs) (hu : P.underlying ty = some d) (hd : (match d with | .struct _ | .array _ _ => true | _ => false) = true) (hi : (P.info? ty).map (·.size) = some cs.size) :
    (results fn tmps).run P w = .ok (.tuple #[.agg cs, tmps.getD u undef]) w := by
  rw [results_cell_tmp h, hp]
  have := run_loadVar_row (P := P) w g t ty cs (0, 0) d hg hu hd hi
  simp [asAddr, Result.andThen, this]
end Go.Proofs.Ytdpnpkleobjkfaa
