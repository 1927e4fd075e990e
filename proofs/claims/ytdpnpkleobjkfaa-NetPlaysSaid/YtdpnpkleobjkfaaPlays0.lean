/- What NetPlays needs of both networks, in mails. -/
import Derived.Test.YtdpnpkleobjkfaaSend2
import Derived.Test.YtdpnpkleobjkfaaCollect
namespace Go.Proofs.Ytdpnpkleobjkfaa
open Go.RowKit Go.Shelf
set_option maxRecDepth 100000
set_option maxHeartbeats 4000000
set_option linter.unusedSimpArgs false

theorem outAll_two (n : Nat) (src t1 t2 : Int) (c1 c2 : Array Value) (ms : List (Int × Array Value)) :
    outAll n src [(t1, c1), (t2, c2)] (ms.length, mcells ms) = ((sendM n src t2 c2 (sendM n src t1 c1 ms)).length, mcells (sendM n src t2 c2 (sendM n src t1 c1 ms))) := by
  have e1 : ∀ (t : Int) (c : Array Value) (l : List (Int × Array Value)), outAdd n src (l.length, mcells l) (t, c) = ((sendM n src t c l).length, mcells (sendM n src t c l)) := fun t c l => by
    simp only [outAdd]
    rw [sendM_len]
    have : mcells (sendM n src t c l) = mcells l ++ mails c (sent src t n l.length) := by rw [mails_map, ← mcells_app]; rfl
    rw [this]
  have e : outAll n src [(t1, c1), (t2, c2)] (ms.length, mcells ms) = outAdd n src (outAdd n src (ms.length, mcells ms) (t1, c1)) (t2, c2) := rfl
  rw [e, e1, e1]

/-- What a row of a network is. -/
def IsM (p : Int × Array Value) : Prop := ∃ k f v s, MsgIs p.2 k f v s
def AllM (ms : List (Int × Array Value)) : Prop := ∀ p ∈ ms, IsM p
theorem AllM.plain {ms : List (Int × Array Value)} (h : AllM ms) : PlainL ms := fun p hp => by
  obtain ⟨k, f, v, s, hm⟩ := h p hp
  exact hm.plain
theorem AllM.send {n : Nat} {src to : Int} {cs : Array Value} {ms : List (Int × Array Value)} (h : AllM ms) (hc : ∃ k f v s, MsgIs cs k f v s) : AllM (sendM n src to cs ms) := by
  intro p hq
  rcases List.mem_append.1 hq with h1 | h1
  · exact h p h1
  · obtain ⟨i, _, rfl⟩ := List.mem_map.1 h1; exact hc
theorem AllM.tk {ms : List (Int × Array Value)} (h : AllM ms) (i : Int) : AllM (Go.Proofs.Ytdpnpkleobjkfaa.tk ms i) := by
  unfold Go.Proofs.Ytdpnpkleobjkfaa.tk
  split
  · exact fun p hq => h p (List.mem_of_mem_eraseIdx hq)
  · exact h
theorem AllM.dbl {ms : List (Int × Array Value)} (h : AllM ms) (i : Int) : AllM (Go.Proofs.Ytdpnpkleobjkfaa.dbl ms i) := by
  cases hd : dblOk ms i with
  | false => rw [dbl_out hd]; exact h
  | true =>
    rw [dbl_in hd]
    intro p hq
    rcases List.mem_append.1 hq with h1 | h1
    · exact h p h1
    · rw [List.mem_singleton.1 h1]; exact h _ (List.getElem_mem _)
theorem row_same {ms : List (Int × Array Value)} (h : AllM ms) (i : Int) : ∃ to cs k f v s, atR ms i = #[Value.int .i64 to] ++ cs ∧ MsgIs cs k f v s := by
  cases hin : inR ms i with
  | false => exact ⟨0, msg 0 0 0 0, 0, 0, 0, 0, by rw [atR_out hin, zout_msg], msg_is 0 0 0 0⟩
  | true =>
    obtain ⟨h0, hl⟩ := inR_lt hin
    obtain ⟨k, f, v, s, hm⟩ := h ms[i.toNat] (List.getElem_mem hl)
    exact ⟨_, _, k, f, v, s, atR_in h0 hl, hm⟩
theorem same_row {ms : List (Int × Array Value)} (h : AllM ms) (i : Int) (w : World) : Calls Try.prog 16 #[.agg (atR ms i), .agg (atR ms i)] w fun e w' => e = .returned (.bool true) ∧ Below w.heap.size w w' := by
  obtain ⟨to, cs, k, f, v, s, he, hm⟩ := row_same h i
  rw [he]; exact law_same to cs k f v s hm w

theorem send2m (nb n : Nat) (src t1 t2 : Int) (sv : Value) (ms : List (Int × Array Value)) (c1 c2 : Array Value) (ob cap : Nat) (w : World) (hn : n ≤ 64) (hm : ms.length ≤ 4000) (hN : NetS w nb n sv ms.length (mcells ms))
    (hp1 : Plain c1) (hp2 : Plain c2) (ho : Blk w ob 40 ((#[.int .i64 t1] ++ c1) ++ (#[.int .i64 t2] ++ c2))) (hob : ¬ netB nb sv ob) :
    Calls Try.prog 8 #[.pointer (some ⟨nb, 0, none⟩), .int .i64 src, .slice (some ⟨ob, 0, none⟩) 2 cap] w fun e w' => ∃ sv',
      e = .returned (.int .i64 ((sendM n src t2 c2 (sendM n src t1 c1 ms)).length - ms.length : Nat)) ∧ NetS w' nb n sv' (sendM n src t2 c2 (sendM n src t1 c1 ms)).length (mcells (sendM n src t2 c2 (sendM n src t1 c1 ms))) ∧ Grew w sv sv' ∧ Upd (netB nb sv) w w' := by
  have hos : OutsAt w ob [(t1, c1), (t2, c2)] := by
    refine ⟨?_, ?_, ho.lt⟩
    · intro j hj
      match j, hj with
      | 0, _ =>
        intro i x hx
        have h := ho
        have h' : Blk w ob 40 (#[] ++ (#[.int .i64 t1] ++ c1) ++ (#[.int .i64 t2] ++ c2)) := by simpa using h
        have := h'.range i x (by simpa using hx)
        simpa using this
      | 1, _ =>
        intro i x hx
        have := ho.range2 i x (by simpa using hx)
        rwa [(mail_row hp1 t1).1] at this
    · intro o h
      rcases List.mem_cons.1 h with rfl | h
      · exact hp1
      · rw [List.mem_singleton.1 h]; exact hp2
  refine (send2 nb n src t1 t2 sv ms.length (mcells ms) c1 c2 ob cap 2 w hn hm hN rfl hos hob).mono ?_
  rintro e w' ⟨sv', rfl, h1, h2, h3⟩
  rw [outAll_two] at h1 ⊢
  exact ⟨sv', rfl, h1, h2, h3⟩

theorem rsend2m (nb n : Nat) (src t1 t2 : Int) (sv : Value) (ms : List (Int × Array Value)) (c1 c2 : Array Value) (ob cap : Nat) (w : World) (hn : n ≤ 64) (hm : ms.length ≤ 4000) (hN : RefS w nb n sv ms.length (mcells ms))
    (hp1 : Plain c1) (hp2 : Plain c2) (ho : Blk w ob 40 ((#[.int .i64 t1] ++ c1) ++ (#[.int .i64 t2] ++ c2))) (hob : ¬ netB nb sv ob) :
    Calls Try.prog 9 #[.pointer (some ⟨nb, 0, none⟩), .int .i64 src, .slice (some ⟨ob, 0, none⟩) 2 cap] w fun e w' => ∃ sv',
      e = .returned (.int .i64 ((sendM n src t2 c2 (sendM n src t1 c1 ms)).length - ms.length : Nat)) ∧ RefS w' nb n sv' (sendM n src t2 c2 (sendM n src t1 c1 ms)).length (mcells (sendM n src t2 c2 (sendM n src t1 c1 ms))) ∧ Grew w sv sv' ∧ Upd (netB nb sv) w w' := by
  have hos : OutsAt w ob [(t1, c1), (t2, c2)] := by
    refine ⟨?_, ?_, ho.lt⟩
    · intro j hj
      match j, hj with
      | 0, _ =>
        intro i x hx
        have h := ho
        have h' : Blk w ob 40 (#[] ++ (#[.int .i64 t1] ++ c1) ++ (#[.int .i64 t2] ++ c2)) := by simpa using h
        have := h'.range i x (by simpa using hx)
        simpa using this
      | 1, _ =>
        intro i x hx
        have := ho.range2 i x (by simpa using hx)
        rwa [(mail_row hp1 t1).1] at this
    · intro o h
      rcases List.mem_cons.1 h with rfl | h
      · exact hp1
      · rw [List.mem_singleton.1 h]; exact hp2
  refine (rsend nb n src sv ms.length (mcells ms) [(t1, c1), (t2, c2)] ob cap w hn hm (by simp) hN hos hob).mono ?_
  rintro e w' ⟨sv', rfl, h1, h2, h3⟩
  rw [outAll_two] at h1 ⊢
  exact ⟨sv', rfl, h1, h2, h3⟩

/-- One step of both, where the second may leave rows behind. -/
theorem Two.step2 {W W1 W2 : World} {B nb rb n : Nat} {sv rv sv' rv' : Value} {ms ms' : List (Int × Array Value)} (h : Two W B nb rb n sv rv ms)
    (h1 : NetS W1 nb n sv' ms'.length (mcells ms')) (g1 : Grew2 W sv sv') (u1 : Upd (netB nb sv) W W1)
    (h2 : RefS W2 rb n rv' ms'.length (mcells ms')) (g2 : Grew2 W1 rv rv') (u2 : Upd (netB rb rv) W1 W2) (hp : PlainL ms') (hl : ms'.length ≤ 4000) :
    Two W2 B nb rb n sv' rv' ms' := by
  have hR1 : RefS W1 rb n rv ms.length (mcells ms) := h.R.upd u1 (fun k hk hs => two_sep h.N h.R k hs hk)
  have hB := h.base
  have := u1.size
  refine ⟨h1.upd u2 (fun k hk hs => two_sep h1 hR1 k hk hs), h2, hp, hl, ?_, ?_⟩
  · rintro k (rfl | hk)
    · exact h.fn _ (.inl rfl)
    · rcases g1 k hk with h3 | h3
      · exact h.fn k (.inr h3)
      · omega
  · rintro k (rfl | hk)
    · exact h.fr _ (.inl rfl)
    · rcases g2 k hk with h3 | h3
      · exact h.fr k (.inr h3)
      · omega

/-- A block of a kind that is neither network's nor mail's stays. -/
theorem Two.apart' {W : World} {B nb rb n : Nat} {sv rv : Value} {ms : List (Int × Array Value)} (h : Two W B nb rb n sv rv ms) {g : Nat} {t : TypeId} {cs : Array Value} (hb : Blk W g t cs)
    (t1 : t ≠ 67) (t2 : t ≠ 28) (t3 : t ≠ 49) (t4 : t ≠ 56) : ¬ netB nb sv g ∧ ¬ netB rb rv g := by
  have ne : ∀ {g' : Nat} {t' : TypeId} {cs' : Array Value}, Blk W g' t' cs' → t ≠ t' → g ≠ g' := fun hb' ht e => by
    subst e
    unfold Blk at hb hb'
    rw [hb] at hb'
    injection hb' with e3
    injection e3 with _ e4
    exact ht e4
  constructor
  · rintro (h1 | hk)
    · exact ne h.N.blk t1 h1
    · exact own_ne h.N.row hb t3 hk
  · rintro (h1 | hk)
    · exact ne h.R.blk t2 h1
    · exact own_ne h.R.row hb t4 hk

/-- A slice literal of two structs. -/
theorem fill_two {n : Nat} {cells a b : Array Value} (hc : cells.size = 2 * n) (ha : a.size = n) (hb : b.size = n) : Instr.fill (fun i => some (i * n, n)) cells [(0, .agg a), (1, .agg b)] = some (a ++ b) := by
  have h1 := splice_eq a cells #[] (cells.extract n cells.size) (by simp; omega) (by intro k hk; simp at hk) (by
    intro k hk
    simp only [Array.size_extract, List.size_toArray, List.length_nil, Nat.zero_add, ha] at hk ⊢
    rw [Array.getElem?_extract]
    split <;> first | rfl | omega)
  have h2 := splice_eq b (a ++ cells.extract n cells.size) a #[] (by simp; omega) (by
    intro k hk
    rw [Array.getElem?_append_left hk]) (by intro k hk; simp at hk)
  simp only [Array.append_empty, Array.empty_append, List.size_toArray, List.length_nil, Nat.zero_add] at h1 h2
  have ca : (Value.agg a).cells = a := rfl
  have cb : (Value.agg b).cells = b := rfl
  simp only [Instr.fill, ca, cb, Nat.zero_mul, Nat.zero_add, Nat.one_mul]
  rw [if_neg (by simp [ha, hc]; omega), h1]
  rw [ha] at h2
  rw [if_neg (by simp [ha, hb, hc]; omega), h2]

theorem wpList_b2 {P : Program} {ops : Array Oper} {rest : List Oper} {op : Oper} {a : Act} {w : World} {Q : Exit → Act → World → Prop} (hgd : op.guard = none) (t : TypeId) (i1 i2 : Nat) (x1 x2 : Operand) (ho : op.op = .build t #[(i1, x1), (i2, x2)])
    (v1 v2 : Value) (h1 : a.eval x1 = v1) (h2 : a.eval x2 = v2) (cells : Array Value) (hb : P.built t [(i1, v1), (i2, v2)] = some cells)
    (h : wpList P ops Q rest (a.put op.dst (.agg cells)) w) : wpList P ops Q (op :: rest) a w := by
  refine wpList_plain hgd fun K hK => ?_
  unfold Oper.wp
  rw [run_build_op t _ ho cells (by simpa [h1, h2] using hb)]
  exact hK _ _ h
theorem wpList_b3 {P : Program} {ops : Array Oper} {rest : List Oper} {op : Oper} {a : Act} {w : World} {Q : Exit → Act → World → Prop} (hgd : op.guard = none) (t : TypeId) (i1 i2 i3 : Nat) (x1 x2 x3 : Operand) (ho : op.op = .build t #[(i1, x1), (i2, x2), (i3, x3)])
    (v1 v2 v3 : Value) (h1 : a.eval x1 = v1) (h2 : a.eval x2 = v2) (h3 : a.eval x3 = v3) (cells : Array Value) (hb : P.built t [(i1, v1), (i2, v2), (i3, v3)] = some cells)
    (h : wpList P ops Q rest (a.put op.dst (.agg cells)) w) : wpList P ops Q (op :: rest) a w := by
  refine wpList_plain hgd fun K hK => ?_
  unfold Oper.wp
  rw [run_build_op t _ ho cells (by simpa [h1, h2, h3] using hb)]
  exact hK _ _ h
theorem wpList_bs2 {P : Program} {ops : Array Oper} {rest : List Oper} {op : Oper} {a : Act} {w : World} {Q : Exit → Act → World → Prop} (hgd : op.guard = none) (t e : TypeId) (x1 x2 : Operand) (ho : op.op = .buildSlice t 2 #[(0, x1), (1, x2)])
    (c1 c2 : Array Value) (h1 : a.eval x1 = .agg c1) (h2 : a.eval x2 = .agg c2) (ie : TypeInfo) (z : Value) (hu : P.underlying t = some (.slice e)) (hie : P.info? e = some ie) (hz : ie.zero = some z)
    (hs : ie.size = 74) (hc1 : c1.size = 74) (hc2 : c2.size = 74)
    (h : wpList P ops Q rest (a.put op.dst (.slice (some ⟨w.heap.size, 0, none⟩) 2 2)) (w.alloc (.cells (c1 ++ c2) e))) : wpList P ops Q (op :: rest) a w := by
  refine wpList_buildSlice hgd t e 2 _ ho (c1 ++ c2) ie z hu hie hz (by rw [hs]; decide) (by rw [hs]; decide) ?_ h
  rw [hs]
  have hf := fill_two (n := 74) (cells := (Array.range (2 * 74)).map (z.cells[· % z.cells.size]!)) (by rw [Array.size_map, Array.size_range]) hc1 hc2
  simpa [h1, h2] using hf

/-- A guard for the arms of a walk: the operation at hand writes slot d. -/
theorem wpList_at {P : Program} {ops : Array Oper} {rest : List Oper} {a : Act} {w : World} {Q : Exit → Act → World → Prop} (d : Tmp) {o : Op} {t : TypeId} {p : String} {af : Array Edge} {g : Option (Nat × Bool)}
    (h : wpList P ops Q ((⟨some d, o, t, p, af, g⟩ : Oper) :: rest) a w) : wpList P ops Q ((⟨some d, o, t, p, af, g⟩ : Oper) :: rest) a w := h

theorem built_msg2 (s : Int) : Try.prog.built 38 [(0, .int .i64 8), (3, .int .i64 s), (1, .int .i64 1)] = some (msg 8 1 0 s) := by kernel_rfl
end Go.Proofs.Ytdpnpkleobjkfaa
