/- gen.Collect over mails. -/
import Derived.Test.YtdpnpkleobjkfaaAll
namespace Go.Proofs.Ytdpnpkleobjkfaa
open Go.RowKit Go.Shelf Go.Lib
attribute [local go_sem] Oper.semAt_some
set_option maxRecDepth 100000
set_option maxHeartbeats 4000000
set_option linter.unusedSimpArgs false

theorem wpListIn_buildS {P : Program} {F : Fence} (hF : Wide F) {ops : Array Oper} {rest : List Oper} {o : Oper} {a : Act} {w : World} {Q : Exit → Act → World → Prop} (hgd : o.guard = none) (t e : TypeId) (len : Nat) (parts : Array (Nat × Operand)) (ho : o.op = .buildSlice t len parts)
    (cells : Array Value) (ie : TypeInfo) (z : Value)
    (hu : P.underlying t = some (.slice e)) (hie : P.info? e = some ie) (hz : ie.zero = some z) (hsmall : ¬ len * ie.size > 2 ^ 24) (hpos : ¬ len * ie.size = 0)
    (hf : Instr.fill (fun i => some (i * ie.size, ie.size)) ((Array.range (len * ie.size)).map (z.cells[· % z.cells.size]!)) (parts.map fun (i, x) => (i, a.eval x)).toList = some cells)
    (h : wpListIn F 0 P ops Q rest (a.put o.dst (.slice (some ⟨w.heap.size, 0, none⟩) len len)) (w.alloc (.cells cells e))) : wpListIn F 0 P ops Q (o :: rest) a w := by
  refine wpListIn_runTo hF hgd (by intro c; rw [ho]; simp) _ _ ?_ h
  unfold execOp
  simp only [ho, Sem.run_bind, run_buildSlice w t e len _ cells ie z hu hie hz hsmall hpos hf, Result.andThen_ok]
  rfl

theorem wpListIn_appendRun {P : Program} {F : Fence} (hF : Wide F) {ops : Array Oper} {rest : List Oper} {o : Oper} {a : Act} {w : World} {Q : Exit → Act → World → Prop} (hgd : o.guard = none) (s x : Operand) (t : TypeId)
    (ho : o.op = .call { callee := .builtin .append, args := #[s, x], argTypes := #[t, t] }) (v1 v2 v' : Value) (w' : World) (hs : a.eval s = v1) (hx : a.eval x = v2)
    (hrun : (Builtin.append_ #[t, t] o.type #[v1, v2]).run P w = .ok v' w') (h : wpListIn F 0 P ops Q rest (a.put o.dst v') w') : wpListIn F 0 P ops Q (o :: rest) a w := by
  refine wpListIn_runTo hF hgd (by intro c; rw [ho]; simp) v' w' ?_ h
  unfold execOp
  simp only [ho, resolve, invoke, builtin, Sem.run_bind, Sem.run_pure, Result.andThen_ok, List.map_toArray, List.map_cons, List.map_nil, hs, hx, hrun]

theorem mcells_take1 {ms : List (Int × Array Value)} {i : Nat} {p : Int × Array Value} (h : ms[i]? = some p) : mcells (ms.take (i + 1)) = mcells (ms.take i) ++ (#[Value.int .i64 p.1] ++ p.2).toList := by
  rw [take_succ_of h, mcells_app]; simp [mcells]

theorem collectM {gf : FuncId} {lb : Array Value} {D : Nat → Prop} {w : World} {ms : List (Int × Array Value)} (n : Nat) (hn : n ≤ 4611686018427387904) (hnm : ms.length < n) (hm : ms.length ≤ 4000) (hp : PlainL ms) (hit : IterSpec Try.prog gf lb D w (em ms))
    (hgf : ∀ args w, (callFunc gf args).run Try.prog w = .ok (.enter gf args) w) (hD : ∀ k, D k → k < w.heap.size) :
    Calls Try.prog 18 #[.func (.func gf) #[] lb, .int .i64 n] w fun e w' => ∃ cv, e = .returned cv ∧ w'.ownsRow 0 49 74 cv ms.length (mcells ms) ∧ Upd nob w w' := by
  have hz := zero_mail
  obtain ⟨ie, hie, hiz, his, hib⟩ := info_parts pmail_info
  refine callsIn_wide (n := 0).1 ?_
  refine callsIn_of_wp_marks Try.func18 rfl trivial ?_ rfl
  simp only [Try.ntmps18, List.size_toArray, List.length_cons, List.length_nil, Nat.reduceAdd, Nat.reduceSub, Array.replicate_succ, Array.replicate_zero, List.push_toArray, List.append_toArray, List.nil_append, List.cons_append]
  gi_wp2_with fail
  refine viaCalls (take_mail _ _ _ _) ?_
  rintro e w1 ⟨rfl, hw1⟩
  have hu1 : Upd nob w w1 := by rw [hw1]; exact (((Upd.refl nob w).alloc _).alloc _).alloc _
  have b0 : Blk w1 w.heap.size 60 #[.slice none 0 0] := by rw [hw1]; exact ((Blk.new w _ _).alloc _).alloc _
  have bs : Blk w1 (w.heap.size + 1) 63 #[.func (.func gf) #[] lb] := by
    rw [hw1]
    have := (Blk.new (w.alloc (.cells #[.slice none 0 0] 60)) 63 #[.func (.func gf) #[] lb]).alloc (.cells #[.int .i64 n] 3)
    rwa [World.size_alloc] at this
  have bn : Blk w1 (w.heap.size + 1 + 1) 3 #[.int .i64 n] := by
    rw [hw1]
    have := Blk.new ((w.alloc (.cells #[.slice none 0 0] 60)).alloc (.cells #[.func (.func gf) #[] lb] 63)) 3 #[.int .i64 n]
    simpa only [World.size_alloc] using this
  clear hw1
  gi_wp2_with fail
  have hitT := takeM1 n hn hnm (hit.later (hu1.keeps fun k hk => ⟨fun f => f, hD k hk⟩)) hp hgf (fun k hk => Nat.lt_of_lt_of_le (hD k hk) hu1.size) _ _ bn bs
  have hDT : ∀ k, (k = w.heap.size + 1 + 1 ∨ k = w.heap.size + 1 ∨ D k) → k < w1.heap.size ∧ k ≠ w.heap.size := by
    rintro k (rfl | rfl | hk)
    · exact ⟨bn.lt, by omega⟩
    · exact ⟨bs.lt, by omega⟩
    · have := hD k hk; exact ⟨Nat.lt_of_lt_of_le this hu1.size, by omega⟩
  clear bs bn
  -- what has been gathered
  obtain ⟨J, hJd⟩ : ∃ J : Nat → (Nat → Prop) → World → Prop, J = fun i I W => ∃ cv, Blk W w.heap.size 60 #[cv] ∧ W.ownsRow 0 49 74 cv i (mcells (ms.take i)) ∧
    (∀ k, cv.ownBlock = some k → w1.heap.size ≤ k ∧ ¬ I k) ∧ Upd nob w W ∧ (∀ k, I k → w1.heap.size ≤ k) ∧ w1.heap.size ≤ W.heap.size := ⟨_, rfl⟩
  have hb0 := b0.lt
  have hstab : ∀ i, Stab (J i) := by
    intro i I W W' hj hu
    rw [hJd] at hj ⊢
    obtain ⟨cv, h1, h2, h3, h4, h5, h6⟩ := hj
    refine ⟨cv, h1.upd hu (fun h => by have := h5 _ h; omega), ownsRow_keeps h2 (hu.keeps (K := fun k => cv.ownBlock = some k) fun k hk => ⟨(h3 k hk).2, (h2.lt k hk).2⟩) (fun k h => h), ?_, h4.trans' hu (fun k hk hI => by have := h5 k hI; have := hu1.size; omega), ?_, Nat.le_trans h6 hu.size⟩
    · intro k hk
      refine ⟨(h3 k hk).1, ?_⟩
      rintro (h | h)
      · exact (h3 k hk).2 h
      · have := (h2.lt k hk).2; omega
    · rintro k (h | h)
      · exact h5 k h
      · omega
  have hJ0 : J 0 nob w1 := by
    rw [hJd]
    exact ⟨_, b0, ⟨rfl, .inl ⟨rfl, rfl⟩⟩, fun k h => by simp [Value.ownBlock] at h, hu1, fun _ h => h.elim, Nat.le_refl _⟩
  refine wpIn_range hitT rfl (enters_of Try.func39 (by kernel_rfl) rfl) (fun k hk => (hDT k hk).1) (Keeps.refl _ _) em_size J (fun _ _ _ => False) hstab (fun _ => stab_false) nob (fun _ h => h.elim) hJ0
    (fun i x a₁ I W => ∃ (p : Int × Array Value) (cb : Nat), (x = #[Value.agg (#[Value.int .i64 p.1] ++ p.2)] ∧ w1.heap.size ≤ cb ∧ a₁ = { tmps := #[.func (.func gf) #[] lb, .int .i64 n, undef, undef, .slice none 0 0, .pointer (some ⟨w.heap.size, 0, none⟩), .pointer (some ⟨cb, 0, none⟩),
      .func (.func gf) #[] lb, .int .i64 n, .func (.func 39) #[] #[.pointer (some ⟨w.heap.size + 1 + 1, 0, none⟩), .pointer (some ⟨w.heap.size + 1, 0, none⟩)], .agg (#[Value.int .i64 p.1] ++ p.2), undef, undef, undef, undef, undef], defers := [] }) ∧
      (J i I W ∧ Blk W cb 49 (#[Value.int .i64 p.1] ++ p.2) ∧ ¬ I cb ∧ cb < W.heap.size))
    ?hM ?assign ?body ?done (fun _ _ _ _ h => h.elim)
  case hM =>
    intro i x a
    refine stab_ex fun p => stab_ex fun cb => stab_and _ ?_
    rintro I W W' ⟨h1, h2, h3, h4⟩ hu
    refine ⟨hstab i I W W' h1 hu, h2.upd hu h3, ?_, Nat.lt_of_lt_of_le h4 hu.size⟩
    rintro (h | h)
    · exact h3 h
    · omega
  case assign =>
    rintro l' i x I' W' hx hj hlt
    obtain ⟨p, hpi, rfl⟩ := em_get hx
    have hpk : Plain p.2 := hp _ (List.mem_of_getElem? hpi)
    have hblk := Blk.new W' 49 zout
    have hri := mail_size' hpk p.1
    have hri2 : zout.size = (#[Value.int .i64 p.1] ++ p.2).size := by rw [(mail_row hpk p.1).1]; exact zout_size
    have hone := (mail_row hpk p.1).2
    have hu2 : Upd nob W' ((W'.alloc (.cells zout 49)).setRow W'.heap.size (#[Value.int .i64 p.1] ++ p.2)) := ((Upd.refl nob W').alloc _).setRow (.inr (Nat.le_refl _)) _
    have b6 := hblk.row (#[Value.int .i64 p.1] ++ p.2)
    gi_wp2_with (first
      | (refine wpListIn_store_blk (.within _) rfl 49 (.tmp 6) (.tmp 10) rfl rfl W'.heap.size (#[Value.int .i64 p.1] ++ p.2) rfl rfl 49 zout hblk hri hri2 hone ?_))
    have hj' := hj
    rw [hJd] at hj'
    obtain ⟨cv, h1, h2, h3, h4, h5, h6⟩ := hj'
    refine ⟨?_, p, W'.heap.size, ⟨rfl, h6, rfl⟩, ?_, b6, fun h => by have := hlt _ h; omega, by simp⟩
    · refine hu2.keeps fun k hk => ⟨fun f => f, ?_⟩
      rcases hk with h | h
      · exact hlt k h
      · have := (hDT k h).1; omega
    · rw [hJd]
      exact ⟨cv, h1.upd hu2 (fun f => f), ownsRow_keeps h2 (hu2.keeps (K := fun k => cv.ownBlock = some k) fun k hk => ⟨fun f => f, (h2.lt k hk).2⟩) (fun k h => h), h3, h4.trans hu2, h5, by have := hu2.size; omega⟩
  case body =>
    rintro l' i x I' W' a₁ hx ⟨p, cb, ⟨rfl, hcb1, rfl⟩, hj, hrb, hcI, hcl⟩ hlt ⟨r, hr⟩
    obtain ⟨q, hpi, hqq⟩ := em_get hx
    have hpq : p.1 = q.1 ∧ p.2 = q.2 := by
      simp only [Array.mk.injEq, List.cons.injEq, Value.agg.injEq, and_true] at hqq
      have e := congrArg Array.toList hqq
      simp only [Array.toList_append, List.cons_append, List.nil_append, List.cons.injEq, Value.int.injEq, true_and] at e
      exact ⟨e.1, Array.toList_inj.1 e.2⟩
    have hpe : ms[i]? = some p := by rw [hpi]; obtain ⟨a, b⟩ := p; obtain ⟨c, d⟩ := q; simp_all
    have hpk : Plain p.2 := hp _ (List.mem_of_getElem? hpe)
    have hil : i < ms.length := (List.getElem?_eq_some_iff.1 hpe).1
    clear hqq hpq hpi
    have htk := mcells_take1 hpe
    obtain ⟨row, hrw⟩ : ∃ row, #[Value.int .i64 p.1] ++ p.2 = row := ⟨_, rfl⟩
    have hri := mail_size' hpk p.1
    have hone := (mail_row hpk p.1).2
    have hsz := (mail_row hpk p.1).1
    rw [hrw] at hri hone hsz hrb htk
    simp only [hrw]
    rw [hJd] at hj
    obtain ⟨cv, h1, h2, h3, h4, h5, h6⟩ := hj
    obtain ⟨ca, cc, rfl⟩ := own_form h2
    have c0 : W'.cell? ⟨w.heap.size, 0, none⟩ = some (.slice ca i cc) := h1.cell 0
    have hX : (W'.alloc (.cells row 49)).ownsRow 0 49 74 (.slice ca i cc) i (mcells (ms.take i)) := h2.alloc _
    obtain ⟨v9, w9, hrun, hown9, hg9, _, hat⟩ := run_append_own_at (P := Try.prog) (W'.alloc (.cells row 49)) 0 60 60 49 ie (.agg zout) 74 208 Try.underlying60 hie hiz his hib zout_size (by decide)
      (.slice ca i cc) i _ hX ⟨W'.heap.size, 0, none⟩ 1 1 row.toList (by simp [hsz]) (by
        intro j u hu
        have := (Blk.new W' 49 row).range1 j u (by simpa using hu)
        rw [Addr.add_mid]; exact this) (fun u hu => (Array.all_eq_true_iff_forall_mem.1 hone) u (by simpa using hu)) (by unfold maxLen; omega) (by omega) (Nat.zero_le _)
    have hu9 : Upd (fun k => (Value.slice ca i cc).ownBlock = some k) W' w9 := ((Upd.refl _ W').alloc _).grown hg9 (fun k hk => .inl hk)
    have hB9 : Blk w9 w.heap.size 60 #[.slice ca i cc] := h1.upd hu9 (fun h => by have := (h3 _ h).1; omega)
    have hw1 : w9.cell? ⟨w.heap.size, 0, none⟩ = some (.slice ca i cc) := hB9.cell 0
    have hw2 : w9.frozen? ⟨w.heap.size, 0, none⟩ = false := hB9.frozen 0
    obtain ⟨a9, c9, hv9⟩ : ∃ a c, v9 = .slice a (i + 1) c := own_form hown9
    subst hv9
    have hs9 := hu9.size
    have hv9b : ∀ k, (Value.slice a9 (i + 1) c9).ownBlock = some k → (Value.slice ca i cc).ownBlock = some k ∨ W'.heap.size ≤ k := fun k hk => by
      rcases hat with h | h
      · exact .inl (h.symm.trans hk)
      · rw [h] at hk; injection hk with hk; simp at hk; exact .inr (by omega)
    have hv9n : (Value.slice a9 (i + 1) c9).ownBlock ≠ some w.heap.size := fun h => by
      rcases hv9b _ h with h | h
      · have := (h3 _ h).1; omega
      · omega
    rw [← htk] at hown9
    have H1 := Lib.hid h1; have H2 := Lib.hid h2; have H3 := Lib.hid h3; have H4 := Lib.hid h4; have H5 := Lib.hid h5
    have HJ := Lib.hid hJd
    clear h1 h2 h3 h4 h5 hJd htk hat
    gi_wp2_with (first
      | (refine wpListIn_load_blk (.within _) rfl 49 (.tmp 6) rfl cb rfl 49 row _ hrb Try.underlying49 rfl hri ?_; simp only [Act.put, List.setIfInBounds_toArray, List.set_cons_zero, List.set_cons_succ])
      | (refine wpListIn_buildS (.within _) rfl 60 49 1 #[(0, .tmp 12)] rfl row ie (.agg zout) Try.underlying60 hie hiz (by rw [his]; decide) (by rw [his]; decide) ?_ ?_; (simp only [his]; simp only [Act.eval, List.map_toArray, List.map_cons, List.map_nil]; refine fill_one (n := 74) ?_ hsz; rw [Array.size_map, Array.size_range]); simp only [Act.put, List.setIfInBounds_toArray, List.set_cons_zero, List.set_cons_succ])
      | (refine wpListIn_appendRun (.within _) rfl (.tmp 11) (.tmp 13) 60 rfl _ _ _ w9 rfl rfl hrun ?_; simp only [Act.put, List.setIfInBounds_toArray, List.set_cons_zero, List.set_cons_succ]))
    have huF : Upd (fun k => k = w.heap.size ∨ (Value.slice ca i cc).ownBlock = some k) W' (w9.setCell ⟨w.heap.size, 0, none⟩ (.slice a9 (i + 1) c9)) := (hu9.mono fun k h => .inr h).setCell (.inl (.inl rfl)) _
    refine ⟨huF.keeps fun k hk => ⟨?_, ?_⟩, ?_⟩
    · rintro (rfl | h)
      · rcases hk with hk | hk
        · have := H5.out _ hk; omega
        · exact (hDT _ hk).2 rfl
      · rcases hk with hk | hk
        · exact (H3.out k h).2 hk
        · have := (H3.out k h).1; have := (hDT k hk).1; omega
    · rcases hk with hk | hk
      · exact hlt k hk
      · have := (hDT k hk).1; omega
    · rw [HJ.out]
      refine ⟨.slice a9 (i + 1) c9, hB9.set 0 _, ownsRow_setCell_other hown9 (a := ⟨w.heap.size, 0, none⟩) hv9n _, fun k hk => ?_, H4.out.trans' huF ?_, H5.out, by have := huF.size; omega⟩
      · rcases hv9b k hk with h | h
        · exact H3.out k h
        · exact ⟨by omega, fun hi => by have := hlt k hi; omega⟩
      · rintro k hk (rfl | h)
        · omega
        · have := (H3.out k h).1; have := hu1.size; omega
  case done =>
    intro d I W' hj hd hle hk hI1 hI2
    rw [hJd, em_len] at hj
    obtain ⟨cv, h1, h2, h3, h4, h5, h6⟩ := hj
    rw [List.take_length] at h2
    obtain ⟨ca, cc, rfl⟩ := own_form h2
    have c0 : W'.cell? ⟨w.heap.size, 0, none⟩ = some (.slice ca ms.length cc) := h1.cell 0
    gi_wp2
    refine ⟨by simp, .inl ⟨_, _, rfl, run_takeDeferred hk, ?_⟩⟩
    refine ⟨_, results_tmp rfl _ _ _, .slice ca ms.length cc, rfl, ?_, h4.putObj (.inr (by have := hu1.size; omega)) _⟩
    refine ownsRow_keeps h2 (((Upd.refl (fun k => k = d) W').putObj (.inl rfl) (.deferred none)).keeps (K := fun k => (Value.slice ca ms.length cc).ownBlock = some k) fun k hk' => ⟨fun e => (h3 k hk').2 (e ▸ hd), (h2.lt k hk').2⟩) (fun k h => h)
end Go.Proofs.Ytdpnpkleobjkfaa
