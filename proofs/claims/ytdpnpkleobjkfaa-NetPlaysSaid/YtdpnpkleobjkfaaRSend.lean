/- assizeref24's network: Send of one out to all. -/
import Derived.Test.YtdpnpkleobjkfaaPut
import Derived.Test.YtdpnpkleobjkfaaLsame
import Derived.WalkKit
namespace Go.Proofs.Ytdpnpkleobjkfaa
open Go.RowKit Go.Shelf
attribute [local go_sem] Oper.semAt_some
set_option maxRecDepth 100000
set_option maxHeartbeats 4000000
set_option linter.unusedSimpArgs false

/-- What 'put' of one target adds. -/
def putL (n : Nat) (src : Int) (m : Nat) (to : Int) : List Int := if 0 ≤ to ∧ to < n ∧ to ≠ src ∧ m < 4000 then [to] else []

def mails (cs : Array Value) (l : List Int) : List Value := l.flatMap fun i => .int .i64 i :: cs.toList

theorem wpList_mid {P : Program} {ops : Array Oper} {rest : List Oper} {op : Oper} {a : Act} {w : World} {Q : Exit → Act → World → Prop} (hgd : op.guard = none) (ty : TypeId) (x : Operand) (ho : op.op = .load ty x)
    (b o : Nat) (hx : a.eval x = .pointer (some ⟨b, o, none⟩)) (cs : Array Value) (d : TypeDesc) (hc : w.rangeAt b o cs.toList)
    (hu : P.underlying ty = some d) (hd : d.isRow = true) (hi : (P.info? ty).map (·.size) = some cs.size)
    (h : wpList P ops Q rest (a.put op.dst (.agg cs)) w) : wpList P ops Q (op :: rest) a w :=
  wpList_load_mid hgd ty x ho b o hx cs.toList d hc hu hd (by simpa using hi) (by simpa using h)

theorem put_any (nb n : Nat) (src to : Int) (sv : Value) (m : Nat) (xs : List Value) (cs : Array Value) (w : World) (hR : RefS w nb n sv m xs) (hp : Plain cs) :
    Calls Try.prog 23 #[.pointer (some ⟨nb, 0, none⟩), .int .i64 src, .int .i64 to, .agg cs] w fun e w' => ∃ sv', e = .returned (.tuple #[]) ∧
      RefS w' nb n sv' (m + (putL n src m to).length) (xs ++ mails cs (putL n src m to)) ∧ (sv'.ownBlock = sv.ownBlock ∨ ∃ k, sv'.ownBlock = some k ∧ w.heap.size ≤ k) ∧ Upd (netB nb sv) w w' := by
  unfold putL
  split
  · rename_i h
    refine (put_yes nb n src to sv m xs cs w hR hp h.1 h.2.1 h.2.2.1 h.2.2.2).mono ?_
    rintro e w' ⟨sv', rfl, h1, h2, h3⟩
    exact ⟨sv', rfl, by simpa [mails] using h1, h2, h3⟩
  · rename_i h
    refine (put_no nb n src to sv m xs cs w hR h).mono ?_
    rintro e w' ⟨rfl, hu⟩
    exact ⟨sv, rfl, by simpa [mails] using hR.upd hu (fun _ _ f => f), .inl rfl, hu.mono fun _ h => h.elim⟩

def sent (src to : Int) (k m : Nat) : List Int := ((upto k).filter (forB src to)).take (4000 - m)

theorem sent_zero (src to : Int) (m : Nat) : sent src to 0 m = [] := by simp [sent, upto]

theorem upto_succ (k : Nat) : upto (k + 1) = upto k ++ [(k : Int)] := by simp [upto, List.range_succ]

theorem sent_len (src to : Int) (k m : Nat) : (sent src to k m).length ≤ 4000 - m := by unfold sent; rw [List.length_take]; exact Nat.min_le_left _ _

/-- One target more. -/
theorem sent_put (n : Nat) (src : Int) (k m : Nat) (hk : k < n) : sent src (-1) k m ++ putL n src (m + (sent src (-1) k m).length) k = sent src (-1) (k + 1) m := by
  unfold sent
  rw [upto_succ, List.filter_append, List.take_append]
  congr 1
  generalize hl : (upto k).filter (forB src (-1)) = l
  by_cases h : (k : Int) = src
  · have : forB src (-1) (k : Int) = false := by simp [forB, h]
    simp [putL, forB, h]
  · have : forB src (-1) (k : Int) = true := by simp [forB, h]
    simp only [List.filter_cons, this, if_true, List.filter_nil, List.length_take, putL]
    by_cases h2 : l.length < 4000 - m
    · rw [if_pos ⟨by omega, by omega, h, by omega⟩, show 4000 - m - l.length = (4000 - m - l.length - 1) + 1 by omega]
      simp
    · rw [if_neg (by omega), show 4000 - m - l.length = 0 by omega]
      simp

theorem filter_to (src : Int) (to : Int) (h0 : to ≠ -1) : ∀ k : Nat, (upto k).filter (forB src to) = if 0 ≤ to ∧ to < k ∧ to ≠ src then [to] else []
  | 0 => by rw [if_neg (by omega)]; rfl
  | k + 1 => by
    rw [upto_succ, List.filter_append, filter_to src to h0 k]
    have e1 : (List.filter (forB src to) [(k : Int)]) = if forB src to k = true then [(k : Int)] else [] := by simp only [List.filter_cons, List.filter_nil]
    rw [e1]
    by_cases h : to = (k : Int)
    · by_cases h2 : to = src
      · rw [if_neg (by omega), if_neg (by simp [forB, ← h, h2]), if_neg (by intro h3; exact h3.2.2 h2)]; rfl
      · rw [if_neg (by omega), if_pos (by simp only [forB, ← h]; simp [h2]), if_pos ⟨by omega, by omega, h2⟩, h]; rfl
    · have : ¬ forB src to (k : Int) = true := by simp [forB, h0, h]
      rw [if_neg this]
      by_cases h3 : 0 ≤ to ∧ to < k ∧ to ≠ src
      · rw [if_pos h3, if_pos ⟨h3.1, by omega, h3.2.2⟩]; rfl
      · rw [if_neg h3, if_neg]; · rfl
        · rintro ⟨h4, h5, h6⟩; exact h3 ⟨h4, by omega, h6⟩

theorem sent_to (n : Nat) (src to : Int) (m : Nat) (h : 0 ≤ to) : sent src to n m = putL n src m to := by
  unfold sent putL
  rw [filter_to src to (by omega)]
  by_cases h1 : 0 ≤ to ∧ to < n ∧ to ≠ src
  · rw [if_pos h1]
    by_cases h2 : m < 4000
    · rw [if_pos ⟨h1.1, h1.2.1, h1.2.2, h2⟩, show 4000 - m = (4000 - m - 1) + 1 by omega]; simp
    · rw [if_neg (by omega), show 4000 - m = 0 by omega]; simp
  · rw [if_neg h1, if_neg (by omega)]; simp

theorem sent_none (n : Nat) (src to : Int) (m : Nat) (h : to < -1) : sent src to n m = [] := by
  unfold sent
  rw [filter_to src to (by omega), if_neg (by omega)]; simp

/-- What outs add. -/
def outAdd (n : Nat) (src : Int) (x : Nat × List Value) (o : Int × Array Value) : Nat × List Value := (x.1 + (sent src o.1 n x.1).length, x.2 ++ mails o.2 (sent src o.1 n x.1))
def outAll (n : Nat) (src : Int) (os : List (Int × Array Value)) (x : Nat × List Value) : Nat × List Value := os.foldl (outAdd n src) x

theorem outAll_succ (n : Nat) (src : Int) (os : List (Int × Array Value)) (x : Nat × List Value) (j : Nat) (h : j < os.length) : outAll n src (os.take (j + 1)) x = outAdd n src (outAll n src (os.take j) x) os[j] := by
  unfold outAll
  rw [List.take_succ_eq_append_getElem h, List.foldl_append]; rfl
theorem outAll_le (n : Nat) (src : Int) : ∀ (os : List (Int × Array Value)) (x : Nat × List Value), x.1 ≤ (outAll n src os x).1
  | [], x => Nat.le_refl _
  | o :: os, x => Nat.le_trans (Nat.le_add_right _ _) (outAll_le n src os (outAdd n src x o))
theorem outAll_le2 (n : Nat) (src : Int) : ∀ (os : List (Int × Array Value)) (x : Nat × List Value), x.1 ≤ 4000 → (outAll n src os x).1 ≤ 4000
  | [], x, h => h
  | o :: os, x, h => outAll_le2 n src os (outAdd n src x o) (by have := sent_len src o.1 n x.1; simp only [outAdd]; omega)

/-- Outs in a row. -/
structure OutsAt (W : World) (ob : Nat) (os : List (Int × Array Value)) : Prop where
  at_ : ∀ j (h : j < os.length), W.rangeAt ob (j * 74) (.int .i64 os[j].1 :: os[j].2.toList)
  plain : ∀ o ∈ os, Plain o.2
  lt : ob < W.heap.size

/-- 'Send' of any outs. -/
theorem rsend (nb n : Nat) (src : Int) (sv : Value) (m : Nat) (xs : List Value) (os : List (Int × Array Value)) (ob cap : Nat) (w : World) (hn : n ≤ 64) (hm : m ≤ 4000) (hol : os.length ≤ 1000) (hR : RefS w nb n sv m xs)
    (ho : OutsAt w ob os) (hob : ¬ netB nb sv ob) :
    Calls Try.prog 9 #[.pointer (some ⟨nb, 0, none⟩), .int .i64 src, .slice (some ⟨ob, 0, none⟩) os.length cap] w fun e w' => ∃ sv',
      e = .returned (.int .i64 ((outAll n src os (m, xs)).1 - m : Nat)) ∧ RefS w' nb n sv' (outAll n src os (m, xs)).1 (outAll n src os (m, xs)).2 ∧
      (sv'.ownBlock = sv.ownBlock ∨ ∃ k, sv'.ownBlock = some k ∧ w.heap.size ≤ k) ∧ Upd (netB nb sv) w w' := by
  obtain ⟨sa, sc, rfl⟩ := hR.form
  have c0 : w.cell? ⟨nb, 0, none⟩ = some (.int .i64 n) := hR.blk.cell 0
  have c1 : w.cell? ⟨nb, 1, none⟩ = some (.slice sa m sc) := hR.blk.cell 1
  have hl := hR.blk.lt
  have hz := zero_out
  have HR := Lib.hid hR
  have HO := Lib.hid ho
  clear hR ho
  go_enter Try.func9, Try.ntmps9
  go_wp2_with fail
  go_loopw [18] (fun v wr => ∃ j : Nat, j ≤ os.length ∧ v = .int .i64 j ∧ ∃ svj, RefS wr nb n svj (outAll n src (os.take j) (m, xs)).1 (outAll n src (os.take j) (m, xs)).2 ∧
      (svj.ownBlock = (Value.slice sa m sc).ownBlock ∨ ∃ b, svj.ownBlock = some b ∧ w.heap.size ≤ b) ∧ Upd (netB nb (.slice sa m sc)) w wr)
    (fun v _ => os.length - (intOf v).toNat)
  case atStart =>
    refine ⟨0, Nat.zero_le _, rfl, .slice sa m sc, ?_, .inl rfl, Upd.refl _ _⟩
    simpa [outAll] using HR.out
  case round =>
    obtain ⟨j, hj, rfl, svj, hRj, hbj, huj⟩ := hrel
    obtain ⟨W0, rfl⟩ : ∃ x, x = wr := ⟨_, rfl⟩
    obtain ⟨⟨mj, xj⟩, hmx⟩ : ∃ y, outAll n src (os.take j) (m, xs) = y := ⟨_, rfl⟩
    have hmj : mj ≤ 4000 := by have := outAll_le2 n src (os.take j) (m, xs) hm; rw [hmx] at this; exact this
    rw [hmx] at hRj
    have hRj : RefS W0 nb n svj mj xj := hRj
    obtain ⟨ja, jc, rfl⟩ := hRj.form
    have f1 : W0.cell? ⟨nb, 1, none⟩ = some (.slice ja mj jc) := hRj.blk.cell 1
    have f0 : W0.cell? ⟨nb, 0, none⟩ = some (.int .i64 n) := hRj.blk.cell 0
    rcases Nat.lt_or_ge j os.length with hjl | hjl
    · have d1 : decide ((j : Int) < os.length) = true := by simp [hjl]
      obtain ⟨⟨to, cs⟩, hoj⟩ : ∃ y, os[j] = y := ⟨_, rfl⟩
      have hp : Plain cs := by have := HO.out.plain os[j] (List.getElem_mem hjl); rw [hoj] at this; exact this
      have hrow : W0.rangeAt ob (j * 74) (#[Value.int .i64 to] ++ cs).toList := by
        have h := HO.out.at_ j hjl
        rw [hoj] at h
        intro i x hx
        have hx' : (.int .i64 to :: cs.toList)[i]? = some x := by simpa using hx
        exact (huj.cell (p := ⟨ob, j * 74 + i, none⟩) HO.out.lt hob).trans (h i x hx')
      have hsz : (Try.prog.info? 40).map (·.size) = some (#[Value.int .i64 to] ++ cs).size := by rw [Array.size_append, hp.size]; exact out_size
      have hsz2 : zout.size = (#[Value.int .i64 to] ++ cs).size := by rw [Array.size_append, hp.size]; exact zout_size
      have hone : (#[Value.int .i64 to] ++ cs).all (·.oneCell') = true := by rw [Array.all_append, hp.one]; simp [Value.oneCell']
      have hi : (Try.prog.info? 38).map (·.size) = some cs.size := by rw [hp.size]; exact msg_info
      have hblk : Blk (W0.alloc (.cells zout 40)) W0.heap.size 40 zout := Blk.new _ _ _
      have b9 := hblk.row (#[Value.int .i64 to] ++ cs)
      have hu1 : Upd nob W0 ((W0.alloc (.cells zout 40)).setRow W0.heap.size (#[Value.int .i64 to] ++ cs)) := ((Upd.refl nob W0).alloc _).setRow (.inr (Nat.le_refl _)) _
      have hR1 : RefS ((W0.alloc (.cells zout 40)).setRow W0.heap.size (#[Value.int .i64 to] ++ cs)) nb n (.slice ja mj jc) mj xj := hRj.upd hu1 (fun _ _ f => f)
      have d9 : ((W0.alloc (.cells zout 40)).setRow W0.heap.size (#[Value.int .i64 to] ++ cs)).cell? ⟨W0.heap.size, 0, none⟩ = some (.int .i64 to) := (b9.cell 0).trans (by rw [Array.getElem?_append_left (by simp)]; rfl)
      have r9 : ((W0.alloc (.cells zout 40)).setRow W0.heap.size (#[Value.int .i64 to] ++ cs)).rangeAt W0.heap.size 1 cs.toList := b9.range2
      have g0 : ((W0.alloc (.cells zout 40)).setRow W0.heap.size (#[Value.int .i64 to] ++ cs)).cell? ⟨nb, 0, none⟩ = some (.int .i64 n) := hR1.blk.cell 0
      have hjw : IntKind.i64.wrap ((j : Int) + 1) = ((j + 1 : Nat) : Int) := by rw [show ((j : Int) + 1) = ((j + 1 : Nat) : Int) by omega]; exact IntWalk.i64_in _ (by omega)
      have hstep : outAll n src (os.take (j + 1)) (m, xs) = (mj + (sent src to n mj).length, xj ++ mails cs (sent src to n mj)) := by
        rw [outAll_succ n src os (m, xs) j hjl, hmx, hoj]; rfl
      have B9 := Lib.hid b9
      have HR1 := Lib.hid hR1
      have HRj := Lib.hid hRj
      clear b9 hR1 hRj
      by_cases t0 : 0 ≤ to
      · have d2 : decide (0 ≤ to) = true := by simp [t0]
        go_wp2_with (first
          | (refine wpList_mid rfl 40 (.tmp 20) rfl ob (j * 74) rfl _ _ hrow Try.underlying40 rfl hsz ?_)
          | (refine wpList_store_row rfl 40 (.tmp 9) (.tmp 21) rfl W0.heap.size (#[Value.int .i64 to] ++ cs) rfl rfl 40 zout hblk hsz hsz2 hone ?_)
          | (refine wpList_mid rfl 38 (.tmp 29) rfl W0.heap.size 1 rfl cs _ r9 Try.underlying38 rfl hi ?_)
          | (go_at_call 23; refine (put_any nb n src to _ _ _ cs _ HR1.out hp).mono ?_; rintro e w' ⟨sv', rfl, hR2, hb2, hu2⟩))
        case roundEnd =>
          refine ⟨⟨j + 1, by omega, by simp, sv', ?_, ?_, ?_⟩, by simp [intOf]; omega⟩
          · rw [hstep, sent_to n src to mj t0]; exact hR2
          · rcases hb2 with h | ⟨b, h, h'⟩
            · rcases hbj with h2 | ⟨b2, h2, h2'⟩
              · exact .inl (h.trans h2)
              · exact .inr ⟨b2, h.trans h2, h2'⟩
            · have := huj.size
              exact .inr ⟨b, h, by simp at h'; omega⟩
          · have hz1 := huj.size
            refine (huj.trans' hu1 (fun _ _ f => f.elim)).trans' hu2 ?_
            rintro k hk (rfl | h)
            · exact .inl rfl
            · rcases hbj with h2 | ⟨b2, h2, h2'⟩
              · exact .inr (h2.symm.trans h)
              · rw [h2] at h; injection h with h; omega
      · have d2 : decide (0 ≤ to) = false := by simpa using t0
        by_cases t1 : to = -1
        · subst t1
          go_wp2_with (first
            | (refine wpList_mid rfl 40 (.tmp 20) rfl ob (j * 74) rfl _ _ hrow Try.underlying40 rfl hsz ?_)
            | (refine wpList_store_row rfl 40 (.tmp 9) (.tmp 21) rfl W0.heap.size (#[Value.int .i64 (-1)] ++ cs) rfl rfl 40 zout hblk hsz hsz2 hone ?_))
          obtain ⟨W1, hW1⟩ : ∃ W1, ((W0.alloc (.cells zout 40)).setRow W0.heap.size (#[Value.int .i64 (-1)] ++ cs)) = W1 := ⟨_, rfl⟩
          rw [hW1] at B9 HR1 hu1 ⊢
          clear d9 r9 g0 hW1 c0 c1 f0 f1 hblk hrow
          go_loopw [39] (fun v wq => ∃ k : Nat, k ≤ n ∧ v = .int .i64 k ∧ ∃ svk, RefS wq nb n svk (mj + (sent src (-1) k mj).length) (xj ++ mails cs (sent src (-1) k mj)) ∧
              (svk.ownBlock = (Value.slice sa m sc).ownBlock ∨ ∃ b, svk.ownBlock = some b ∧ w.heap.size ≤ b) ∧ Upd (netB nb (.slice sa m sc)) w wq ∧ Blk wq W0.heap.size 40 (#[Value.int .i64 (-1)] ++ cs))
            (fun v _ => n - (intOf v).toNat)
          case atStart =>
            refine ⟨0, Nat.zero_le _, rfl, .slice ja mj jc, ?_, hbj, huj.trans' hu1 (fun _ _ f => f.elim), B9.out⟩
            simpa [sent, upto, mails] using HR1.out
          case round =>
            obtain ⟨k, hk, rfl, svk, hRk, hbk, huk, hok⟩ := hrel
            obtain ⟨ka, kc, rfl⟩ := hRk.form
            have e0 : wr.cell? ⟨W0.heap.size, 0, none⟩ = some (.int .i64 (-1)) := (hok.cell 0).trans (by rw [Array.getElem?_append_left (by simp)]; rfl)
            have r1 : wr.rangeAt W0.heap.size 1 cs.toList := hok.range2
            rcases Nat.lt_or_ge k n with hkn | hkn
            · have d1 : decide ((k : Int) < n) = true := by simp [hkn]
              have HRk := Lib.hid hRk
              have HOk := Lib.hid hok
              clear hRk hok
              go_wp2_with (first
                | (refine wpList_mid rfl 38 (.tmp 45) rfl W0.heap.size 1 rfl cs _ r1 Try.underlying38 rfl hi ?_)
                | (go_at_call 23; refine (put_any nb n src k _ _ _ cs _ HRk.out hp).mono ?_; rintro e w' ⟨sv', rfl, hR2, hb2, hu2⟩))
              case roundEnd =>
                have hz1 := huk.size
                refine ⟨⟨k + 1, by omega, by simp, sv', ?_, ?_, ?_, ?_⟩, by simp [intOf]; omega⟩
                · rw [← sent_put n src k mj hkn, List.length_append, ← Nat.add_assoc]
                  have : mails cs (sent src (-1) k mj ++ putL n src (mj + (sent src (-1) k mj).length) k) = mails cs (sent src (-1) k mj) ++ mails cs (putL n src (mj + (sent src (-1) k mj).length) k) := by simp [mails]
                  rw [this, ← List.append_assoc]
                  exact hR2
                · rcases hb2 with h | ⟨b, h, h'⟩
                  · rcases hbk with h2 | ⟨b2, h2, h2'⟩
                    · exact .inl (h.trans h2)
                    · exact .inr ⟨b2, h.trans h2, h2'⟩
                  · exact .inr ⟨b, h, by omega⟩
                · refine huk.trans' hu2 ?_
                  rintro i hk (rfl | h)
                  · exact .inl rfl
                  · rcases hbk with h2 | ⟨b2, h2, h2'⟩
                    · exact .inr (h2.symm.trans h)
                    · rw [h2] at h; injection h with h; omega
                · refine HOk.out.upd hu2 ?_
                  rintro (h | h)
                  · have := huj.size; omega
                  · exact own_ne HRk.out.row HOk.out (by decide) h
            · have d1 : decide ((k : Int) < n) = false := by simp; omega
              have hkn : k = n := by omega
              subst hkn
              go_wp2_with fail
              case roundEnd =>
                refine ⟨⟨j + 1, by omega, by simp, _, ?_, hbk, huk⟩, by simp [intOf]; omega⟩
                rw [hstep]
                exact hRk
        · have d3 : (to == -1) = false := by simpa using t1
          go_wp2_with (first
            | (refine wpList_mid rfl 40 (.tmp 20) rfl ob (j * 74) rfl _ _ hrow Try.underlying40 rfl hsz ?_)
            | (refine wpList_store_row rfl 40 (.tmp 9) (.tmp 21) rfl W0.heap.size (#[Value.int .i64 to] ++ cs) rfl rfl 40 zout hblk hsz hsz2 hone ?_))
          case roundEnd =>
            refine ⟨⟨j + 1, by omega, by simp, .slice ja mj jc, ?_, hbj, huj.trans' hu1 (fun _ _ f => f.elim)⟩, by simp [intOf]; omega⟩
            rw [hstep, sent_none n src to mj (by omega)]
            simpa [mails] using HR1.out
    · have d1 : decide ((j : Int) < os.length) = false := by simp; omega
      have hje : j = os.length := by omega
      subst hje
      rw [List.take_length] at hmx
      have hle := outAll_le n src os (m, xs)
      rw [hmx] at hle
      have hle : m ≤ mj := hle
      have hsub : IntKind.i64.wrap ((mj : Int) - m) = ((mj - m : Nat) : Int) := by rw [show ((mj : Int) - m) = ((mj - m : Nat) : Int) by omega]; exact IntWalk.i64_in _ (by omega)
      go_wp2_with fail
      go_ret
      exact ⟨rfl, _, hRj, hbj, huj⟩
end Go.Proofs.Ytdpnpkleobjkfaa
