/- A list of mails behind a network; At, Double of the program. -/
import Derived.Test.YtdpnpkleobjkfaaRSend
import Derived.Test.YtdpnpkleobjkfaaNil
namespace Go.Proofs.Ytdpnpkleobjkfaa
open Go.RowKit Go.Shelf
attribute [local go_sem] Oper.semAt_some
set_option maxRecDepth 100000
set_option maxHeartbeats 4000000
set_option linter.unusedSimpArgs false

/-- Mails as cells. -/
def mcells (ms : List (Int × Array Value)) : List Value := ms.flatMap fun p => .int .i64 p.1 :: p.2.toList
def PlainL (ms : List (Int × Array Value)) : Prop := ∀ p ∈ ms, Plain p.2

theorem mcells_app (a b : List (Int × Array Value)) : mcells (a ++ b) = mcells a ++ mcells b := by simp [mcells]
theorem mcells_len : ∀ (ms : List (Int × Array Value)), PlainL ms → (mcells ms).length = ms.length * 74
  | [], _ => rfl
  | p :: ms, h => by
    have h1 := (h p (by simp)).size
    have h2 := mcells_len ms (fun q hq => h q (by simp [hq]))
    simp only [mcells, List.flatMap_cons, List.length_append, List.length_cons, Array.length_toList] at h2 ⊢
    rw [h2, h1]; omega
theorem mcells_get : ∀ (ms : List (Int × Array Value)), PlainL ms → ∀ (j : Nat) (h : j < ms.length) (i : Nat) (x : Value), (#[Value.int .i64 ms[j].1] ++ ms[j].2).toList[i]? = some x → (mcells ms)[j * 74 + i]? = some x
  | [], _, j, h, _, _, _ => absurd h (by simp)
  | p :: ms, hp, 0, h, i, x, hx => by
    have hx' : (Value.int .i64 p.1 :: p.2.toList)[i]? = some x := by simpa using hx
    have hi := (List.getElem?_eq_some_iff.1 hx').1
    simp only [mcells, List.flatMap_cons, Nat.zero_mul, Nat.zero_add]
    rw [List.getElem?_append_left hi]; exact hx'
  | p :: ms, hp, j + 1, h, i, x, hx => by
    have h1 := (hp p (by simp)).size
    have h2 := mcells_get ms (fun q hq => hp q (by simp [hq])) j (by simpa using h) i x (by simpa using hx)
    simp only [mcells, List.flatMap_cons] at h2 ⊢
    rw [List.getElem?_append_right (by simp [h1]; omega)]
    rw [← h2]; congr 1; simp [h1]; omega

theorem own_at {W : World} {e : TypeId} {sv : Value} {ms : List (Int × Array Value)} (h : W.ownsRow 0 e 74 sv ms.length (mcells ms)) (hp : PlainL ms) (j : Nat) (hj : j < ms.length) :
    ∃ g cap, sv = .slice (some ⟨g, 0, none⟩) ms.length cap ∧ ms.length ≤ cap ∧ W.rangeAt g (j * 74) (#[Value.int .i64 ms[j].1] ++ ms[j].2).toList := by
  rcases h.2 with ⟨_, h0⟩ | ⟨g, cap, cur, hv, _, hh, hcap, _, hcs, htk⟩
  · omega
  · refine ⟨g, cap, hv, hcap, ?_⟩
    intro i x hx
    have h1 := mcells_get ms hp j hj i x hx
    rw [← htk] at h1
    rw [List.getElem?_take] at h1
    split at h1
    · rw [cell_of_row W g _ cur e (0, 0) hh]; simpa using h1
    · cases h1

theorem owp_store_blk {P : Program} {o : Oper} {a : Act} {w : World} {Q : Exit → Act → World → Prop} {K : Act → World → Prop} (ty : TypeId) (x y : Operand) (ho : o.op = .store ty x y) (hdst : o.dst = none)
    (g : Nat) (cells : Array Value) (hx : a.eval x = .pointer (some ⟨g, 0, none⟩)) (hy : a.eval y = .agg cells)
    (t : TypeId) (old : Array Value) (hg : Blk w g t old) (hi : (P.info? ty).map (·.size) = some cells.size)
    (hold : old.size = cells.size) (h1 : cells.all (·.oneCell') = true) (h : K a (w.setRow g cells)) : o.wp P a w K Q := by
  obtain ⟨r, hr, hc⟩ := run_store_blk (P := P) (w := w) ty x y ho g cells hx hy t old hg hi hold h1
  unfold Oper.wp
  rw [hr]
  rcases hc with rfl | rfl
  · simp only [Oper.upon]; rw [hdst]; exact h
  · simp only [Oper.upon]; rw [hdst]; exact h

theorem mail_row {cs : Array Value} (hp : Plain cs) (i : Int) : (#[Value.int .i64 i] ++ cs).size = 74 ∧ (#[Value.int .i64 i] ++ cs).all (·.oneCell') = true := by
  refine ⟨by rw [Array.size_append, hp.size]; rfl, ?_⟩
  rw [Array.all_append, hp.one]; simp [Value.oneCell']

/-- 'own' of a mail without lists. -/
theorem own_mail (i : Int) (cs : Array Value) (hp : Plain cs) (w : World) : Calls Try.prog 26 #[.agg (#[.int .i64 i] ++ cs)] w fun e w' => e = .returned (.agg (#[.int .i64 i] ++ cs)) ∧ Below w.heap.size w w' := by
  have hz := zero_mail
  have hcl := hp.size
  have b0 : Blk ((w.alloc (.cells (#[.int .i64 i] ++ cs) 49)).alloc (.cells zout 49)) w.heap.size 49 (#[.int .i64 i] ++ cs) := (Blk.new w _ _).alloc _
  have b1 : Blk ((w.alloc (.cells (#[.int .i64 i] ++ cs) 49)).alloc (.cells zout 49)) (w.heap.size + 1) 49 zout := by
    have := Blk.new (w.alloc (.cells (#[.int .i64 i] ++ cs) 49)) 49 zout
    rwa [World.size_alloc] at this
  go_enter Try.func26, Try.ntmps26
  go_wp2_with fail
  obtain ⟨W, hW⟩ : ∃ W, ((w.alloc (.cells (#[.int .i64 i] ++ cs) 49)).alloc (.cells zout 49)) = W := ⟨_, rfl⟩
  have hu0 : Upd nob w W := by rw [← hW]; exact ((Upd.refl nob w).alloc _).alloc _
  have hsz : w.heap.size + 1 < W.heap.size := by rw [← hW]; simp
  rw [hW] at b0 b1 ⊢
  clear hW
  have s1 : W.cell? ⟨w.heap.size, 0, none⟩ = some (.int .i64 i) := (b0.cell 0).trans (by rw [Array.getElem?_append_left (by simp)]; rfl)
  have s2 : W.rangeAt w.heap.size 1 cs.toList := b0.range2
  refine wp_region_D (S := fun X => X.cell? ⟨w.heap.size, 0, none⟩ = some (.int .i64 i) ∧ X.rangeAt w.heap.size 1 cs.toList ∧ Upd nob W X) 6 (by kernel_rfl) ?_
  have hS : W.drew.cell? ⟨w.heap.size, 0, none⟩ = some (.int .i64 i) ∧ W.drew.rangeAt w.heap.size 1 cs.toList ∧ Upd nob W W.drew := ⟨s1, s2, (Upd.refl _ _).drew⟩
  have B1 := Lib.hid b1
  have HP := Lib.hid hp
  have hi : (Try.prog.info? 38).map (·.size) = some cs.size := by rw [hcl]; exact msg_info
  clear s1 s2 b0 b1 hp
  refine wpAnyD_take (i := 0) (v := ?_) rfl (by kernel_rfl) (by kernel_rfl) (by kernel_rfl) (by kernel_rfl) (fun _ _ _ h => h) (Or.inl ⟨by rfl, ?_⟩) hS ?_
  rotate_left
  · rintro wx ⟨s1, s2, s3⟩
    go_simp
    with_reducible rfl
  try simp only [List.getElem_toArray, List.getElem_cons_succ, List.getElem_cons_zero, Act.put, List.setIfInBounds_toArray, List.set_cons_zero, List.set_cons_succ]
  refine wpAnyD_take (i := 1) (v := ?_) rfl (by kernel_rfl) (by kernel_rfl) (by kernel_rfl) (by kernel_rfl) (fun _ _ _ h => h) (Or.inl ⟨by rfl, ?_⟩) hS ?_
  rotate_left
  · rintro wx ⟨s1, s2, s3⟩
    go_simp
    with_reducible rfl
  try simp only [List.getElem_toArray, List.getElem_cons_succ, List.getElem_cons_zero, Act.put, List.setIfInBounds_toArray, List.set_cons_zero, List.set_cons_succ]
  refine wpAnyD_take (i := 2) (v := ?_) rfl (by kernel_rfl) (by kernel_rfl) (by kernel_rfl) (by kernel_rfl) (fun _ _ _ h => h) (Or.inl ⟨by rfl, ?_⟩) hS ?_
  rotate_left
  · rintro wx ⟨s1, s2, s3⟩
    go_simp
    with_reducible rfl
  try simp only [List.getElem_toArray, List.getElem_cons_succ, List.getElem_cons_zero, Act.put, List.setIfInBounds_toArray, List.set_cons_zero, List.set_cons_succ]
  refine wpAnyD_take (i := 3) (v := (.agg cs)) rfl (by kernel_rfl) (by kernel_rfl) (by kernel_rfl) (by kernel_rfl) (fun _ _ _ h => h) (Or.inl ⟨by rfl, ?_⟩) hS ?_
  · rintro wx ⟨s1, s2, s3⟩
    refine run_load_mid 38 (.tmp 5) ?_ w.heap.size 1 ?_ _ _ s2 Try.underlying38 ?_ ?_
    · rfl
    · rfl
    · rfl
    · exact hi
  try simp only [List.getElem_toArray, List.getElem_cons_succ, List.getElem_cons_zero, Act.put, List.setIfInBounds_toArray, List.set_cons_zero, List.set_cons_succ]
  refine wpAnyD_one (i := 4) (by kernel_rfl) rfl rfl fun K hK => ?_
  go_simp
  refine (own_plain cs _ HP.out).mono ?_
  rintro e w5 ⟨rfl, hb5⟩
  have hS : w5.cell? ⟨w.heap.size, 0, none⟩ = some (.int .i64 i) ∧ w5.rangeAt w.heap.size 1 cs.toList ∧ Upd nob W w5 := by
    obtain ⟨s1, s2, s3⟩ := hS
    have hl := s3.size
    exact ⟨(hb5.cell (by simp; omega)).trans s1, fun j x hx => (hb5.cell (by simp; omega)).trans (s2 j x hx), s3.trans (Upd.of_below hb5)⟩
  refine hK _ _ (fun _ => hS) ?_
  clear hK K
  try simp only [List.getElem_toArray, List.getElem_cons_succ, List.getElem_cons_zero, Act.put, List.setIfInBounds_toArray, List.set_cons_zero, List.set_cons_succ]
  refine wpAnyD_take (i := 5) (v := (.agg (#[.int .i64 i] ++ cs))) rfl (by kernel_rfl) (by kernel_rfl) (by kernel_rfl) (by kernel_rfl) (fun _ _ _ h => h) (Or.inl ⟨by rfl, ?_⟩) hS ?_
  · rintro wx ⟨s1, s2, s3⟩
    refine run_build_op 49 #[(0, .tmp 4), (1, .tmp 7)] ?_ _ ?_
    · rfl
    · refine (congrArg (fun l => Try.prog.built 49 l) ?_).trans (built_mail i cs hcl)
      simp [Act.eval]
  try simp only [List.getElem_toArray, List.getElem_cons_succ, List.getElem_cons_zero, Act.put, List.setIfInBounds_toArray, List.set_cons_zero, List.set_cons_succ]
  refine wpAnyD_one (i := 6) (by kernel_rfl) rfl rfl fun K hK => ?_
  have hu5 : Upd nob W w5 := hS.2.2
  refine owp_store_blk 49 (.tmp 2) (.tmp 8) rfl rfl (w.heap.size + 1) (#[.int .i64 i] ++ cs) rfl rfl 49 zout (B1.out.upd hu5 (fun f => f)) ?_ (by rw [zout_size, (mail_row HP.out i).1]) (mail_row HP.out i).2 ?_
  · rw [(mail_row HP.out i).1, ← zout_size]; exact mail_size
  refine hK _ _ (fun h => absurd rfl h) ?_
  clear hK K
  try simp only [List.getElem_toArray, List.getElem_cons_succ, List.getElem_cons_zero, Act.put, List.setIfInBounds_toArray, List.set_cons_zero, List.set_cons_succ]
  refine wpAnyD_done (by kernel_rfl) ?_ _
  refine NoPanic.normal ?_
  go_wp2_with fail
  have b9 : Blk (w5.setRow (w.heap.size + 1) (#[.int .i64 i] ++ cs)) (w.heap.size + 1) 49 (#[.int .i64 i] ++ cs) := (B1.out.upd hu5 (fun f => f)).row _
  refine bodyPost_ret (results_cell_row rfl _ _ (w.heap.size + 1) 49 (#[Value.int .i64 i] ++ cs) (0, 0) _ rfl b9 Try.underlying49 rfl ?_) rfl ?_
  · rw [(mail_row HP.out i).1, ← zout_size]; exact mail_size
  · exact ⟨rfl, ((hu0.trans hu5).setRow (.inr (by omega)) _).below⟩

theorem mail_size' {cs : Array Value} (hp : Plain cs) (i : Int) : (Try.prog.info? 49).map (·.size) = some (#[Value.int .i64 i] ++ cs).size := by rw [(mail_row hp i).1, ← zout_size]; exact mail_size

/-- What At tells. -/
def atR (ms : List (Int × Array Value)) (i : Int) : Array Value := match ms[i.toNat]? with | some p => if 0 ≤ i then #[Value.int .i64 p.1] ++ p.2 else zout | none => zout
def inR (ms : List (Int × Array Value)) (i : Int) : Bool := decide (0 ≤ i) && decide (i < ms.length)

theorem atR_in {ms : List (Int × Array Value)} {i : Int} (h0 : 0 ≤ i) (h1 : i.toNat < ms.length) : atR ms i = #[Value.int .i64 ms[i.toNat].1] ++ ms[i.toNat].2 := by
  unfold atR; rw [List.getElem?_eq_getElem h1]; simp [h0]
theorem atR_out {ms : List (Int × Array Value)} {i : Int} (h : inR ms i = false) : atR ms i = zout := by
  unfold atR
  split
  · rename_i p hp
    have := (List.getElem?_eq_some_iff.1 hp).1
    rw [if_neg]
    intro h0
    simp [inR, h0] at h; omega
  · rfl

/-- 'At' of a network. -/
theorem at_any (nb n : Nat) (sv : Value) (ms : List (Int × Array Value)) (i : Int) (w : World) (hN : NetS w nb n sv ms.length (mcells ms)) (hp : PlainL ms) :
    Calls Try.prog 17 #[.pointer (some ⟨nb, 0, none⟩), .int .i64 i] w fun e w' => e = .returned (.tuple #[.agg (atR ms i), .bool (inR ms i)]) ∧ Below w.heap.size w w' := by
  have hz := zero_mail
  have hb := Blk.new w 49 zout
  have hu1 : Upd nob w (w.alloc (.cells zout 49)) := (Upd.refl nob w).alloc _
  obtain ⟨sa, sc, rfl⟩ := svi_form hN
  have hl := hN.blk.lt
  have hN1 := hN.upd hu1 (fun _ _ f => f)
  have c1 : (w.alloc (.cells zout 49)).cell? ⟨nb, 1, none⟩ = some (.slice sa ms.length sc) := hN1.blk.cell 1
  have hbn := hN1.blk
  by_cases h0 : 0 ≤ i
  · by_cases h1 : i < ms.length
    · have d1 : decide (i < 0) = false := by simp; omega
      have d2 : decide ((ms.length : Int) ≤ i) = false := by simp; omega
      have hin : inR ms i = true := by simp [inR, h0, h1]
      have hlt : i.toNat < ms.length := by omega
      rw [hin, atR_in h0 hlt]
      obtain ⟨g, cap, hsv, hcap, hrow⟩ := own_at hN1.row hp i.toNat hlt
      injection hsv with e1 e2 e3
      subst e1
      obtain ⟨⟨to, cs⟩, hoj⟩ : ∃ y, ms[i.toNat] = y := ⟨_, rfl⟩
      have hpc : Plain cs := by have := hp ms[i.toNat] (List.getElem_mem hlt); rw [hoj] at this; exact this
      rw [hoj] at hrow ⊢
      simp only at hrow ⊢
      obtain ⟨k, rfl⟩ : ∃ k : Nat, i = k := ⟨i.toNat, by omega⟩
      simp only [Int.toNat_natCast] at hrow
      have d3 : decide (0 ≤ (k : Int)) = true := by simp
      have d4 : decide ((k : Int) < ms.length) = true := by simp; omega
      have HN := Lib.hid hN
      have HN1 := Lib.hid hN1
      clear hN hN1 hoj
      go_enter Try.func17, Try.ntmps17
      go_wp2_with (first
        | (go_at_call 10; refine (len_any nb n _ _ _ _ hbn).mono ?_; rintro e w' ⟨rfl, rfl⟩)
        | (refine wpList_mid rfl 49 (.tmp 20) rfl g (k * 74) rfl _ _ hrow Try.underlying49 rfl (mail_size' hpc to) ?_))
      refine (own_mail to cs hpc _).mono ?_
      rintro e w5 ⟨rfl, hb5⟩
      have hub : Upd nob (w.alloc (.cells zout 49)) w5 := Upd.of_below hb5
      have b5 : Blk w5 w.heap.size 49 zout := hb.upd hub (fun f => f)
      have hsz : zout.size = (#[Value.int .i64 to] ++ cs).size := by rw [(mail_row hpc to).1]; exact zout_size
      have hone := (mail_row hpc to).2
      go_wp2_with (first
        | (refine wpList_store_row rfl 49 (.tmp 4) (.tmp 22) rfl w.heap.size (#[Value.int .i64 to] ++ cs) rfl rfl 49 zout b5 (mail_size' hpc to) hsz hone ?_))
      refine bodyPost_ret (results_blk_tmp rfl _ _ w.heap.size 49 (#[Value.int .i64 to] ++ cs) _ rfl (b5.row _) Try.underlying49 rfl (mail_size' hpc to)) rfl ?_
      exact ⟨rfl, ((hu1.trans hub).setRow (.inr (Nat.le_refl _)) _).below⟩
    · have d1 : decide (i < 0) = false := by simp; omega
      have d2 : decide ((ms.length : Int) ≤ i) = true := by simp; omega
      have hin : inR ms i = false := by simp [inR]; omega
      rw [atR_out hin, hin]
      go_enter Try.func17, Try.ntmps17
      go_wp2_with (first
        | (go_at_call 10; refine (len_any nb n _ _ _ _ hbn).mono ?_; rintro e w' ⟨rfl, rfl⟩)
        | (refine wpList_store_row rfl 49 (.tmp 4) (.tmp 14) rfl w.heap.size zout rfl rfl 49 zout hb mail_size rfl zout_one ?_))
      refine bodyPost_ret (results_blk_tmp rfl _ _ w.heap.size 49 zout _ rfl (hb.row zout) Try.underlying49 rfl mail_size) rfl ?_
      exact ⟨rfl, (hu1.setRow (.inr (Nat.le_refl _)) _).below⟩
  · have d1 : decide (i < 0) = true := by simp; omega
    have hin : inR ms i = false := by simp [inR]; omega
    rw [atR_out hin, hin]
    go_enter Try.func17, Try.ntmps17
    go_wp2_with (first
      | (go_at_call 10; refine (len_any nb n _ _ _ _ hbn).mono ?_; rintro e w' ⟨rfl, rfl⟩)
      | (refine wpList_store_row rfl 49 (.tmp 4) (.tmp 14) rfl w.heap.size zout rfl rfl 49 zout hb mail_size rfl zout_one ?_))
    refine bodyPost_ret (results_blk_tmp rfl _ _ w.heap.size 49 zout _ rfl (hb.row zout) Try.underlying49 rfl mail_size) rfl ?_
    exact ⟨rfl, (hu1.setRow (.inr (Nat.le_refl _)) _).below⟩
end Go.Proofs.Ytdpnpkleobjkfaa
