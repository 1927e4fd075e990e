/- Texts put one behind the other: Trev, Spine, Held, Wapply, Winst, Glob, Find, Wsteps, Wsteps2. -/
import Derived.Test.YtiampoebdmflgaaGreatF2
import Derived.Deep.LoopGhost
import Derived.Test.YtiampoebdmflgaaGreatF3
import Derived.Test.YtiampoebdmflgaaGreatF4
import Derived.MapKept
/- slices.Reverse of a row of terms. -/
namespace Go.Proofs.YtiampoebdmflgaaGreat
open Go.RowKit
set_option linter.unusedVariables false
set_option maxRecDepth 100000
set_option maxHeartbeats 4000000
set_option linter.unusedSimpArgs false
theorem wpAnyE_of_any {P : Program} {md : Region.Mode} {ops : Array Oper} {Q : Exit → Act → World → Prop} {z : Nat} : ∀ {fuel : Nat} {listed : Array Bool} {a : Act} {w : World}, wpAny P md ops Q fuel listed a w → wpAnyE P md ops Q (fun _ => True) z fuel listed a w
 | 0, _, _, _, h => h
 | fuel + 1, _, _, _, h => ⟨h.1, fun i hi => wpOp_mono (fun a' w' h' => ⟨fun _ => ⟨trivial, wpAnyE_of_any h'⟩, fun _ => h'⟩) (h.2 i hi)⟩
theorem owp_run {P : Program} {o : Oper} {a : Act} {w : World} {K : Act → World → Prop} {Q : Exit → Act → World → Prop} {v : Value} (hr : (execOp a.eval o).run P w = .ok (.value v) w) (h : K (a.put o.dst v) w) : o.wp P a w K Q := by
 unfold Oper.wp; rw [hr]; exact h
theorem add_at (g k : Nat) : Addr.add ⟨g, 0, none⟩ k = ⟨g, k, none⟩ := by unfold Addr.add; split <;> simp_all
theorem cat_set : ∀ (rows : List (Array Value)) (n : Nat), (∀ r ∈ rows, r.size = n) → ∀ (i : Nat) (_ : i < rows.length) (r' : Array Value), r'.size = n → cat (rows.set i r') = (cat rows).take (i * n) ++ r'.toList ++ (cat rows).drop (i * n + n)
 | [], _, _, _, hi, _, _ => absurd hi (by simp)
 | r :: rows, n, hs, 0, _, r', hr' => by
  have h1 : r.toList.length = n := by simpa using hs r (by simp)
  simp only [List.set_cons_zero, cat, List.flatMap_cons, Nat.zero_mul, List.take_zero, List.nil_append, Nat.zero_add]
  rw [List.drop_left' h1]
 | r :: rows, n, hs, i + 1, hi, r', hr' => by
  have h1 : r.toList.length = n := by simpa using hs r (by simp)
  have h2 := cat_set rows n (fun q hq => hs q (by simp [hq])) i (by simpa using hi) r' hr'
  have e : (i + 1) * n = n + i * n := by rw [Nat.succ_mul]; omega
  simp only [List.set_cons_succ, cat, List.flatMap_cons] at h2 ⊢
  obtain ⟨X, hX⟩ : ∃ X, List.flatMap (fun x : Array Value => x.toList) rows = X := ⟨_, rfl⟩
  rw [hX] at h2 ⊢
  have e3 : (r.toList ++ X).take (n + i * n) = r.toList ++ X.take (i * n) := by
   rw [List.take_append, List.take_of_length_le (by omega), h1, Nat.add_sub_cancel_left]
  have e4 : (r.toList ++ X).drop (n + i * n + n) = X.drop (i * n + n) := by
   rw [List.drop_append, List.drop_eq_nil_of_le (by omega), h1, List.nil_append]; congr 1; omega
  rw [h2, e, e3, e4]
  simp [List.append_assoc]
theorem Rows.setAt {w : World} {base : Nat} {e : TypeId} {n : Nat} {v : Value} {rows : List (Array Value)} (h : Rows w base e n v rows) {i : Nat} (hi : i < rows.length) :
    ∃ g cap cur, v = .slice (some ⟨g, 0, none⟩) rows.length cap ∧ Blk w g e cur ∧ base ≤ g ∧ i * n + n ≤ cur.size ∧
     ∀ r' : Array Value, r'.size = n → ∀ w', Blk w' g e (cur.toList.take (i * n) ++ r'.toList ++ cur.toList.drop (i * n + r'.size)).toArray → Rows w' base e n v (rows.set i r') := by
 rcases h.own.2 with ⟨_, h0⟩ | ⟨g, cap, cur, hv, hb, hh, h1, h2, h3, h4⟩
 · omega
 have hlen := h.own.1
 have hle : rows.length * n ≤ cap * n := Nat.mul_le_mul_right _ h1
 have hin : i * n + n ≤ rows.length * n := by rw [← Nat.succ_mul]; exact Nat.mul_le_mul_right _ hi
 refine ⟨g, cap, cur, hv, hh, hb, by omega, fun r' hr' w' hb' => ?_⟩
 have hrl' : r'.toList.length = n := by simpa using hr'
 have hcs := cat_set rows n h.sz i hi r' hr'
 refine ⟨⟨?_, .inr ⟨g, cap, _, by rw [List.length_set]; exact hv, hb, hb', by rw [List.length_set]; exact h1, h2, ?_, ?_⟩⟩, ?_⟩
 · rw [hcs, List.length_set, List.length_append, List.length_append, List.length_take, List.length_drop, hrl', hlen]; omega
 · simp only [List.size_toArray, List.length_append, List.length_take, List.length_drop, Array.length_toList, hr']
   omega
 · rw [List.length_set, hcs]
   simp only []
   have hcl : cur.toList.length = cap * n := by simpa using h3
   have hXl : (cur.toList.take (i * n) ++ r'.toList).length = i * n + n := by rw [List.length_append, List.length_take, hrl', Nat.min_eq_left (by omega)]
   rw [← h4, List.take_take, Nat.min_eq_left (by omega), hr', List.drop_take, List.take_append, List.take_of_length_le (by omega), hXl]
 intro q hq
 rcases List.mem_or_eq_of_mem_set hq with hq | rfl
 · exact h.sz q hq
 exact hr'
def RevTo {α : Type} (rows : List α) (q : Nat) (L : List α) : Prop := L.length = rows.length ∧ ∀ i, i < rows.length → L[i]? = if i < q ∨ rows.length ≤ i + q then rows[rows.length - 1 - i]? else rows[i]?
theorem RevTo.zero {α : Type} (rows : List α) : RevTo rows 0 rows := ⟨rfl, fun i hi => by rw [if_neg (by omega)]⟩
theorem RevTo.step {α : Type} {rows L : List α} {q p : Nat} (h : RevTo rows q L) (hp : p = rows.length - 1 - q) (hq : q < p) (h1 : q < L.length) (h2 : p < L.length) : RevTo rows (q + 1) ((L.set q L[p]).set p L[q]) := by
 refine ⟨by simp [h.1], fun i hi => ?_⟩
 have hl := h.1
 have e1 := h.2 q (by omega)
 have e2 := h.2 p (by omega)
 rw [List.getElem?_eq_getElem h1, if_neg (by omega)] at e1
 rw [List.getElem?_eq_getElem h2, if_neg (by omega)] at e2
 rw [List.getElem?_set, List.getElem?_set]
 by_cases hi1 : p = i
 · rw [if_pos hi1, if_pos (by simp; omega), if_pos (by omega), e1]
   congr 1; omega
 rw [if_neg hi1]
 by_cases hi2 : q = i
 · rw [if_pos hi2, if_pos h1, if_pos (by omega), e2]
   congr 1; omega
 rw [if_neg hi2, h.2 i hi]
 by_cases h3 : i < q ∨ rows.length ≤ i + q
 · rw [if_pos h3, if_pos (by omega)]
 rw [if_neg h3, if_neg (by omega)]
theorem RevTo.end_ {α : Type} {rows L : List α} {q : Nat} (h : RevTo rows q L) (hq : rows.length ≤ 2 * q + 1) : L = rows.reverse := by
 apply List.ext_getElem?
 intro i
 rcases Nat.lt_or_ge i rows.length with hi | hi
 · rw [h.2 i hi, List.getElem?_reverse hi]
   split
   · rfl
   congr 1; omega
 rw [List.getElem?_eq_none (by rw [h.1]; exact hi), List.getElem?_eq_none (by simpa using hi)]
theorem trev_any (rows : List (Array Value)) (v : Value) (base : Nat) (w : World) (hr : Rows w base 28 8 v rows) (hone : ∀ r ∈ rows, r.all (·.oneCell') = true) (hlen : rows.length ≤ 140737488355328) :
    Calls Tryz.prog 99 #[v] w fun e w' => e = .returned (.tuple #[]) ∧ Rows w' base 28 8 v rows.reverse ∧ Upd (fun q => v.ownBlock = some q) w w' := by
 obtain ⟨A, c, rfl, hc⟩ := hr.form
 obtain ⟨m, hm⟩ : ∃ m, rows.length = m := ⟨_, rfl⟩
 rw [hm] at hr hc hlen ⊢
 have hsub : IntKind.i64.wrap ((m : Int) - 1) = (m : Int) - 1 := IntWalk.i64_in _ (by omega)
 have HM := Lib.hid hm; clear hm
 have HR := Lib.hid hr; clear hr
 go_enter Tryz.func99, Tryz.ntmps99
 go_wp2_with fail
 go_loopg [2, 3] m (fun k v2 v3 wr => ∃ (q : Nat) (L : List (Array Value)), q + k = m ∧ v2 = .int .i64 q ∧ v3 = .int .i64 ((m : Int) - 1 - q) ∧ Rows wr base 28 8 (.slice A m c) L ∧ RevTo rows q L ∧ (∀ r ∈ L, r.all (·.oneCell') = true) ∧ Upd (fun x => (Value.slice A m c).ownBlock = some x) w wr)
 case atStart => exact ⟨0, rows, by omega, rfl, by simp, HR.out, RevTo.zero _, hone, Upd.refl _ _⟩
 case round =>
  obtain ⟨q, L, hq, rfl, rfl, hL, hrev, honeL, hu⟩ := hrel
  have hLl : L.length = m := by rw [hrev.1, HM.out]
  by_cases hlt : 2 * q + 1 < m
  · obtain ⟨p, hp⟩ : ∃ p : Nat, (m : Int) - 1 - q = p := ⟨m - 1 - q, by omega⟩
    have hp2 : p = m - 1 - q := by omega
    rw [hp]
    have hqp : q < p := by omega
    have hpm : p < m := by omega
    have hqm : q < m := by omega
    have t1 : decide ((q : Int) < p) = true := by simp [hqp]
    obtain ⟨g, cap, hv, hrp⟩ := hL.at_ (j := p) (by omega)
    obtain ⟨g2, cap2, hv2, hrq⟩ := hL.at_ (j := q) (by omega)
    have hA : A = some ⟨g, 0, none⟩ := by injection hv
    have hA2 : A = some ⟨g2, 0, none⟩ := by injection hv2
    have hgg : g = g2 := by rw [hA] at hA2; simpa using hA2
    clear hv hv2 hA2
    subst hgg hA
    have hgl := (hL.lt (g := g) rfl).2
    have hsp0 : (L[p]'(by omega)).size = 8 := hL.sz _ (List.getElem_mem _)
    have hsq0 : (L[q]'(by omega)).size = 8 := hL.sz _ (List.getElem_mem _)
    have hop0 : (L[p]'(by omega)).all (·.oneCell') = true := honeL _ (List.getElem_mem _)
    have hoq0 : (L[q]'(by omega)).all (·.oneCell') = true := honeL _ (List.getElem_mem _)
    have hLp : L[p]? = some (L[p]'(by omega)) := List.getElem?_eq_getElem _
    have hLq : L[q]? = some (L[q]'(by omega)) := List.getElem?_eq_getElem _
    obtain ⟨rp, ep⟩ : ∃ r, L[p]'(by omega) = r := ⟨_, rfl⟩
    obtain ⟨rq, eq⟩ : ∃ r, L[q]'(by omega) = r := ⟨_, rfl⟩
    rw [ep] at hrp hsp0 hop0 hLp
    rw [eq] at hrq hsq0 hoq0 hLq
    clear ep eq
    have hsp : (Tryz.prog.info? 28).map (·.size) = some rp.size := by rw [hsp0]; exact tm_size
    have hsq : (Tryz.prog.info? 28).map (·.size) = some rq.size := by rw [hsq0]; exact tm_size
    have hi1 : IntKind.i64.wrap ((q : Int) + 1) = (q : Int) + 1 := IntWalk.i64_in _ (by omega)
    have hi2 : IntKind.i64.wrap ((p : Int) - 1) = (p : Int) - 1 := IntWalk.i64_in _ (by omega)
    have HL := Lib.hid hL
    have HP := Lib.hid hp
    have HP2 := Lib.hid hp2
    have HLL := Lib.hid hLl
    have HREV := Lib.hid hrev
    have HLP := Lib.hid hLp
    have HLQ := Lib.hid hLq
    clear hL hp hp2 hLl hrev hLp hLq
    go_wp2_with fail
    refine wp_region_P (by kernel_rfl) ?_
    refine wpAny_of_E (fun _ => True) 15 _ _ _ _ ?_
    have hS : True := trivial
    refine eT 2 ?_ [] rfl (by kernel_rfl) (by rfl) ?_ hS ?_
    rotate_left; · intro wx hx; clear hx; go_simp; with_reducible rfl
    try simp only [tl]
    refine eT 3 ?_ [] rfl (by kernel_rfl) (by rfl) ?_ hS ?_
    rotate_left; · intro wx hx; clear hx; go_simp; with_reducible rfl
    try simp only [tl]
    refine wpAnyE_of_any ?_
    clear hS
    refine wpAny_of_E (fun X : World => ∀ p : Addr, p.block < wr.heap.size → X.cell? p = wr.cell? p) 13 _ _ _ _ ?_
    have hS : ∀ p : Addr, p.block < wr.heap.size → wr.drew.cell? p = wr.cell? p := fun _ _ => rfl
    refine eT 0 ?_ [] rfl (by kernel_rfl) (by rfl) ?_ hS ?_
    rotate_left; · intro wx hx; clear hx; go_simp; with_reducible rfl
    try simp only [tl]
    refine eT 1 ?_ [] rfl (by kernel_rfl) (by rfl) ?_ hS ?_
    rotate_left; · intro wx hx; clear hx; go_simp; with_reducible rfl
    try simp only [tl]
    refine eT 4 ?_ [] rfl (by kernel_rfl) (by rfl) ?_ hS ?_
    rotate_left; · intro wx hx; clear hx; go_simp; with_reducible rfl
    try simp only [tl]
    refine eT 5 ?_ [] rfl (by kernel_rfl) (by rfl) ?_ hS ?_
    rotate_left; · intro wx hx; clear hx; go_simp; with_reducible rfl
    try simp only [tl]
    refine eT 6 (.pointer (some (Addr.add ⟨g, 0, none⟩ (p * 8)))) [] rfl (by kernel_rfl) (by rfl) ?_ hS ?_
    · intro wx hx
      exact run_index_at 26 (.tmp 18) (.tmp 19) rfl _ ⟨g, 0, none⟩ _ _ rfl rfl p rfl hpm 28 Tryz.underlying26 8 tm_size
    try simp only [tl]
    refine eT 7 (.agg rp) [] rfl (by kernel_rfl) (by rfl) ?_ hS ?_
    · intro wx hx
      exact run_load_at 28 (.tmp 20) rfl (Addr.add ⟨g, 0, none⟩ (p * 8)) rfl rp _ (row_on hrp (by rw [Addr_add_block]; exact hgl) hx) Tryz.underlying28 rfl hsp
    try simp only [tl]
    refine eT 8 ?_ [11, 10] rfl (by kernel_rfl) (by rfl) ?_ hS ?_
    rotate_left; · intro wx hx; clear hx; go_simp; with_reducible rfl
    try simp only [tl]
    refine eT 9 ?_ [11, 10] rfl (by kernel_rfl) (by rfl) ?_ hS ?_
    rotate_left; · intro wx hx; clear hx; go_simp; with_reducible rfl
    try simp only [tl]
    refine eT 10 (.pointer (some (Addr.add ⟨g, 0, none⟩ (q * 8)))) [11] rfl (by kernel_rfl) (by rfl) ?_ hS ?_
    · intro wx hx
      exact run_index_at 26 (.tmp 22) (.tmp 23) rfl _ ⟨g, 0, none⟩ _ _ rfl rfl q rfl hqm 28 Tryz.underlying26 8 tm_size
    try simp only [tl]
    refine eT 11 (.agg rq) [] rfl (by kernel_rfl) (by rfl) ?_ hS ?_
    · intro wx hx
      exact run_load_at 28 (.tmp 24) rfl (Addr.add ⟨g, 0, none⟩ (q * 8)) rfl rq _ (row_on hrq (by rw [Addr_add_block]; exact hgl) hx) Tryz.underlying28 rfl hsq
    try simp only [tl]
    refine eT 12 (.pointer (some (Addr.add ⟨g, 0, none⟩ (q * 8)))) [] rfl (by kernel_rfl) (by rfl) ?_ hS ?_
    · intro wx hx
      exact run_index_at 26 (.tmp 14) (.tmp 15) rfl _ ⟨g, 0, none⟩ _ _ rfl rfl q rfl hqm 28 Tryz.underlying26 8 tm_size
    try simp only [tl]
    have haddq : Addr.add ⟨g, 0, none⟩ (q * 8) = ⟨g, q * 8, none⟩ := add_at _ _
    have haddp : Addr.add ⟨g, 0, none⟩ (p * 8) = ⟨g, p * 8, none⟩ := add_at _ _
    rw [haddq, haddp]
    obtain ⟨ga, capa, cura, hva, hba, hga, hsza, hseta⟩ := HL.out.setAt (i := q) (by have := HLL.out; omega)
    obtain rfl : g = ga := by injection hva with h _ _; injection h with h; injection h
    clear hva
    obtain ⟨na, hna⟩ : ∃ na, na = (cura.toList.take (q * 8) ++ rp.toList ++ cura.toList.drop (q * 8 + rp.size)).toArray := ⟨_, rfl⟩
    have hr1 : Rows (wr.drew.setRow g na) base 28 8 (.slice (some ⟨g, 0, none⟩) m c) (L.set q rp) := hseta rp hsp0 _ (by rw [← hna]; exact (show Blk wr.drew g 28 cura from hba).row _)
    obtain ⟨gb, capb, curb, hvb, hbb, hgb, hszb, hsetb⟩ := hr1.setAt (i := p) (by rw [List.length_set]; have := HLL.out; omega)
    obtain rfl : g = gb := by injection hvb with h _ _; injection h with h; injection h
    clear hvb
    obtain ⟨nb, hnb⟩ : ∃ nb, nb = (curb.toList.take (p * 8) ++ rq.toList ++ curb.toList.drop (p * 8 + rq.size)).toArray := ⟨_, rfl⟩
    have hr2 : Rows ((wr.drew.setRow g na).setRow g nb) base 28 8 (.slice (some ⟨g, 0, none⟩) m c) ((L.set q rp).set p rq) := hsetb rq hsq0 _ (by rw [← hnb]; exact hbb.row _)
    have huF : Upd (fun x => (Value.slice (some ⟨g, 0, none⟩) m c).ownBlock = some x) wr ((wr.drew.setRow g na).setRow g nb) := ((Upd.refl (fun x => (Value.slice (some ⟨g, 0, none⟩) m c).ownBlock = some x) wr).drew.setRow (.inl rfl) _).setRow (.inl rfl) _
    have HNA := Lib.hid hna
    have HNB := Lib.hid hnb
    clear hna hnb
    refine wpAnyE_z (by kernel_rfl) rfl (by rfl) fun K hK => ?_
    refine owp_store_part 28 (.tmp 26) (.tmp 21) rfl g (q * 8) rp (by rfl) (by rfl) 28 cura na hba hsp (by omega) hop0 HNA.out ?_
    refine hK _ _ ?_
    clear hK K; try simp only [tl]
    refine wpAny_one (i := 14) (by kernel_rfl) rfl (by rfl) fun K hK => ?_
    refine owp_run (run_index_at 26 (.tmp 16) (.tmp 17) rfl _ ⟨g, 0, none⟩ _ _ rfl rfl p rfl hpm 28 Tryz.underlying26 8 tm_size) ?_
    rw [haddp]
    refine hK _ _ ?_
    clear hK K; try simp only [tl]
    refine wpAny_one (i := 15) (by kernel_rfl) rfl (by rfl) fun K hK => ?_
    refine owp_store_part 28 (.tmp 27) (.tmp 25) rfl g (p * 8) rq (by rfl) (by rfl) 28 curb nb hbb hsq (by omega) hoq0 HNB.out ?_
    refine hK _ _ ?_
    clear hK K; try simp only [tl]
    refine wpAny_done (by kernel_rfl) ?_ _
    refine NoPanic.normal ?_
    go_wp2_with fail
    go_roundg (gk - 1)
    case measure => omega
    case rel =>
     refine ⟨q + 1, (L.set q rp).set p rq, by omega, by simp, ?_, hr2, ?_, ?_, hu.trans huF⟩
     · have := HP2.out; congr 1; omega
     · have h1 := HLP.out
       have h2 := HLQ.out
       have hql : q < L.length := by have := HLL.out; omega
       have hpl : p < L.length := by have := HLL.out; omega
       have hst := HREV.out.step (p := p) (by have := HP2.out; have := HM.out; omega) hqp hql hpl
       rw [List.getElem?_eq_getElem hpl] at h1
       rw [List.getElem?_eq_getElem hql] at h2
       injection h1 with h1
       injection h2 with h2
       rw [h1, h2] at hst
       exact hst
     intro r hr
     rcases List.mem_or_eq_of_mem_set hr with hr | rfl
     · rcases List.mem_or_eq_of_mem_set hr with hr | rfl
       · exact honeL r hr
       exact hop0
     exact hoq0
  have t1 : decide ((q : Int) < (m : Int) - 1 - q) = false := by simp; omega
  have hend := hrev.end_ (by rw [HM.out]; omega)
  subst hend
  have HL := Lib.hid hL
  clear hL hrev hLl
  go_wp2_with fail
  refine bodyPost_end (results_none rfl _ _ _) rfl ?_
  exact ⟨rfl, HL.out, hu⟩
end Go.Proofs.YtiampoebdmflgaaGreat
/- term.Spine. -/
namespace Go.Proofs.YtiampoebdmflgaaGreat
open Go.RowKit
set_option linter.unusedVariables false
set_option maxRecDepth 100000
set_option maxHeartbeats 4000000
set_option linter.unusedSimpArgs false
def spineF : Nat → Tm → List Tm → Tm × List Tm
 | 0, t, acc => (t, acc)
 | n + 1, t, acc => if t.k = 6 ∧ t.leaf = false then (match t.ks with | f :: a :: _ => spineF n f (acc ++ [town a]) | _ => (t, acc)) else (t, acc)
theorem spineF_end {n : Nat} {t : Tm} {acc : List Tm} (h : ¬ (t.k = 6 ∧ t.leaf = false)) : spineF n t acc = (t, acc) := by
 cases n with
 | zero => rfl
 | succ n => rw [spineF, if_neg h]
theorem spineF_step {n : Nat} {t : Tm} {acc : List Tm} (h1 : t.k = 6) (h2 : t.leaf = false) (h3 : 1 < t.ks.length) : spineF (n + 1) t acc = spineF n (t.ks[0]'(by omega)) (acc ++ [town (t.ks[1]'h3)]) := by
 rw [spineF, if_pos ⟨h1, h2⟩]
 obtain ⟨k, nn, nm, lv, ls, ks⟩ := t
 simp only [Tm.ks] at h3 ⊢
 match ks, h3 with
 | f :: a :: r, _ => rfl
def tspine (t : Tm) : Tm × List Tm := if tgreat t = true then (t, []) else (town (spineF t.vh t []).1, (spineF t.vh t []).2.reverse)
theorem results_cell_tmp {P : Program} {fn : Func} {p q : Tmp} {ty : TypeId} (h : fn.results = #[.cell p ty, .tmp q]) (tmps : Array Value) (w : World) (g : Nat) (t : TypeId) (cs : Array Value) (fr : Nat × Nat) (d : TypeDesc) (v : Value)
    (hp : tmps.getD p undef = .pointer (some ⟨g, 0, none⟩)) (hq : tmps.getD q undef = v) (hg : w.heap[g]? = some (.cells cs t fr))
    (hu : P.underlying ty = some d) (hd : (match d with | .struct _ | .array _ _ => true | _ => false) = true) (hi : (P.info? ty).map (·.size) = some cs.size) :
    (results fn tmps).run P w = .ok (.tuple #[.agg cs, v]) w := by
 have hp' : tmps[p]?.getD undef = .pointer (some ⟨g, 0, none⟩) := by simpa using hp
 have hq' : tmps[q]?.getD undef = v := by simpa using hq
 simp [results, h, hp', hq', asAddr, run_loadVar_row w g t ty cs fr d hg hu hd hi]
theorem RRows.rev {α : Type} {n : Nat} {R : Reading α n} {D : Nat → Prop} {w : World} {ls : List α} {rows : List (Array Value)} (h : RRows R D w ls rows) : RRows R D w ls.reverse rows.reverse := by
 refine ⟨by simp [h.1], fun i l r h1 h2 => ?_⟩
 have hi : i < ls.length := by have := (List.getElem?_eq_some_iff.1 h1).1; simpa using this
 rw [List.getElem?_reverse hi] at h1
 rw [List.getElem?_reverse (by rw [h.1]; exact hi), h.1] at h2
 exact h.2 _ l r h1 h2
theorem RRows.one {α : Type} {n : Nat} {R : Reading α n} {D : Nat → Prop} {w : World} {ls : List α} {rows : List (Array Value)} (h : RRows R D w ls rows) : ∀ r ∈ rows, r.all (·.oneCell') = true := by
 intro r hr
 obtain ⟨i, hi, rfl⟩ := List.getElem_of_mem hr
 exact (R.cells (h.2 i _ _ (List.getElem?_eq_getElem (by rw [← h.1]; exact hi)) (List.getElem?_eq_getElem hi))).2
theorem tspine_any (t : Tm) (cs : Array Value) (D : Nat → Prop) (w : World) (hD : Within D w) (hl : TmIs D w t cs) :
    Calls Tryz.prog 66 #[.agg cs] w fun e w' => ∃ cs' A c, e = .returned (.tuple #[.agg cs', .slice A (tspine t).2.length c]) ∧ TmIs (grow D w w') w' (tspine t).1 cs' ∧
     ((tspine t).2.length * 120 ≤ 140737488351232 ∧ (tspine t).2.length ≤ c) ∧ TmsAt (grow D w w') w' (tspine t).2 A 0 ∧ Below w.heap.size w w' := by
 have hz := tm_zero
 have hs := hl.oneCell
 have hsi : (Tryz.prog.info? 28).map (·.size) = some cs.size := by rw [hs.1]; exact tm_size
 obtain ⟨⟨X1, X2⟩, hX⟩ : ∃ X, tspine t = X := ⟨_, rfl⟩
 rw [hX]
 have HX := Lib.hid hX; clear hX
 obtain ⟨W1, hW1⟩ : ∃ W1, (w.alloc (.cells cs 28)).alloc (.cells #[.int .i64 0, .int .i64 0, .string ByteArray.empty, .int .i64 0, .int .i64 0, .slice none 0 0, .slice none 0 0, .slice none 0 0] 28) = W1 := ⟨_, rfl⟩
 have huW1 : Upd nob w W1 := by rw [← hW1]; exact ((Upd.refl nob w).alloc _).alloc _
 have hsW1 : W1.heap.size = w.heap.size + 2 := by rw [← hW1]; simp
 have b0 : Blk W1 (w.heap.size) 28 cs := by
  rw [← hW1]
  have h := Blk.new (w) 28 cs
  exact h.alloc _
 have b1 : Blk W1 (w.heap.size + 1) 28 #[.int .i64 0, .int .i64 0, .string ByteArray.empty, .int .i64 0, .int .i64 0, .slice none 0 0, .slice none 0 0, .slice none 0 0] := by
  rw [← hW1]
  have h := Blk.new (w.alloc (.cells cs 28)) 28 #[.int .i64 0, .int .i64 0, .string ByteArray.empty, .int .i64 0, .int .i64 0, .slice none 0 0, .slice none 0 0, .slice none 0 0]
  rw [World.size_alloc] at h
  exact h
 have HW1 := Lib.hid hW1
 have r0 := b0.rowAt
 have B0 := Lib.hid b0
 have B1 := Lib.hid b1
 have hl1 := hl.old (hD.old huW1) (fun _ h => h)
 have hD1 := hD.up huW1
 clear hW1 b0 b1
 go_enter Tryz.func66, Tryz.ntmps66
 rw [← HW1.out] at r0
 go_wp2_with (first
       | ((with_reducible refine this_op (.load 28 (.tmp 1)) ?_); refine wpList_at rfl 28 (.tmp 1) rfl ⟨w.heap.size, 0, none⟩ rfl _ _ r0 Tryz.underlying28 rfl hsi ?_))
 rw [HW1.out]
 refine (tgreat_any t cs D W1 hD1 hl1).mono ?_
 rintro e w2 ⟨rfl, hb2⟩
 have hu2 : Upd nob W1 w2 := Upd.of_below hb2
 have C0 := B0.out.upd hu2 (fun f => f)
 have r2 := C0.rowAt
 have C1 := B1.out.upd hu2 (fun f => f)
 have hl2 := hl1.old (hD1.old hu2) (fun _ h => h)
 have hsz2 := hu2.size
 clear r0
 cases hg : tgreat t with
 | true =>
  have HG := Lib.hid hg; clear hg
  go_wp2_with (first
          | ((with_reducible refine this_op (.load 28 (.tmp 1)) ?_); refine wpList_at rfl 28 (.tmp 1) rfl ⟨w.heap.size, 0, none⟩ rfl _ _ r2 Tryz.underlying28 rfl hsi ?_)
          | ((with_reducible refine this_op (.store 28 (.tmp 2) (.tmp 7)) ?_); refine wpList_store_row rfl 28 (.tmp 2) (.tmp 7) rfl (w.heap.size + 1) _ rfl rfl 28 _ C1 hsi (by rw [hs.1]; rfl) hs.2 ?_))
  have hx : (X1, X2) = (t, []) := by rw [← HX.out, tspine, if_pos HG.out]
  injection hx with hx1 hx2
  subst hx1 hx2
  refine bodyPost_ret (results_cell_tmp rfl _ _ (w.heap.size + 1) 28 cs (0, 0) _ (.slice none 0 0) rfl rfl (C1.row _) Tryz.underlying28 rfl hsi) rfl ?_
  have h9 := res_tm (cs := cs) (g := w.heap.size + 1) hD huW1 hu2 (by omega) (by omega) (hl2.old (Old.refl _ _) (fun _ h => .inl h))
  exact ⟨cs, none, 0, rfl, h9.1, ⟨by simp, Nat.zero_le _⟩, by simp only [TmsAt], h9.2⟩
 | false =>
  have hvh := great_vh hg
  obtain ⟨⟨Y1, Y2⟩, hY⟩ : ∃ Y, spineF t.vh t [] = Y := ⟨_, rfl⟩
  have hx : (X1, X2) = (town Y1, Y2.reverse) := by rw [← HX.out, tspine, if_neg (by rw [hg]; decide), hY]
  injection hx with hx1 hx2
  subst hx1 hx2
  have HY := Lib.hid hY
  clear hY hg HX
  go_wp2_with fail
  go_loopg [4] t.vh (fun n v4 wr => ∃ cur ccs acc, Blk wr w.heap.size 28 ccs ∧ TmIs D wr cur ccs ∧ Coll tmR D (w.heap.size + 2) 28 wr v4 acc ∧ Blk wr (w.heap.size + 1) 28 #[.int .i64 0, .int .i64 0, .string ByteArray.empty, .int .i64 0, .int .i64 0, .slice none 0 0, .slice none 0 0, .slice none 0 0] ∧ spineF n cur acc = (Y1, Y2) ∧ cur.vh ≤ n ∧ acc.length + n ≤ 2000 ∧ Upd nob w wr ∧ w.heap.size + 2 ≤ wr.heap.size)
  case atStart => exact ⟨t, cs, [], C0, hl2, Coll.nil_, C1, HY.out, Nat.le_refl _, by simpa using hvh, huW1.trans hu2, by omega⟩
  case round =>
   clear r2 C0 C1 HY hl2 hsz2 hl1 hl hs hsi
   obtain ⟨cur, ccs, acc, c0, hcl, hco, c1, hsp, hcv, hacc, hu, hsz⟩ := hrel
   have hDr := hD.up hu
   have hED : ∀ x, D x → x < w.heap.size + 2 := fun x hx => by have := hD x hx; omega
   obtain ⟨sA, sc, rfl, hscp⟩ := hco.form
   obtain ⟨k, n, nm, lv, ls, ks⟩ := cur
   have hcl0 := Lib.hid hcl
   obtain ⟨x, y, z, A, c, A', c', rfl, hk, hn, hnm, hlv, hls1, hls, hks1, hks⟩ := hcl.lit
   simp only [Tm.k, Tm.n, Tm.nm, Tm.lv, Tm.ls, Tm.ks] at c0 hk hn hnm hlv hls1 hls hks1 hks hcl0
   clear hcl
   have q0 : wr.cell? ⟨w.heap.size, 0, none⟩ = some (.int .i64 k) := c0.cell 0
   have q7 : wr.cell? ⟨w.heap.size, 7, none⟩ = some (.slice A' ks.length c') := c0.cell 7
   have r0 := c0.rowAt
   have C0 := Lib.hid c0
   have C1 := Lib.hid c1
   have HSP := Lib.hid hsp
   have HCO := Lib.hid hco
   clear c0 c1 hsp hco
   by_cases hk6 : k = 6
   · subst hk6
     go_wp2_with (first
                 | ((with_reducible refine this_op (.load 28 (.tmp 1)) ?_); go_big_want; refine owp_load_at 28 (.tmp 1) rfl ⟨w.heap.size, 0, none⟩ rfl _ _ r0 Tryz.underlying28 rfl tm_size ?_))
     refine (tleaf_any (.mk 6 n nm lv ls ks) _ D wr hcl0.out).mono ?_
     rintro e w3 ⟨rfl, hb3⟩
     have hu3 : Upd nob wr w3 := Upd.of_below hb3
     have hs3 := hu3.size
     have c09 := C0.out.upd hu3 (fun f => f)
     have c19 := C1.out.upd hu3 (fun f => f)
     have hcl9 := hcl0.out.old (hDr.old hu3) (fun _ h => h)
     have hco9 := HCO.out.upd hu3 (fun _ f => f.elim) (fun x h => by have := hED x h; omega)
     have hu9 : Upd nob w w3 := hu.trans hu3
     clear HCO r0 q0 q7
     cases hlf : (Tm.mk 6 n nm lv ls ks).leaf with
     | true =>
      have hend := spineF_end (n := gk) (t := .mk 6 n nm lv ls ks) (acc := acc) (fun h => by rw [hlf] at h; cases h.2)
      rw [HSP.out] at hend
      injection hend with hy1 hy2
      subst hy1 hy2
      have r0 := c09.rowAt
      clear HSP hlf
      go_wp2_with fail
      obtain ⟨rows, hrw, hrr⟩ := hco9.rows
      refine (trev_any rows _ (w.heap.size + 2) w3 hrw hrr.one (by rw [hrr.1]; omega)).mono ?_
      rintro e w5 ⟨rfl, hrw5, hu5⟩
      have hnO : ∀ q, (Value.slice sA Y2.length sc).ownBlock = some q → w.heap.size + 2 ≤ q := fun q h => (hrw.lt h).1
      have hs5 := hu5.size
      have hco5 : Coll tmR D (w.heap.size + 2) 28 w5 (.slice sA Y2.length sc) Y2.reverse :=
       ⟨rows.reverse, hrw5, hrr.rev.old (fun q hq => hu5.block q (hq.1.elim (fun h => by have := hED q h; omega) (fun h => h.2)) hq.2) (fun q hq => ⟨hq.1.imp id (fun h => ⟨h.1, Nat.lt_of_lt_of_le h.2 hs5⟩), hq.2⟩)⟩
      have huw5 : Upd nob w w5 := hu9.trans' hu5 (fun q hq h => by have := hnO q h; omega)
      have r5 := (c09.upd hu5 (fun h => by have := hnO _ h; omega)).rowAt
      have c15 := c19.upd hu5 (fun h => by have := hnO _ h; omega)
      have hcl5 := hcl9.old (Old.of_upd hu5 fun q hq => ⟨fun h => by have := hnO q h; have := hED q hq; omega, (hD.up hu9) q hq⟩) (fun _ h => h)
      clear c09 c19 hcl9 r0
      go_wp2_with (first
                | ((with_reducible refine this_op (.load 28 (.tmp 1)) ?_); refine wpList_at rfl 28 (.tmp 1) rfl ⟨w.heap.size, 0, none⟩ rfl _ _ r5 Tryz.underlying28 rfl tm_size ?_))
      refine (town_any _ _ D w5 (hD.up huw5) hcl5).mono ?_
      rintro e w6 ⟨cs6, rfl, hl6, hb6⟩
      have hu6 : Upd nob w5 w6 := Upd.of_below hb6
      have C9 := c15.upd hu6 (fun f => f)
      have hs6 := hl6.oneCell
      have hsi6 : (Tryz.prog.info? 28).map (·.size) = some cs6.size := by rw [hs6.1]; exact tm_size
      have hco6 := hco5.upd hu6 (fun _ f => f.elim) (fun x h => by have := hED x h; omega)
      have hsz6 := hu6.size
      clear r5
      go_wp2_with (first
                | ((with_reducible refine this_op (.store 28 (.tmp 2) (.tmp 31)) ?_); refine wpList_store_row rfl 28 (.tmp 2) (.tmp 31) rfl (w.heap.size + 1) _ rfl rfl 28 _ C9 hsi6 (by rw [hs6.1]; rfl) hs6.2 ?_))
      have hfin : Upd (fun q => q = w.heap.size + 1) w6 (w6.setRow (w.heap.size + 1) cs6) := (Upd.refl (fun q => q = w.heap.size + 1) w6).setRow (.inl rfl) _
      refine bodyPost_ret (results_cell_tmp rfl _ _ (w.heap.size + 1) 28 cs6 (0, 0) _ (.slice sA Y2.length sc) rfl rfl (C9.row _) Tryz.underlying28 rfl hsi6) rfl ?_
      have h9 := res_tm (cs := cs6) (g := w.heap.size + 1) hD huw5 hu6 (by omega) (by omega) hl6
      have hco7 := hco6.upd hfin (fun x hx => ⟨by omega, fun h => by have := hD x h; omega⟩) (fun x h => by have := hED x h; omega)
      obtain ⟨A9, c9, hv9, hcap9, hat⟩ := hco7.tms (D := grow D w (w6.setRow (w.heap.size + 1) cs6)) (fun q hq => hq.elim .inl fun h => .inr ⟨by omega, h.2⟩)
      injection hv9 with z1 z2 z3
      subst z1 z3
      refine ⟨cs6, sA, sc, by simp only [List.length_reverse], h9.1, ⟨by simp only [List.length_reverse]; omega, hcap9⟩, hat, h9.2⟩
     | false =>
      have hkl : 1 < ks.length := by
       have h9 : (decide (tar 6 < 1) || decide ((ks.length : Int) < tar 6)) = false := hlf
       have h8 : tar 6 = 2 := by decide
       rw [h8] at h9
       simp at h9
       omega
      have HLF := Lib.hid hlf; clear hlf
      have q7 : w3.cell? ⟨w.heap.size, 7, none⟩ = some (.slice A' ks.length c') := c09.cell 7
      have hks3 := hks.old (hDr.old hu3) (fun _ h => h)
      obtain ⟨a1, cs1, hA1, hab1, hrow1, hl1⟩ := hks3.at_ (List.getElem?_eq_getElem hkl)
      obtain ⟨a2, cs2, hA2, hab2, hrow2, hl2⟩ := hks3.at_ (j := 0) (List.getElem?_eq_getElem (by omega))
      have haa : a1 = a2 := by rw [hA1] at hA2; simpa using hA2
      subst haa
      have hs1 := hl1.oneCell
      have hsi1 : (Tryz.prog.info? 28).map (·.size) = some cs1.size := by rw [hs1.1]; exact tm_size
      have HC0 := Lib.hid c09
      have HC1 := Lib.hid c19
      have HCO := Lib.hid hco9
      have HA1 := Lib.hid hA1
      clear c09 c19 hco9 hA1 hA2
      go_wp2_with (first
                    | ((with_reducible refine this_op (.indexAddr 26 (.tmp 18) (.const (.int .i64 1))) ?_); refine wpList_index_at rfl 26 (.tmp 18) (.const (.int .i64 1)) rfl _ a1 _ _ rfl HA1.out 1 rfl hkl 28 Tryz.underlying26 8 tm_size ?_)
                    | ((with_reducible refine this_op (.load 28 (.tmp 19)) ?_); refine wpList_at rfl 28 (.tmp 19) rfl (a1.add (1 * 8)) rfl _ _ hrow1 Tryz.underlying28 rfl hsi1 ?_))
      refine (town_any _ _ D w3 (hD.up hu9) hl1).mono ?_
      rintro e w4 ⟨cs4, rfl, hl4, hb4⟩
      have hu4 : Upd nob w3 w4 := Upd.of_below hb4
      have hs4 := hu4.size
      have hu5 : Upd nob w3 (w4.alloc (.cells cs4 28)) := hu4.alloc _
      have hnO : ∀ q, (Value.slice sA acc.length sc).ownBlock = some q → w.heap.size + 2 ≤ q ∧ q < w3.heap.size := fun q h => HCO.out.lt h
      have hc5 : Coll tmR D (w.heap.size + 2) 28 (w4.alloc (.cells cs4 28)) (.slice sA acc.length sc) acc := HCO.out.upd hu5 (fun _ f => f.elim) (fun x h => by have := hED x h; omega)
      have hin4 : Within (grow D w3 w4) w4 := fun x hx => hx.elim (fun h => by have := hED x h; omega) (fun h => h.2)
      have hl5 : tmR.is (grow D w3 w4) (w4.alloc (.cells cs4 28)) (town ks[1]) cs4 := hl4.old (hin4.old ((Upd.refl nob w4).alloc _)) (fun _ h => h)
      have hD5 : ∀ q, grow D w3 w4 q → cd D (w.heap.size + 2) (w4.alloc (.cells cs4 28)) (.slice sA acc.length sc) q := fun q hq => by
       rcases hq with hq | hq
       · exact ⟨.inl hq, fun h => by have := (hnO q h).1; have := hED q hq; omega⟩
       have h1 := hq.1
       have h2 := hq.2
       exact ⟨.inr ⟨by omega, by simp; omega⟩, fun h => by have := (hnO q h).2; omega⟩
      have hs40 := hl4.oneCell
      have hsi2 : (Tryz.prog.info? 28).map (·.size) = some cs2.size := by rw [hl2.oneCell.1]; exact tm_size
      have hone2 := hl2.oneCell
      have hk0 : 0 < ks.length := by omega
      have HC5 := Lib.hid hc5
      clear hc5 hrow1 q7
      go_wp2_with (first
                    | ((with_reducible refine this_op (.buildSlice 26 1 #[(0, .tmp 21)]) ?_); refine wpList_build1 rfl 26 28 (.tmp 21) rfl _ 8 120 Tryz.underlying26 tm_info (by decide) (by decide) cs4 rfl hs40.1 ?_)
                    | (at_builtin; refine wpList_collect rfl (.tmp 16) (.tmp 22) 26 rfl _ 120 Tryz.underlying26 tm_info (by kernel_rfl) (by decide) rfl HC5.out hED w4.heap.size cs4 rfl (Blk.new _ _ _) (town ks[1]) _ hl5 hD5 acc.length rfl (by omega) (by omega) (by simp; omega) ?_
                       intro sA6 sc6 w6 hc6 hu6 hat6
                       have hu7 : Upd (fun q => (Value.slice sA acc.length sc).ownBlock = some q) w3 w6 := (hu5.mono (fun _ f => f.elim)).trans hu6
                       have b6 := HC0.out.upd hu7 (fun h => by have := (hnO _ h).1; omega)
                       have e7 : w6.cell? ⟨w.heap.size, 7, none⟩ = some (.slice A' ks.length c') := b6.cell 7
                       have b61 := HC1.out.upd hu7 (fun h => by have := (hnO _ h).1; omega)
                       have ho6 : Old D w3 w6 := Old.of_upd hu7 fun q hq => ⟨fun h => by have := (hnO q h).1; have := hED q hq; omega, (hD.up hu9) q hq⟩
                       have hr2 := hrow2.old ho6 (by rw [Addr_add_block]; exact hab1)
                       have hl2' := hl2.old ho6 (fun _ h => h)
                       have HC6 := Lib.hid hc6
                       have HU7 := Lib.hid hu7
                       have HB6 := Lib.hid b6
                       have HB1 := Lib.hid b61
                       have HL2 := Lib.hid hl2'
                       clear hc6 hu6 hu7 b6 b61 hl2')
                    | ((with_reducible refine this_op (.indexAddr 26 (.tmp 25) (.const (.int .i64 0))) ?_); refine wpList_index_at rfl 26 (.tmp 25) (.const (.int .i64 0)) rfl _ a1 _ _ rfl HA1.out 0 rfl hk0 28 Tryz.underlying26 8 tm_size ?_)
                    | ((with_reducible refine this_op (.load 28 (.tmp 26)) ?_); refine wpList_at rfl 28 (.tmp 26) rfl (a1.add (0 * 8)) rfl _ _ hr2 Tryz.underlying28 rfl hsi2 ?_)
                    | ((with_reducible refine this_op (.store 28 (.tmp 1) (.tmp 27)) ?_); refine wpList_store_row rfl 28 (.tmp 1) (.tmp 27) rfl w.heap.size _ rfl rfl 28 _ HB6.out hsi2 (by rw [hone2.1]; rfl) hone2.2 ?_))
      have h8 : tar 6 = 2 := by decide
      have hnk : 0 < nk 6 ks.length := by unfold nk; rw [if_neg (by rw [h8]; omega), h8]; decide
      have hv0 := Tm.vh_kid (k := 6) (n := n) (nm := nm) (lv := lv) (ls := ls) 0 hk0 hnk
      obtain ⟨g', rfl⟩ : ∃ g', gk = g' + 1 := ⟨gk - 1, by omega⟩
      have hst := spineF_step (n := g') (t := .mk 6 n nm lv ls ks) (acc := acc) rfl HLF.out hkl
      go_roundg g'
      case measure => omega
      case rel =>
       have hfin : Upd (fun q => q = w.heap.size) w6 (w6.setRow w.heap.size cs2) := (Upd.refl (fun q => q = w.heap.size) w6).setRow (.inl rfl) _
       have hs7 := HU7.out.size
       refine ⟨ks[0]'hk0, cs2, acc ++ [town ks[1]], HB6.out.row _, HL2.out.old (Old.of_upd hfin fun q hq => ⟨fun h => by have := hD q hq; omega, by have := hED q hq; omega⟩) (fun _ h => h), ?_, HB1.out.rowFar (by omega) _, ?_, ?_, ?_, ?_, ?_⟩
       · exact HC6.out.upd hfin (fun q hq => ⟨by omega, fun h => by have := hD q h; omega⟩) (fun q h => by have := hED q h; omega)
       · exact hst.symm.trans HSP.out
       · omega
       · simp only [List.length_append, List.length_singleton]; omega
       · exact (hu9.trans' HU7.out (fun q hq h => by have := (hnO q h).1; omega)).trans' hfin (fun q hq h => by omega)
       have := hfin.size; omega
   have t1 : (k == 6) = false := by simpa using hk6
   have hend := spineF_end (n := gk) (t := .mk k n nm lv ls ks) (acc := acc) (fun h => hk6 h.1)
   rw [HSP.out] at hend
   injection hend with hy1 hy2
   subst hy1 hy2
   clear HSP hk6
   go_wp2_with (first
               | ((with_reducible refine this_op (.load 28 (.tmp 1)) ?_); go_big_want; refine owp_load_at 28 (.tmp 1) rfl ⟨w.heap.size, 0, none⟩ rfl _ _ r0 Tryz.underlying28 rfl tm_size ?_))
   have hco9 := HCO.out
   have hu9 := hu
   have c09 := C0.out
   have c19 := C1.out
   have hcl9 := hcl0.out
   clear HCO
   obtain ⟨rows, hrw, hrr⟩ := hco9.rows
   refine (trev_any rows _ (w.heap.size + 2) wr hrw hrr.one (by rw [hrr.1]; omega)).mono ?_
   rintro e w5 ⟨rfl, hrw5, hu5⟩
   have hnO : ∀ q, (Value.slice sA Y2.length sc).ownBlock = some q → w.heap.size + 2 ≤ q := fun q h => (hrw.lt h).1
   have hs5 := hu5.size
   have hco5 : Coll tmR D (w.heap.size + 2) 28 w5 (.slice sA Y2.length sc) Y2.reverse :=
    ⟨rows.reverse, hrw5, hrr.rev.old (fun q hq => hu5.block q (hq.1.elim (fun h => by have := hED q h; omega) (fun h => h.2)) hq.2) (fun q hq => ⟨hq.1.imp id (fun h => ⟨h.1, Nat.lt_of_lt_of_le h.2 hs5⟩), hq.2⟩)⟩
   have huw5 : Upd nob w w5 := hu9.trans' hu5 (fun q hq h => by have := hnO q h; omega)
   have r5 := (c09.upd hu5 (fun h => by have := hnO _ h; omega)).rowAt
   have c15 := c19.upd hu5 (fun h => by have := hnO _ h; omega)
   have hcl5 := hcl9.old (Old.of_upd hu5 fun q hq => ⟨fun h => by have := hnO q h; have := hED q hq; omega, (hD.up hu9) q hq⟩) (fun _ h => h)
   clear c09 c19 hcl9 r0
   go_wp2_with (first
             | ((with_reducible refine this_op (.load 28 (.tmp 1)) ?_); refine wpList_at rfl 28 (.tmp 1) rfl ⟨w.heap.size, 0, none⟩ rfl _ _ r5 Tryz.underlying28 rfl tm_size ?_))
   refine (town_any _ _ D w5 (hD.up huw5) hcl5).mono ?_
   rintro e w6 ⟨cs6, rfl, hl6, hb6⟩
   have hu6 : Upd nob w5 w6 := Upd.of_below hb6
   have C9 := c15.upd hu6 (fun f => f)
   have hs6 := hl6.oneCell
   have hsi6 : (Tryz.prog.info? 28).map (·.size) = some cs6.size := by rw [hs6.1]; exact tm_size
   have hco6 := hco5.upd hu6 (fun _ f => f.elim) (fun x h => by have := hED x h; omega)
   have hsz6 := hu6.size
   clear r5
   go_wp2_with (first
             | ((with_reducible refine this_op (.store 28 (.tmp 2) (.tmp 31)) ?_); refine wpList_store_row rfl 28 (.tmp 2) (.tmp 31) rfl (w.heap.size + 1) _ rfl rfl 28 _ C9 hsi6 (by rw [hs6.1]; rfl) hs6.2 ?_))
   have hfin : Upd (fun q => q = w.heap.size + 1) w6 (w6.setRow (w.heap.size + 1) cs6) := (Upd.refl (fun q => q = w.heap.size + 1) w6).setRow (.inl rfl) _
   refine bodyPost_ret (results_cell_tmp rfl _ _ (w.heap.size + 1) 28 cs6 (0, 0) _ (.slice sA Y2.length sc) rfl rfl (C9.row _) Tryz.underlying28 rfl hsi6) rfl ?_
   have h9 := res_tm (cs := cs6) (g := w.heap.size + 1) hD huw5 hu6 (by omega) (by omega) hl6
   have hco7 := hco6.upd hfin (fun x hx => ⟨by omega, fun h => by have := hD x h; omega⟩) (fun x h => by have := hED x h; omega)
   obtain ⟨A9, c9, hv9, hcap9, hat⟩ := hco7.tms (D := grow D w (w6.setRow (w.heap.size + 1) cs6)) (fun q hq => hq.elim .inl fun h => .inr ⟨by omega, h.2⟩)
   injection hv9 with z1 z2 z3
   subst z1 z3
   refine ⟨cs6, sA, sc, by simp only [List.length_reverse], h9.1, ⟨by simp only [List.length_reverse]; omega, hcap9⟩, hat, h9.2⟩
end Go.Proofs.YtiampoebdmflgaaGreat
/- Drawn regions held (OrdersHeld): one alone. -/
namespace Go.Proofs.YtiampoebdmflgaaGreat
open Go.RowKit
set_option linter.unusedVariables false
variable {P : Program} {ops : Array Oper} {Q : Exit → Act → World → Prop} {md : Region.Mode} {S : World → Prop}
theorem wpAnyH_alone {i : Nat} {o : Oper} {fuel : Nat} {listed : Array Bool} {a : Act} {w : World} (hr : Region.ready md ops listed = [i]) (ho : ops[i]? = some o) (hg : Region.wanted o (yielded ops a.tmps) = true)
    (h : ∀ K : Act → World → Prop, (∀ a' w', S w' → wpAnyH P md ops Q S fuel (listed.setIfInBounds i true) a' w' → K a' w') → o.wp P a w K Q) : wpAnyH P md ops Q S (fuel + 1) listed a w := by
 refine wpAnyH_all hr (by simp) fun q hq => ?_
 obtain rfl : q = i := by simpa using hq
 unfold wpOp
 rw [ho]
 simp only [hg, if_true]
 exact .inl (h _ fun a' w' hS h => ⟨hS, h⟩)
end Go.Proofs.YtiampoebdmflgaaGreat
/- whnf.apply, inst, levels. -/
namespace Go.Proofs.YtiampoebdmflgaaGreat
open Go.RowKit
set_option linter.unusedVariables false
set_option maxRecDepth 100000
set_option maxHeartbeats 4000000
set_option linter.unusedSimpArgs false
theorem row_eq {W X : World} {g : Nat} {cs : Array Value} (h : rowAt W ⟨g, 0, none⟩ cs) (hx : ∀ q : Addr, q.block = g → X.cell? q = W.cell? q) : rowAt X ⟨g, 0, none⟩ cs :=
 fun j v hv => (hx _ (by rw [Addr_add_block])).trans (h j v hv)
def wapply (f : Tm) (args : List Tm) : Tm × Bool := (tApps f args, wfits (tApps f args) && (decide ((tApps f args).k ≠ 0) || decide (args.length = 0)))
def winst (body v : Tm) (args : List Tm) : Tm × Bool := if (tInst body v).k = 0 ∧ body.k ≠ 0 ∧ (body.k ≠ 1 ∨ v.k ≠ 0) then (tmz, false) else wapply (tInst body v) args
def wlevels (t : Tm) (ls : List Lv) (args : List Tm) : Tm × Bool := if (tIL t ls).k = 0 ∧ t.k ≠ 0 then (tmz, false) else wapply (tIL t ls) args
theorem wapply_any (f : Tm) (cs : Array Value) (args : List Tm) (A : Option Addr) (c : Nat) (D : Nat → Prop) (w : World) (hD : Within D w) (hl : TmIs D w f cs) (hal : args.length * 120 ≤ 140737488351232) (ha : TmsAt D w args A 0) :
    Calls Tryz.prog 119 #[.agg cs, .slice A args.length c] w fun e w' => ∃ cs', e = .returned (.tuple #[.agg cs', .bool (wapply f args).2]) ∧ TmIs (grow D w w') w' (wapply f args).1 cs' ∧ Below w.heap.size w w' := by
 have hz := tm_zero
 have hs := hl.oneCell
 have hsi : (Tryz.prog.info? 28).map (·.size) = some cs.size := by rw [hs.1]; exact tm_size
 obtain ⟨N, hN⟩ : ∃ N, args.length = N := ⟨_, rfl⟩
 obtain ⟨Y, hY⟩ : ∃ Y, tApps f args = Y := ⟨_, rfl⟩
 have hw : wapply f args = (Y, wfits Y && (decide (Y.k ≠ 0) || decide (N = 0))) := by unfold wapply; rw [hY, hN]
 obtain ⟨X2, hX2⟩ : ∃ X2, (wfits Y && (decide (Y.k ≠ 0) || decide (N = 0))) = X2 := ⟨_, rfl⟩
 rw [hX2] at hw
 rw [hw, hN]
 simp only
 have HX2 := Lib.hid hX2
 clear hX2
 have HN := Lib.hid hN
 have HY := Lib.hid hY
 clear hw hN hY
 obtain ⟨W1, hW1⟩ : ∃ W1, (w.alloc (.cells cs 28)).alloc (.cells #[.int .i64 0, .int .i64 0, .string ByteArray.empty, .int .i64 0, .int .i64 0, .slice none 0 0, .slice none 0 0, .slice none 0 0] 28) = W1 := ⟨_, rfl⟩
 have huW1 : Upd nob w W1 := by rw [← hW1]; exact ((Upd.refl nob w).alloc _).alloc _
 have hsW1 : W1.heap.size = w.heap.size + 2 := by rw [← hW1]; simp
 have b0 : Blk W1 (w.heap.size) 28 cs := by
  rw [← hW1]
  have h := Blk.new (w) 28 cs
  exact h.alloc _
 have b1 : Blk W1 (w.heap.size + 1) 28 #[.int .i64 0, .int .i64 0, .string ByteArray.empty, .int .i64 0, .int .i64 0, .slice none 0 0, .slice none 0 0, .slice none 0 0] := by
  rw [← hW1]
  have h := Blk.new (w.alloc (.cells cs 28)) 28 #[.int .i64 0, .int .i64 0, .string ByteArray.empty, .int .i64 0, .int .i64 0, .slice none 0 0, .slice none 0 0, .slice none 0 0]
  rw [World.size_alloc] at h
  exact h
 have HW1 := Lib.hid hW1
 have r0 := b0.rowAt
 have B1 := Lib.hid b1
 have hD1 := hD.up huW1
 have hcall := tApps_any f cs args A c D W1 hD1 (hl.old (hD.old huW1) (fun _ h => h)) hal (ha.old (hD.old huW1) (fun _ h => h))
 rw [HN.out, HY.out] at hcall
 have HC := Lib.hid hcall
 clear hW1 b0 b1 hcall
 go_enter Tryz.func119, Tryz.ntmps119
 rw [← HW1.out] at r0
 go_wp2_with (first
  | ((with_reducible refine this_op (.load 28 (.tmp 2)) ?_); refine wpList_at rfl 28 (.tmp 2) rfl ⟨w.heap.size, 0, none⟩ rfl _ _ r0 Tryz.underlying28 rfl hsi ?_))
 rw [HW1.out]
 clear r0
 refine HC.out.mono ?_
 rintro e w2 ⟨cs2, rfl, hl2, hb2⟩
 have hu2 : Upd nob W1 w2 := Upd.of_below hb2
 obtain ⟨p0, q0, B0, m0, d0, F0, x0, F0', x0', rfl⟩ := hl2.lit8
 obtain ⟨W3, hW3⟩ : ∃ W3, w2.alloc (.cells #[.int .i64 Y.k, .int .i64 Y.n, .string Y.nm, .int .i64 p0, .int .i64 q0, .slice B0 m0 d0, .slice F0 Y.ls.length x0, .slice F0' Y.ks.length x0'] 28) = W3 := ⟨_, rfl⟩
 have hu3 : Upd nob w2 W3 := by rw [← hW3]; exact (Upd.refl nob w2).alloc _
 have hs3 : W3.heap.size = w2.heap.size + 1 := by rw [← hW3]; simp
 have HG3 := Lib.hid (show Blk W3 w2.heap.size 28 #[.int .i64 Y.k, .int .i64 Y.n, .string Y.nm, .int .i64 p0, .int .i64 q0, .slice B0 m0 d0, .slice F0 Y.ls.length x0, .slice F0' Y.ks.length x0'] by rw [← hW3]; exact Blk.new w2 _ _)
 have hu13 := hu2.trans hu3
 have HC3 := Lib.hid (B1.out.upd hu13 (fun f => f))
 have HL3 := Lib.hid (hl2.old (D' := grow D W1 W3) (Within.old (hD1.grow hu2.size) hu3) (fun q hq => hq.elim (fun h => .inl h) (fun h => .inr ⟨h.1, Nat.lt_of_lt_of_le h.2 hu3.size⟩)))
 have hz2 := hu2.size
 clear hl2 hb2
 go_wp2_with fail
 have HW3 := Lib.hid hW3
 clear hW3
 have r3 := HG3.out.rowAt
 have qk : W3.cell? ⟨w2.heap.size, 0, none⟩ = some (.int .i64 Y.k) := HG3.out.cell 0
 have lt3 := HG3.out.lt
 have hD3 : Within (grow D W1 W3) W3 := hD1.grow hu13.size
 cases hf : wfits Y with
 | false =>
  have hx : X2 = false := by rw [← HX2.out, hf]; rfl
  have HXX := Lib.hid hx
  have HF := Lib.hid hf
  clear hf hx
  refine wp_region_P (by kernel_rfl) ?_
  refine wpAny_of_held (S := fun X : World => ∀ p : Addr, p.block = w2.heap.size → X.cell? p = W3.cell? p) _ _ _ _ ?_
  have hS : ∀ p : Addr, p.block = w2.heap.size → W3.drew.cell? p = W3.cell? p := fun _ _ => rfl
  refine hT 0 (.agg #[.int .i64 Y.k, .int .i64 Y.n, .string Y.nm, .int .i64 p0, .int .i64 q0, .slice B0 m0 d0, .slice F0 Y.ls.length x0, .slice F0' Y.ks.length x0']) rfl (by kernel_rfl) (by rfl) ?_ hS ?_
  · intro wx hx
    exact run_load_at 28 (.tmp 6) rfl ⟨w2.heap.size, 0, none⟩ rfl #[.int .i64 Y.k, .int .i64 Y.n, .string Y.nm, .int .i64 p0, .int .i64 q0, .slice B0 m0 d0, .slice F0 Y.ls.length x0, .slice F0' Y.ks.length x0'] _ (row_eq r3 hx) Tryz.underlying28 rfl tm_size
  try simp only [tl]
  refine hT 1 (.agg #[.int .i64 Y.k, .int .i64 Y.n, .string Y.nm, .int .i64 p0, .int .i64 q0, .slice B0 m0 d0, .slice F0 Y.ls.length x0, .slice F0' Y.ks.length x0']) rfl (by kernel_rfl) (by rfl) ?_ hS ?_
  · intro wx hx
    exact run_load_at 28 (.tmp 6) rfl ⟨w2.heap.size, 0, none⟩ rfl #[.int .i64 Y.k, .int .i64 Y.n, .string Y.nm, .int .i64 p0, .int .i64 q0, .slice B0 m0 d0, .slice F0 Y.ls.length x0, .slice F0' Y.ks.length x0'] _ (row_eq r3 hx) Tryz.underlying28 rfl tm_size
  try simp only [tl]
  refine wpAnyH_alone (i := 2) (by kernel_rfl) rfl (by rfl) fun K hK => ?_
  go_simp
  refine (wfits_any Y _ (grow D W1 W3) W3.drew hD3.drew HL3.out.drew).mono ?_
  rintro e w4 ⟨rfl, hb4⟩
  rw [HF.out]
  have hu4 : Upd nob W3 w4 := ((Upd.refl nob W3).drew).trans (Upd.of_below hb4)
  refine hK _ _ (fun p hp => cells_of_upd hu4 p (by rw [hp]; exact lt3)) ?_
  clear hK K; try simp only [tl]
  have hS : ∀ p : Addr, p.block = w2.heap.size → w4.cell? p = W3.cell? p := fun p hp => cells_of_upd hu4 p (by rw [hp]; exact lt3)
  refine hT 3 ?_ rfl (by kernel_rfl) (by rfl) ?_ hS ?_
  rotate_left; · intro wx hx; clear hx; go_simp; with_reducible rfl
  try simp only [tl]
  refine wpAnyH_take (i := 4) (v := undef) rfl (by kernel_rfl) (by kernel_rfl) (by kernel_rfl) (fun _ _ _ h => h) (Or.inr ⟨by rfl, by rfl⟩) hS ?_
  try simp only [tl]
  refine wpAnyH_take (i := 5) (v := undef) rfl (by kernel_rfl) (by kernel_rfl) (by kernel_rfl) (fun _ _ _ h => h) (Or.inr ⟨by rfl, by rfl⟩) hS ?_
  try simp only [tl]
  refine wpAnyH_take (i := 6) (v := undef) rfl (by kernel_rfl) (by kernel_rfl) (by kernel_rfl) (fun _ _ _ h => h) (Or.inr ⟨by rfl, by rfl⟩) hS ?_
  try simp only [tl]
  refine wpAnyH_take (i := 7) (v := undef) rfl (by kernel_rfl) (by kernel_rfl) (by kernel_rfl) (fun _ _ _ h => h) (Or.inr ⟨by rfl, by rfl⟩) hS ?_
  try simp only [tl]
  refine wpAnyH_take (i := 8) (v := undef) rfl (by kernel_rfl) (by kernel_rfl) (by kernel_rfl) (fun _ _ _ h => h) (Or.inr ⟨by rfl, by rfl⟩) hS ?_
  try simp only [tl]
  refine wpAnyH_take (i := 9) (v := undef) rfl (by kernel_rfl) (by kernel_rfl) (by kernel_rfl) (fun _ _ _ h => h) (Or.inr ⟨by rfl, by rfl⟩) hS ?_
  try simp only [tl]
  refine wpAnyH_take (i := 10) (v := undef) rfl (by kernel_rfl) (by kernel_rfl) (by kernel_rfl) (fun _ _ _ h => h) (Or.inr ⟨by rfl, by rfl⟩) hS ?_
  try simp only [tl]
  refine wpAnyH_take (i := 11) (v := undef) rfl (by kernel_rfl) (by kernel_rfl) (by kernel_rfl) (fun _ _ _ h => h) (Or.inr ⟨by rfl, by rfl⟩) hS ?_
  try simp only [tl]
  refine hT 12 ?_ rfl (by kernel_rfl) (by rfl) ?_ hS ?_
  rotate_left; · intro wx hx; clear hx; go_simp; with_reducible rfl
  try simp only [tl]
  refine wpAnyH_alone (i := 13) (by kernel_rfl) rfl (by rfl) fun K hK => ?_
  refine owp_store_blk 28 (.tmp 4) (.tmp 10) rfl rfl (w.heap.size + 1) #[.int .i64 Y.k, .int .i64 Y.n, .string Y.nm, .int .i64 p0, .int .i64 q0, .slice B0 m0 d0, .slice F0 Y.ls.length x0, .slice F0' Y.ks.length x0'] rfl rfl 28 _ (HC3.out.upd hu4 (fun f => f)) tm_size rfl (by simp [Value.oneCell']) ?_
  have hS9 : ∀ p : Addr, p.block = w2.heap.size → (w4.setRow (w.heap.size + 1) #[.int .i64 Y.k, .int .i64 Y.n, .string Y.nm, .int .i64 p0, .int .i64 q0, .slice B0 m0 d0, .slice F0 Y.ls.length x0, .slice F0' Y.ks.length x0']).cell? p = W3.cell? p := fun p hp => (((Upd.refl (fun q => q = w.heap.size + 1) w4).setRow (.inl rfl) _).cell (by rw [hp]; exact Nat.lt_of_lt_of_le lt3 hu4.size) (fun h => by have : p.block = w.heap.size + 1 := h; omega)).trans (hS p hp)
  refine hK _ _ hS9 ?_
  clear hK K; try simp only [tl]
  have hS := hS9
  refine wpAnyH_alone (i := 14) (by kernel_rfl) rfl (by rfl) fun K hK => ?_
  go_simp
  refine hK _ _ hS ?_
  clear hK K; try simp only [tl]
  refine wpAnyH_done (by kernel_rfl) ?_ _
  refine NoPanic.normal ?_
  have hz4 := hu4.size
  go_wp2_with fail
  refine bodyPost_ret (results_cell_tmp rfl _ _ (w.heap.size + 1) 28 #[.int .i64 Y.k, .int .i64 Y.n, .string Y.nm, .int .i64 p0, .int .i64 q0, .slice B0 m0 d0, .slice F0 Y.ls.length x0, .slice F0' Y.ks.length x0'] (0, 0) _ _ rfl rfl ((HC3.out.upd hu4 (fun f => f)).row _) Tryz.underlying28 rfl tm_size) rfl ?_
  rw [HXX.out]
  have h9 := res_tm (g := w.heap.size + 1) hD huW1 (hu13.trans hu4) (by omega) (by omega) (HL3.out.old (D' := grow D W1 w4) (hD3.old hu4) (fun q hq => hq.elim (fun h => .inl h) (fun h => .inr ⟨h.1, Nat.lt_of_lt_of_le h.2 hu4.size⟩)))
  exact ⟨_, rfl, h9.1, h9.2⟩
 | true =>
  have HF := Lib.hid hf
  clear hf
  by_cases hk : Y.k = 0
  · have e1 : (Y.k != 0) = false := by simp [hk]
    by_cases hn : N = 0
    · have e2 : ((N : Int) == 0) = true := by simp [hn]
      have hx : X2 = true := by rw [← HX2.out, HF.out]; simp [hn]
      have HXX := Lib.hid hx
      clear hk hn hx
      refine wp_region_P (by kernel_rfl) ?_
      refine wpAny_of_held (S := fun X : World => ∀ p : Addr, p.block = w2.heap.size → X.cell? p = W3.cell? p) _ _ _ _ ?_
      have hS : ∀ p : Addr, p.block = w2.heap.size → W3.drew.cell? p = W3.cell? p := fun _ _ => rfl
      refine hT 0 (.agg #[.int .i64 Y.k, .int .i64 Y.n, .string Y.nm, .int .i64 p0, .int .i64 q0, .slice B0 m0 d0, .slice F0 Y.ls.length x0, .slice F0' Y.ks.length x0']) rfl (by kernel_rfl) (by rfl) ?_ hS ?_
      · intro wx hx
        exact run_load_at 28 (.tmp 6) rfl ⟨w2.heap.size, 0, none⟩ rfl #[.int .i64 Y.k, .int .i64 Y.n, .string Y.nm, .int .i64 p0, .int .i64 q0, .slice B0 m0 d0, .slice F0 Y.ls.length x0, .slice F0' Y.ks.length x0'] _ (row_eq r3 hx) Tryz.underlying28 rfl tm_size
      try simp only [tl]
      refine hT 1 (.agg #[.int .i64 Y.k, .int .i64 Y.n, .string Y.nm, .int .i64 p0, .int .i64 q0, .slice B0 m0 d0, .slice F0 Y.ls.length x0, .slice F0' Y.ks.length x0']) rfl (by kernel_rfl) (by rfl) ?_ hS ?_
      · intro wx hx
        exact run_load_at 28 (.tmp 6) rfl ⟨w2.heap.size, 0, none⟩ rfl #[.int .i64 Y.k, .int .i64 Y.n, .string Y.nm, .int .i64 p0, .int .i64 q0, .slice B0 m0 d0, .slice F0 Y.ls.length x0, .slice F0' Y.ks.length x0'] _ (row_eq r3 hx) Tryz.underlying28 rfl tm_size
      try simp only [tl]
      refine wpAnyH_alone (i := 2) (by kernel_rfl) rfl (by rfl) fun K hK => ?_
      go_simp
      refine (wfits_any Y _ (grow D W1 W3) W3.drew hD3.drew HL3.out.drew).mono ?_
      rintro e w4 ⟨rfl, hb4⟩
      rw [HF.out]
      have hu4 : Upd nob W3 w4 := ((Upd.refl nob W3).drew).trans (Upd.of_below hb4)
      refine hK _ _ (fun p hp => cells_of_upd hu4 p (by rw [hp]; exact lt3)) ?_
      clear hK K; try simp only [tl]
      have hS : ∀ p : Addr, p.block = w2.heap.size → w4.cell? p = W3.cell? p := fun p hp => cells_of_upd hu4 p (by rw [hp]; exact lt3)
      refine hT 3 ?_ rfl (by kernel_rfl) (by rfl) ?_ hS ?_
      rotate_left; · intro wx hx; clear hx; go_simp; with_reducible rfl
      try simp only [tl]
      refine hT 4 ?_ rfl (by kernel_rfl) (by rfl) ?_ hS ?_
      rotate_left; · intro wx hx; clear hx; go_simp; with_reducible rfl
      try simp only [tl]
      refine hT 5 ?_ rfl (by kernel_rfl) (by rfl) ?_ hS ?_
      rotate_left
      · intro wx hx
        have q0 := (hx ⟨w2.heap.size, 0, none⟩ rfl).trans qk
        clear hx
        go_simp
        with_reducible rfl
      try simp only [tl]
      refine hT 6 ?_ rfl (by kernel_rfl) (by rfl) ?_ hS ?_
      rotate_left; · intro wx hx; clear hx; go_simp; with_reducible rfl
      try simp only [tl]
      refine hT 7 ?_ rfl (by kernel_rfl) (by rfl) ?_ hS ?_
      rotate_left; · intro wx hx; clear hx; go_simp; with_reducible rfl
      try simp only [tl]
      refine hT 8 ?_ rfl (by kernel_rfl) (by rfl) ?_ hS ?_
      rotate_left; · intro wx hx; clear hx; go_simp; with_reducible rfl
      try simp only [tl]
      refine hT 9 ?_ rfl (by kernel_rfl) (by rfl) ?_ hS ?_
      rotate_left; · intro wx hx; clear hx; go_simp; with_reducible rfl
      try simp only [tl]
      refine hT 10 ?_ rfl (by kernel_rfl) (by rfl) ?_ hS ?_
      rotate_left; · intro wx hx; clear hx; go_simp; with_reducible rfl
      try simp only [tl]
      refine hT 11 ?_ rfl (by kernel_rfl) (by rfl) ?_ hS ?_
      rotate_left; · intro wx hx; clear hx; go_simp; with_reducible rfl
      try simp only [tl]
      refine hT 12 ?_ rfl (by kernel_rfl) (by rfl) ?_ hS ?_
      rotate_left; · intro wx hx; clear hx; go_simp; with_reducible rfl
      try simp only [tl]
      refine wpAnyH_alone (i := 13) (by kernel_rfl) rfl (by rfl) fun K hK => ?_
      refine owp_store_blk 28 (.tmp 4) (.tmp 10) rfl rfl (w.heap.size + 1) #[.int .i64 Y.k, .int .i64 Y.n, .string Y.nm, .int .i64 p0, .int .i64 q0, .slice B0 m0 d0, .slice F0 Y.ls.length x0, .slice F0' Y.ks.length x0'] rfl rfl 28 _ (HC3.out.upd hu4 (fun f => f)) tm_size rfl (by simp [Value.oneCell']) ?_
      have hS9 : ∀ p : Addr, p.block = w2.heap.size → (w4.setRow (w.heap.size + 1) #[.int .i64 Y.k, .int .i64 Y.n, .string Y.nm, .int .i64 p0, .int .i64 q0, .slice B0 m0 d0, .slice F0 Y.ls.length x0, .slice F0' Y.ks.length x0']).cell? p = W3.cell? p := fun p hp => (((Upd.refl (fun q => q = w.heap.size + 1) w4).setRow (.inl rfl) _).cell (by rw [hp]; exact Nat.lt_of_lt_of_le lt3 hu4.size) (fun h => by have : p.block = w.heap.size + 1 := h; omega)).trans (hS p hp)
      refine hK _ _ hS9 ?_
      clear hK K; try simp only [tl]
      have hS := hS9
      refine wpAnyH_alone (i := 14) (by kernel_rfl) rfl (by rfl) fun K hK => ?_
      go_simp
      refine hK _ _ hS ?_
      clear hK K; try simp only [tl]
      refine wpAnyH_done (by kernel_rfl) ?_ _
      refine NoPanic.normal ?_
      have hz4 := hu4.size
      go_wp2_with fail
      refine bodyPost_ret (results_cell_tmp rfl _ _ (w.heap.size + 1) 28 #[.int .i64 Y.k, .int .i64 Y.n, .string Y.nm, .int .i64 p0, .int .i64 q0, .slice B0 m0 d0, .slice F0 Y.ls.length x0, .slice F0' Y.ks.length x0'] (0, 0) _ _ rfl rfl ((HC3.out.upd hu4 (fun f => f)).row _) Tryz.underlying28 rfl tm_size) rfl ?_
      rw [HXX.out]
      have h9 := res_tm (g := w.heap.size + 1) hD huW1 (hu13.trans hu4) (by omega) (by omega) (HL3.out.old (D' := grow D W1 w4) (hD3.old hu4) (fun q hq => hq.elim (fun h => .inl h) (fun h => .inr ⟨h.1, Nat.lt_of_lt_of_le h.2 hu4.size⟩)))
      exact ⟨_, rfl, h9.1, h9.2⟩
    have e2 : ((N : Int) == 0) = false := by simp; omega
    have hx : X2 = false := by rw [← HX2.out, HF.out]; simp [hk, hn]
    have HXX := Lib.hid hx
    clear hk hn hx
    refine wp_region_P (by kernel_rfl) ?_
    refine wpAny_of_held (S := fun X : World => ∀ p : Addr, p.block = w2.heap.size → X.cell? p = W3.cell? p) _ _ _ _ ?_
    have hS : ∀ p : Addr, p.block = w2.heap.size → W3.drew.cell? p = W3.cell? p := fun _ _ => rfl
    refine hT 0 (.agg #[.int .i64 Y.k, .int .i64 Y.n, .string Y.nm, .int .i64 p0, .int .i64 q0, .slice B0 m0 d0, .slice F0 Y.ls.length x0, .slice F0' Y.ks.length x0']) rfl (by kernel_rfl) (by rfl) ?_ hS ?_
    · intro wx hx
      exact run_load_at 28 (.tmp 6) rfl ⟨w2.heap.size, 0, none⟩ rfl #[.int .i64 Y.k, .int .i64 Y.n, .string Y.nm, .int .i64 p0, .int .i64 q0, .slice B0 m0 d0, .slice F0 Y.ls.length x0, .slice F0' Y.ks.length x0'] _ (row_eq r3 hx) Tryz.underlying28 rfl tm_size
    try simp only [tl]
    refine hT 1 (.agg #[.int .i64 Y.k, .int .i64 Y.n, .string Y.nm, .int .i64 p0, .int .i64 q0, .slice B0 m0 d0, .slice F0 Y.ls.length x0, .slice F0' Y.ks.length x0']) rfl (by kernel_rfl) (by rfl) ?_ hS ?_
    · intro wx hx
      exact run_load_at 28 (.tmp 6) rfl ⟨w2.heap.size, 0, none⟩ rfl #[.int .i64 Y.k, .int .i64 Y.n, .string Y.nm, .int .i64 p0, .int .i64 q0, .slice B0 m0 d0, .slice F0 Y.ls.length x0, .slice F0' Y.ks.length x0'] _ (row_eq r3 hx) Tryz.underlying28 rfl tm_size
    try simp only [tl]
    refine wpAnyH_alone (i := 2) (by kernel_rfl) rfl (by rfl) fun K hK => ?_
    go_simp
    refine (wfits_any Y _ (grow D W1 W3) W3.drew hD3.drew HL3.out.drew).mono ?_
    rintro e w4 ⟨rfl, hb4⟩
    rw [HF.out]
    have hu4 : Upd nob W3 w4 := ((Upd.refl nob W3).drew).trans (Upd.of_below hb4)
    refine hK _ _ (fun p hp => cells_of_upd hu4 p (by rw [hp]; exact lt3)) ?_
    clear hK K; try simp only [tl]
    have hS : ∀ p : Addr, p.block = w2.heap.size → w4.cell? p = W3.cell? p := fun p hp => cells_of_upd hu4 p (by rw [hp]; exact lt3)
    refine hT 3 ?_ rfl (by kernel_rfl) (by rfl) ?_ hS ?_
    rotate_left; · intro wx hx; clear hx; go_simp; with_reducible rfl
    try simp only [tl]
    refine hT 4 ?_ rfl (by kernel_rfl) (by rfl) ?_ hS ?_
    rotate_left; · intro wx hx; clear hx; go_simp; with_reducible rfl
    try simp only [tl]
    refine hT 5 ?_ rfl (by kernel_rfl) (by rfl) ?_ hS ?_
    rotate_left
    · intro wx hx
      have q0 := (hx ⟨w2.heap.size, 0, none⟩ rfl).trans qk
      clear hx
      go_simp
      with_reducible rfl
    try simp only [tl]
    refine hT 6 ?_ rfl (by kernel_rfl) (by rfl) ?_ hS ?_
    rotate_left; · intro wx hx; clear hx; go_simp; with_reducible rfl
    try simp only [tl]
    refine hT 7 ?_ rfl (by kernel_rfl) (by rfl) ?_ hS ?_
    rotate_left; · intro wx hx; clear hx; go_simp; with_reducible rfl
    try simp only [tl]
    refine hT 8 ?_ rfl (by kernel_rfl) (by rfl) ?_ hS ?_
    rotate_left; · intro wx hx; clear hx; go_simp; with_reducible rfl
    try simp only [tl]
    refine hT 9 ?_ rfl (by kernel_rfl) (by rfl) ?_ hS ?_
    rotate_left; · intro wx hx; clear hx; go_simp; with_reducible rfl
    try simp only [tl]
    refine hT 10 ?_ rfl (by kernel_rfl) (by rfl) ?_ hS ?_
    rotate_left; · intro wx hx; clear hx; go_simp; with_reducible rfl
    try simp only [tl]
    refine hT 11 ?_ rfl (by kernel_rfl) (by rfl) ?_ hS ?_
    rotate_left; · intro wx hx; clear hx; go_simp; with_reducible rfl
    try simp only [tl]
    refine hT 12 ?_ rfl (by kernel_rfl) (by rfl) ?_ hS ?_
    rotate_left; · intro wx hx; clear hx; go_simp; with_reducible rfl
    try simp only [tl]
    refine wpAnyH_alone (i := 13) (by kernel_rfl) rfl (by rfl) fun K hK => ?_
    refine owp_store_blk 28 (.tmp 4) (.tmp 10) rfl rfl (w.heap.size + 1) #[.int .i64 Y.k, .int .i64 Y.n, .string Y.nm, .int .i64 p0, .int .i64 q0, .slice B0 m0 d0, .slice F0 Y.ls.length x0, .slice F0' Y.ks.length x0'] rfl rfl 28 _ (HC3.out.upd hu4 (fun f => f)) tm_size rfl (by simp [Value.oneCell']) ?_
    have hS9 : ∀ p : Addr, p.block = w2.heap.size → (w4.setRow (w.heap.size + 1) #[.int .i64 Y.k, .int .i64 Y.n, .string Y.nm, .int .i64 p0, .int .i64 q0, .slice B0 m0 d0, .slice F0 Y.ls.length x0, .slice F0' Y.ks.length x0']).cell? p = W3.cell? p := fun p hp => (((Upd.refl (fun q => q = w.heap.size + 1) w4).setRow (.inl rfl) _).cell (by rw [hp]; exact Nat.lt_of_lt_of_le lt3 hu4.size) (fun h => by have : p.block = w.heap.size + 1 := h; omega)).trans (hS p hp)
    refine hK _ _ hS9 ?_
    clear hK K; try simp only [tl]
    have hS := hS9
    refine wpAnyH_alone (i := 14) (by kernel_rfl) rfl (by rfl) fun K hK => ?_
    go_simp
    refine hK _ _ hS ?_
    clear hK K; try simp only [tl]
    refine wpAnyH_done (by kernel_rfl) ?_ _
    refine NoPanic.normal ?_
    have hz4 := hu4.size
    go_wp2_with fail
    refine bodyPost_ret (results_cell_tmp rfl _ _ (w.heap.size + 1) 28 #[.int .i64 Y.k, .int .i64 Y.n, .string Y.nm, .int .i64 p0, .int .i64 q0, .slice B0 m0 d0, .slice F0 Y.ls.length x0, .slice F0' Y.ks.length x0'] (0, 0) _ _ rfl rfl ((HC3.out.upd hu4 (fun f => f)).row _) Tryz.underlying28 rfl tm_size) rfl ?_
    rw [HXX.out]
    have h9 := res_tm (g := w.heap.size + 1) hD huW1 (hu13.trans hu4) (by omega) (by omega) (HL3.out.old (D' := grow D W1 w4) (hD3.old hu4) (fun q hq => hq.elim (fun h => .inl h) (fun h => .inr ⟨h.1, Nat.lt_of_lt_of_le h.2 hu4.size⟩)))
    exact ⟨_, rfl, h9.1, h9.2⟩
  have e1 : (Y.k != 0) = true := by simp [hk]
  have hx : X2 = true := by rw [← HX2.out, HF.out]; simp [hk]
  have HXX := Lib.hid hx
  clear hk hx
  refine wp_region_P (by kernel_rfl) ?_
  refine wpAny_of_held (S := fun X : World => ∀ p : Addr, p.block = w2.heap.size → X.cell? p = W3.cell? p) _ _ _ _ ?_
  have hS : ∀ p : Addr, p.block = w2.heap.size → W3.drew.cell? p = W3.cell? p := fun _ _ => rfl
  refine hT 0 (.agg #[.int .i64 Y.k, .int .i64 Y.n, .string Y.nm, .int .i64 p0, .int .i64 q0, .slice B0 m0 d0, .slice F0 Y.ls.length x0, .slice F0' Y.ks.length x0']) rfl (by kernel_rfl) (by rfl) ?_ hS ?_
  · intro wx hx
    exact run_load_at 28 (.tmp 6) rfl ⟨w2.heap.size, 0, none⟩ rfl #[.int .i64 Y.k, .int .i64 Y.n, .string Y.nm, .int .i64 p0, .int .i64 q0, .slice B0 m0 d0, .slice F0 Y.ls.length x0, .slice F0' Y.ks.length x0'] _ (row_eq r3 hx) Tryz.underlying28 rfl tm_size
  try simp only [tl]
  refine hT 1 (.agg #[.int .i64 Y.k, .int .i64 Y.n, .string Y.nm, .int .i64 p0, .int .i64 q0, .slice B0 m0 d0, .slice F0 Y.ls.length x0, .slice F0' Y.ks.length x0']) rfl (by kernel_rfl) (by rfl) ?_ hS ?_
  · intro wx hx
    exact run_load_at 28 (.tmp 6) rfl ⟨w2.heap.size, 0, none⟩ rfl #[.int .i64 Y.k, .int .i64 Y.n, .string Y.nm, .int .i64 p0, .int .i64 q0, .slice B0 m0 d0, .slice F0 Y.ls.length x0, .slice F0' Y.ks.length x0'] _ (row_eq r3 hx) Tryz.underlying28 rfl tm_size
  try simp only [tl]
  refine wpAnyH_alone (i := 2) (by kernel_rfl) rfl (by rfl) fun K hK => ?_
  go_simp
  refine (wfits_any Y _ (grow D W1 W3) W3.drew hD3.drew HL3.out.drew).mono ?_
  rintro e w4 ⟨rfl, hb4⟩
  rw [HF.out]
  have hu4 : Upd nob W3 w4 := ((Upd.refl nob W3).drew).trans (Upd.of_below hb4)
  refine hK _ _ (fun p hp => cells_of_upd hu4 p (by rw [hp]; exact lt3)) ?_
  clear hK K; try simp only [tl]
  have hS : ∀ p : Addr, p.block = w2.heap.size → w4.cell? p = W3.cell? p := fun p hp => cells_of_upd hu4 p (by rw [hp]; exact lt3)
  refine hT 3 ?_ rfl (by kernel_rfl) (by rfl) ?_ hS ?_
  rotate_left; · intro wx hx; clear hx; go_simp; with_reducible rfl
  try simp only [tl]
  refine hT 4 ?_ rfl (by kernel_rfl) (by rfl) ?_ hS ?_
  rotate_left; · intro wx hx; clear hx; go_simp; with_reducible rfl
  try simp only [tl]
  refine hT 5 ?_ rfl (by kernel_rfl) (by rfl) ?_ hS ?_
  rotate_left
  · intro wx hx
    have q0 := (hx ⟨w2.heap.size, 0, none⟩ rfl).trans qk
    clear hx
    go_simp
    with_reducible rfl
  try simp only [tl]
  refine hT 6 ?_ rfl (by kernel_rfl) (by rfl) ?_ hS ?_
  rotate_left; · intro wx hx; clear hx; go_simp; with_reducible rfl
  try simp only [tl]
  refine hT 7 ?_ rfl (by kernel_rfl) (by rfl) ?_ hS ?_
  rotate_left; · intro wx hx; clear hx; go_simp; with_reducible rfl
  try simp only [tl]
  refine wpAnyH_take (i := 8) (v := undef) rfl (by kernel_rfl) (by kernel_rfl) (by kernel_rfl) (fun _ _ _ h => h) (Or.inr ⟨by rfl, by rfl⟩) hS ?_
  try simp only [tl]
  refine wpAnyH_take (i := 9) (v := undef) rfl (by kernel_rfl) (by kernel_rfl) (by kernel_rfl) (fun _ _ _ h => h) (Or.inr ⟨by rfl, by rfl⟩) hS ?_
  try simp only [tl]
  refine wpAnyH_take (i := 10) (v := undef) rfl (by kernel_rfl) (by kernel_rfl) (by kernel_rfl) (fun _ _ _ h => h) (Or.inr ⟨by rfl, by rfl⟩) hS ?_
  try simp only [tl]
  refine hT 11 ?_ rfl (by kernel_rfl) (by rfl) ?_ hS ?_
  rotate_left; · intro wx hx; clear hx; go_simp; with_reducible rfl
  try simp only [tl]
  refine hT 12 ?_ rfl (by kernel_rfl) (by rfl) ?_ hS ?_
  rotate_left; · intro wx hx; clear hx; go_simp; with_reducible rfl
  try simp only [tl]
  refine wpAnyH_alone (i := 13) (by kernel_rfl) rfl (by rfl) fun K hK => ?_
  refine owp_store_blk 28 (.tmp 4) (.tmp 10) rfl rfl (w.heap.size + 1) #[.int .i64 Y.k, .int .i64 Y.n, .string Y.nm, .int .i64 p0, .int .i64 q0, .slice B0 m0 d0, .slice F0 Y.ls.length x0, .slice F0' Y.ks.length x0'] rfl rfl 28 _ (HC3.out.upd hu4 (fun f => f)) tm_size rfl (by simp [Value.oneCell']) ?_
  have hS9 : ∀ p : Addr, p.block = w2.heap.size → (w4.setRow (w.heap.size + 1) #[.int .i64 Y.k, .int .i64 Y.n, .string Y.nm, .int .i64 p0, .int .i64 q0, .slice B0 m0 d0, .slice F0 Y.ls.length x0, .slice F0' Y.ks.length x0']).cell? p = W3.cell? p := fun p hp => (((Upd.refl (fun q => q = w.heap.size + 1) w4).setRow (.inl rfl) _).cell (by rw [hp]; exact Nat.lt_of_lt_of_le lt3 hu4.size) (fun h => by have : p.block = w.heap.size + 1 := h; omega)).trans (hS p hp)
  refine hK _ _ hS9 ?_
  clear hK K; try simp only [tl]
  have hS := hS9
  refine wpAnyH_alone (i := 14) (by kernel_rfl) rfl (by rfl) fun K hK => ?_
  go_simp
  refine hK _ _ hS ?_
  clear hK K; try simp only [tl]
  refine wpAnyH_done (by kernel_rfl) ?_ _
  refine NoPanic.normal ?_
  have hz4 := hu4.size
  go_wp2_with fail
  refine bodyPost_ret (results_cell_tmp rfl _ _ (w.heap.size + 1) 28 #[.int .i64 Y.k, .int .i64 Y.n, .string Y.nm, .int .i64 p0, .int .i64 q0, .slice B0 m0 d0, .slice F0 Y.ls.length x0, .slice F0' Y.ks.length x0'] (0, 0) _ _ rfl rfl ((HC3.out.upd hu4 (fun f => f)).row _) Tryz.underlying28 rfl tm_size) rfl ?_
  rw [HXX.out]
  have h9 := res_tm (g := w.heap.size + 1) hD huW1 (hu13.trans hu4) (by omega) (by omega) (HL3.out.old (D' := grow D W1 w4) (hD3.old hu4) (fun q hq => hq.elim (fun h => .inl h) (fun h => .inr ⟨h.1, Nat.lt_of_lt_of_le h.2 hu4.size⟩)))
  exact ⟨_, rfl, h9.1, h9.2⟩
end Go.Proofs.YtiampoebdmflgaaGreat
/- whnf.inst, levels. -/
namespace Go.Proofs.YtiampoebdmflgaaGreat
open Go.RowKit
set_option linter.unusedVariables false
set_option maxRecDepth 100000
set_option maxHeartbeats 4000000
set_option linter.unusedSimpArgs false
theorem winst_any (f v : Tm) (cs csv : Array Value) (args : List Tm) (A : Option Addr) (c : Nat) (D : Nat → Prop) (w : World) (hD : Within D w) (hl : TmIs D w f cs) (hv : TmIs D w v csv) (hal : args.length * 120 ≤ 140737488351232) (ha : TmsAt D w args A 0) :
    Calls Tryz.prog 88 #[.agg cs, .agg csv, .slice A args.length c] w fun e w' => ∃ cs', e = .returned (.tuple #[.agg cs', .bool (winst f v args).2]) ∧ TmIs (grow D w w') w' (winst f v args).1 cs' ∧ Below w.heap.size w w' := by
 have hz := tm_zero
 obtain ⟨x1, x2, B1, m1, d1, A1, c1, A1', c1', rfl⟩ := hl.lit8
 obtain ⟨y1, y2, B2, m2, d2, A2, c2, A2', c2', rfl⟩ := hv.lit8
 obtain ⟨k, hk⟩ : ∃ k, f.k = k := ⟨_, rfl⟩
 obtain ⟨kv, hkv⟩ : ∃ k, v.k = k := ⟨_, rfl⟩
 rw [hk] at hl
 rw [hkv] at hv
 rw [hk, hkv]
 obtain ⟨N, hN⟩ : ∃ N, args.length = N := ⟨_, rfl⟩
 obtain ⟨Y, hY⟩ : ∃ Y, tInst f v = Y := ⟨_, rfl⟩
 have hw : winst f v args = if Y.k = 0 ∧ k ≠ 0 ∧ (k ≠ 1 ∨ kv ≠ 0) then (tmz, false) else wapply Y args := by unfold winst; rw [hY, hk, hkv]
 obtain ⟨⟨X1, X2⟩, hX⟩ : ∃ X, winst f v args = X := ⟨_, rfl⟩
 rw [hX] at hw
 rw [hX, hN]
 simp only
 have HN := Lib.hid hN
 have HY := Lib.hid hY
 have HX := Lib.hid hw
 clear hw hN hY hX hk hkv
 obtain ⟨W1, hW1⟩ : ∃ W1, ((w.alloc (.cells #[.int .i64 k, .int .i64 f.n, .string f.nm, .int .i64 x1, .int .i64 x2, .slice B1 m1 d1, .slice A1 f.ls.length c1, .slice A1' f.ks.length c1'] 28)).alloc (.cells #[.int .i64 kv, .int .i64 v.n, .string v.nm, .int .i64 y1, .int .i64 y2, .slice B2 m2 d2, .slice A2 v.ls.length c2, .slice A2' v.ks.length c2'] 28)).alloc (.cells #[.int .i64 0, .int .i64 0, .string ByteArray.empty, .int .i64 0, .int .i64 0, .slice none 0 0, .slice none 0 0, .slice none 0 0] 28) = W1 := ⟨_, rfl⟩
 have huW1 : Upd nob w W1 := by rw [← hW1]; exact (((Upd.refl nob w).alloc _).alloc _).alloc _
 have hsW1 : W1.heap.size = w.heap.size + 3 := by rw [← hW1]; simp
 have b0 : Blk W1 (w.heap.size) 28 #[.int .i64 k, .int .i64 f.n, .string f.nm, .int .i64 x1, .int .i64 x2, .slice B1 m1 d1, .slice A1 f.ls.length c1, .slice A1' f.ks.length c1'] := by
  rw [← hW1]
  have h := Blk.new (w) 28 #[.int .i64 k, .int .i64 f.n, .string f.nm, .int .i64 x1, .int .i64 x2, .slice B1 m1 d1, .slice A1 f.ls.length c1, .slice A1' f.ks.length c1']
  exact (h.alloc _).alloc _
 have b1 : Blk W1 (w.heap.size + 1) 28 #[.int .i64 kv, .int .i64 v.n, .string v.nm, .int .i64 y1, .int .i64 y2, .slice B2 m2 d2, .slice A2 v.ls.length c2, .slice A2' v.ks.length c2'] := by
  rw [← hW1]
  have h := Blk.new (w.alloc (.cells #[.int .i64 k, .int .i64 f.n, .string f.nm, .int .i64 x1, .int .i64 x2, .slice B1 m1 d1, .slice A1 f.ls.length c1, .slice A1' f.ks.length c1'] 28)) 28 #[.int .i64 kv, .int .i64 v.n, .string v.nm, .int .i64 y1, .int .i64 y2, .slice B2 m2 d2, .slice A2 v.ls.length c2, .slice A2' v.ks.length c2']
  rw [World.size_alloc] at h
  exact h.alloc _
 have b2 : Blk W1 (w.heap.size + 1 + 1) 28 #[.int .i64 0, .int .i64 0, .string ByteArray.empty, .int .i64 0, .int .i64 0, .slice none 0 0, .slice none 0 0, .slice none 0 0] := by
  rw [← hW1]
  have h := Blk.new ((w.alloc (.cells #[.int .i64 k, .int .i64 f.n, .string f.nm, .int .i64 x1, .int .i64 x2, .slice B1 m1 d1, .slice A1 f.ls.length c1, .slice A1' f.ks.length c1'] 28)).alloc (.cells #[.int .i64 kv, .int .i64 v.n, .string v.nm, .int .i64 y1, .int .i64 y2, .slice B2 m2 d2, .slice A2 v.ls.length c2, .slice A2' v.ks.length c2'] 28)) 28 #[.int .i64 0, .int .i64 0, .string ByteArray.empty, .int .i64 0, .int .i64 0, .slice none 0 0, .slice none 0 0, .slice none 0 0]
  rw [World.size_alloc, World.size_alloc] at h
  exact h
 have HW1 := Lib.hid hW1
 have r0 := b0.rowAt
 have r1 := b1.rowAt
 have HB0 := Lib.hid b0
 have HB1 := Lib.hid b1
 have B2_ := Lib.hid b2
 have hD1 := hD.up huW1
 have hcall := tInst_any f v _ _ D W1 hD1 (hl.old (hD.old huW1) (fun _ h => h)) (hv.old (hD.old huW1) (fun _ h => h))
 rw [HY.out] at hcall
 have HC := Lib.hid hcall
 clear hW1 b0 b1 b2 hcall hl hv
 go_enter Tryz.func88, Tryz.ntmps88
 rw [← HW1.out] at r0 r1
 go_wp2_with (first
  | ((with_reducible refine this_op (.load 28 (.tmp 3)) ?_); refine wpList_at rfl 28 (.tmp 3) rfl ⟨w.heap.size, 0, none⟩ rfl _ _ r0 Tryz.underlying28 rfl tm_size ?_)
  | ((with_reducible refine this_op (.load 28 (.tmp 4)) ?_); refine wpList_at rfl 28 (.tmp 4) rfl ⟨w.heap.size + 1, 0, none⟩ rfl _ _ r1 Tryz.underlying28 rfl tm_size ?_))
 rw [HW1.out]
 clear r0 r1
 refine HC.out.mono ?_
 rintro e w2 ⟨cs2, rfl, hl2, hb2⟩
 have hu2 : Upd nob W1 w2 := Upd.of_below hb2
 obtain ⟨p0, q0, B0, m0, d0, F0, x0, F0', x0', rfl⟩ := hl2.lit8
 obtain ⟨kk, hkk⟩ : ∃ k, Y.k = k := ⟨_, rfl⟩
 rw [hkk] at hl2
 rw [hkk]
 have HKK := Lib.hid hkk
 obtain ⟨W3, hW3⟩ : ∃ W3, w2.alloc (.cells #[.int .i64 kk, .int .i64 Y.n, .string Y.nm, .int .i64 p0, .int .i64 q0, .slice B0 m0 d0, .slice F0 Y.ls.length x0, .slice F0' Y.ks.length x0'] 28) = W3 := ⟨_, rfl⟩
 have hu3 : Upd nob w2 W3 := by rw [← hW3]; exact (Upd.refl nob w2).alloc _
 have hs3 : W3.heap.size = w2.heap.size + 1 := by rw [← hW3]; simp
 have HG3 := Lib.hid (show Blk W3 w2.heap.size 28 #[.int .i64 kk, .int .i64 Y.n, .string Y.nm, .int .i64 p0, .int .i64 q0, .slice B0 m0 d0, .slice F0 Y.ls.length x0, .slice F0' Y.ks.length x0'] by rw [← hW3]; exact Blk.new w2 _ _)
 have hu13 := hu2.trans hu3
 have HC3 := Lib.hid (B2_.out.upd hu13 (fun f => f))
 have HL3 := Lib.hid (hl2.old (D' := grow D W1 W3) (Within.old (hD1.grow hu2.size) hu3) (fun q hq => hq.elim (fun h => .inl h) (fun h => .inr ⟨h.1, Nat.lt_of_lt_of_le h.2 hu3.size⟩)))
 have hz2 := hu2.size
 have g0 : W3.cell? ⟨w2.heap.size, 0, none⟩ = some (.int .i64 kk) := HG3.out.cell 0
 have g1 : W3.cell? ⟨w.heap.size, 0, none⟩ = some (.int .i64 k) := (HB0.out.upd hu13 (fun f => f)).cell 0
 have g2 : W3.cell? ⟨w.heap.size + 1, 0, none⟩ = some (.int .i64 kv) := (HB1.out.upd hu13 (fun f => f)).cell 0
 have l0 := HG3.out.lt
 have l1 := (HB0.out.upd hu13 (fun f => f)).lt
 have l2 := (HB1.out.upd hu13 (fun f => f)).lt
 have r3 := HG3.out.rowAt
 have HS3 := Lib.hid hs3
 clear hl2 hb2 hkk hs3
 have hD3 : Within (grow D W1 W3) W3 := hD1.grow hu13.size
 by_cases h1 : kk = 0
 · have e1 : (kk == 0) = true := by simp [h1]
   by_cases h2 : k = 0
   · have e2 : (k != 0) = false := by simp [h2]
     have HX2 := Lib.hid (show (X1, X2) = wapply Y args by rw [HX.out, if_neg (fun h => h.2.1 h2)])
     clear h1 h2
     go_wp2_with (first
      | ((with_reducible refine this_op (.load 28 (.tmp 8)) ?_); refine wpList_at rfl 28 (.tmp 8) rfl ⟨w2.heap.size, 0, none⟩ rfl _ _ r3 Tryz.underlying28 rfl tm_size ?_))
     have HW3 := Lib.hid hW3
     clear hW3
     have hcall := wapply_any Y _ args A c (grow D W1 W3) W3 hD3 HL3.out hal (ha.old (hD.old (huW1.trans hu13)) (fun _ h => .inl h))
     rw [← HX2.out, HN.out] at hcall
     refine hcall.mono ?_
     clear hcall
     rintro e w5 ⟨cs5, rfl, hl5, hb5⟩
     have hu5 : Upd nob W3 w5 := Upd.of_below hb5
     have C5 := HC3.out.upd hu5 (fun f => f)
     have hs5 := hl5.oneCell
     have hsi5 : (Tryz.prog.info? 28).map (·.size) = some cs5.size := by rw [hs5.1]; exact tm_size
     have hz5 := hu5.size
     have hz3 := HS3.out
     go_wp2_with (first
      | ((with_reducible refine this_op (.store 28 (.tmp 6) (.tmp 34)) ?_); refine wpList_store_row rfl 28 (.tmp 6) (.tmp 34) rfl (w.heap.size + 1 + 1) _ rfl rfl 28 _ C5 hsi5 (by rw [hs5.1]; rfl) hs5.2 ?_))
     refine bodyPost_ret (results_cell_tmp rfl _ _ (w.heap.size + 1 + 1) 28 cs5 (0, 0) _ _ rfl rfl (C5.row _) Tryz.underlying28 rfl hsi5) rfl ?_
     have h9 := res_tm (g := (w.heap.size + 1 + 1)) hD huW1 (hu13.trans hu5) (by omega) (by omega) (hl5.old (D' := grow D W1 w5) (Old.refl _ _) (fun q hq => hq.elim (fun h => h.elim (fun h => .inl h) (fun h => .inr ⟨h.1, by have := h.2; omega⟩)) (fun h => .inr ⟨by have := h.1; omega, h.2⟩)))
     exact ⟨cs5, rfl, h9.1, h9.2⟩
   have e2 : (k != 0) = true := by simp [h2]
   by_cases h3 : k = 1
   · have e3 : (k != 1) = false := by simp [h3]
     by_cases h4 : kv = 0
     · have e4 : (kv != 0) = false := by simp [h4]
       have HX2 := Lib.hid (show (X1, X2) = wapply Y args by rw [HX.out, if_neg (fun h => h.2.2.elim (fun h => h h3) (fun h => h h4))])
       clear h1 h2 h3 h4
       go_wp2_with (first
        | ((with_reducible refine this_op (.load 28 (.tmp 8)) ?_); refine wpList_at rfl 28 (.tmp 8) rfl ⟨w2.heap.size, 0, none⟩ rfl _ _ r3 Tryz.underlying28 rfl tm_size ?_))
       have HW3 := Lib.hid hW3
       clear hW3
       have hcall := wapply_any Y _ args A c (grow D W1 W3) W3 hD3 HL3.out hal (ha.old (hD.old (huW1.trans hu13)) (fun _ h => .inl h))
       rw [← HX2.out, HN.out] at hcall
       refine hcall.mono ?_
       clear hcall
       rintro e w5 ⟨cs5, rfl, hl5, hb5⟩
       have hu5 : Upd nob W3 w5 := Upd.of_below hb5
       have C5 := HC3.out.upd hu5 (fun f => f)
       have hs5 := hl5.oneCell
       have hsi5 : (Tryz.prog.info? 28).map (·.size) = some cs5.size := by rw [hs5.1]; exact tm_size
       have hz5 := hu5.size
       have hz3 := HS3.out
       go_wp2_with (first
        | ((with_reducible refine this_op (.store 28 (.tmp 6) (.tmp 34)) ?_); refine wpList_store_row rfl 28 (.tmp 6) (.tmp 34) rfl (w.heap.size + 1 + 1) _ rfl rfl 28 _ C5 hsi5 (by rw [hs5.1]; rfl) hs5.2 ?_))
       refine bodyPost_ret (results_cell_tmp rfl _ _ (w.heap.size + 1 + 1) 28 cs5 (0, 0) _ _ rfl rfl (C5.row _) Tryz.underlying28 rfl hsi5) rfl ?_
       have h9 := res_tm (g := (w.heap.size + 1 + 1)) hD huW1 (hu13.trans hu5) (by omega) (by omega) (hl5.old (D' := grow D W1 w5) (Old.refl _ _) (fun q hq => hq.elim (fun h => h.elim (fun h => .inl h) (fun h => .inr ⟨h.1, by have := h.2; omega⟩)) (fun h => .inr ⟨by have := h.1; omega, h.2⟩)))
       exact ⟨cs5, rfl, h9.1, h9.2⟩
     have e4 : (kv != 0) = true := by simp [h4]
     have HX2 := Lib.hid (show (X1, X2) = (tmz, false) by rw [HX.out, if_pos ⟨by rw [HKK.out]; exact h1, h2, .inr h4⟩])
     clear h1 h2 h3 h4
     go_wp2_with (first
      | ((with_reducible refine this_op (.store 28 (.tmp 6) (.tmp 30)) ?_); refine wpList_store_row rfl 28 (.tmp 6) (.tmp 30) rfl (w.heap.size + 1 + 1) _ rfl rfl 28 _ HC3.out tm_size rfl (by simp [Value.oneCell']) ?_))
     refine bodyPost_ret (results_cell_tmp rfl _ _ (w.heap.size + 1 + 1) 28 #[.int .i64 0, .int .i64 0, .string ByteArray.empty, .int .i64 0, .int .i64 0, .slice none 0 0, .slice none 0 0, .slice none 0 0] (0, 0) _ _ rfl rfl (HC3.out.row _) Tryz.underlying28 rfl tm_size) rfl ?_
     have hx := HX2.out
     injection hx with hx1 hx2
     rw [hx1, hx2]
     have hz3 := HS3.out
     exact ⟨_, rfl, TmIs.short _ _ (by unfold InI; omega) (by unfold InI; omega), fin_row (huW1.trans hu13).below (by omega) _⟩
   have e3 : (k != 1) = true := by simp [h3]
   have HX2 := Lib.hid (show (X1, X2) = (tmz, false) by rw [HX.out, if_pos ⟨by rw [HKK.out]; exact h1, h2, .inl h3⟩])
   clear h1 h2 h3
   go_wp2_with (first
    | ((with_reducible refine this_op (.store 28 (.tmp 6) (.tmp 30)) ?_); refine wpList_store_row rfl 28 (.tmp 6) (.tmp 30) rfl (w.heap.size + 1 + 1) _ rfl rfl 28 _ HC3.out tm_size rfl (by simp [Value.oneCell']) ?_))
   refine bodyPost_ret (results_cell_tmp rfl _ _ (w.heap.size + 1 + 1) 28 #[.int .i64 0, .int .i64 0, .string ByteArray.empty, .int .i64 0, .int .i64 0, .slice none 0 0, .slice none 0 0, .slice none 0 0] (0, 0) _ _ rfl rfl (HC3.out.row _) Tryz.underlying28 rfl tm_size) rfl ?_
   have hx := HX2.out
   injection hx with hx1 hx2
   rw [hx1, hx2]
   have hz3 := HS3.out
   exact ⟨_, rfl, TmIs.short _ _ (by unfold InI; omega) (by unfold InI; omega), fin_row (huW1.trans hu13).below (by omega) _⟩
 have e1 : (kk == 0) = false := by simp [h1]
 have HX2 := Lib.hid (show (X1, X2) = wapply Y args by rw [HX.out, if_neg (fun h => h1 (by rw [← HKK.out]; exact h.1))])
 clear h1
 go_wp2_with (first
  | ((with_reducible refine this_op (.load 28 (.tmp 8)) ?_); refine wpList_at rfl 28 (.tmp 8) rfl ⟨w2.heap.size, 0, none⟩ rfl _ _ r3 Tryz.underlying28 rfl tm_size ?_))
 have HW3 := Lib.hid hW3
 clear hW3
 have hcall := wapply_any Y _ args A c (grow D W1 W3) W3 hD3 HL3.out hal (ha.old (hD.old (huW1.trans hu13)) (fun _ h => .inl h))
 rw [← HX2.out, HN.out] at hcall
 refine hcall.mono ?_
 clear hcall
 rintro e w5 ⟨cs5, rfl, hl5, hb5⟩
 have hu5 : Upd nob W3 w5 := Upd.of_below hb5
 have C5 := HC3.out.upd hu5 (fun f => f)
 have hs5 := hl5.oneCell
 have hsi5 : (Tryz.prog.info? 28).map (·.size) = some cs5.size := by rw [hs5.1]; exact tm_size
 have hz5 := hu5.size
 have hz3 := HS3.out
 go_wp2_with (first
  | ((with_reducible refine this_op (.store 28 (.tmp 6) (.tmp 34)) ?_); refine wpList_store_row rfl 28 (.tmp 6) (.tmp 34) rfl (w.heap.size + 1 + 1) _ rfl rfl 28 _ C5 hsi5 (by rw [hs5.1]; rfl) hs5.2 ?_))
 refine bodyPost_ret (results_cell_tmp rfl _ _ (w.heap.size + 1 + 1) 28 cs5 (0, 0) _ _ rfl rfl (C5.row _) Tryz.underlying28 rfl hsi5) rfl ?_
 have h9 := res_tm (g := (w.heap.size + 1 + 1)) hD huW1 (hu13.trans hu5) (by omega) (by omega) (hl5.old (D' := grow D W1 w5) (Old.refl _ _) (fun q hq => hq.elim (fun h => h.elim (fun h => .inl h) (fun h => .inr ⟨h.1, by have := h.2; omega⟩)) (fun h => .inr ⟨by have := h.1; omega, h.2⟩)))
 exact ⟨cs5, rfl, h9.1, h9.2⟩
theorem wlevels_any (f : Tm) (cs : Array Value) (vs : List Lv) (Av : Option Addr) (cv : Nat) (args : List Tm) (A : Option Addr) (c : Nat) (D : Nat → Prop) (w : World) (hD : Within D w) (hl : TmIs D w f cs) (hvl : vs.length * 40 ≤ 140737488351232) (hvs : LvsAt D w vs Av 0)
    (hal : args.length * 120 ≤ 140737488351232) (ha : TmsAt D w args A 0) :
    Calls Tryz.prog 91 #[.agg cs, .slice Av vs.length cv, .slice A args.length c] w fun e w' => ∃ cs', e = .returned (.tuple #[.agg cs', .bool (wlevels f vs args).2]) ∧ TmIs (grow D w w') w' (wlevels f vs args).1 cs' ∧ Below w.heap.size w w' := by
 have hz := tm_zero
 obtain ⟨x1, x2, B1, m1, d1, A1, c1, A1', c1', rfl⟩ := hl.lit8
 obtain ⟨k, hk⟩ : ∃ k, f.k = k := ⟨_, rfl⟩
 rw [hk] at hl
 rw [hk]
 obtain ⟨N, hN⟩ : ∃ N, args.length = N := ⟨_, rfl⟩
 obtain ⟨M, hM⟩ : ∃ M, vs.length = M := ⟨_, rfl⟩
 obtain ⟨Y, hY⟩ : ∃ Y, tIL f vs = Y := ⟨_, rfl⟩
 have hw : wlevels f vs args = if Y.k = 0 ∧ k ≠ 0 then (tmz, false) else wapply Y args := by unfold wlevels; rw [hY, hk]
 obtain ⟨⟨X1, X2⟩, hX⟩ : ∃ X, wlevels f vs args = X := ⟨_, rfl⟩
 rw [hX] at hw
 rw [hX, hN, hM]
 simp only
 have HN := Lib.hid hN
 have HM := Lib.hid hM
 have HY := Lib.hid hY
 have HX := Lib.hid hw
 clear hw hN hY hX hk hM
 obtain ⟨W1, hW1⟩ : ∃ W1, (w.alloc (.cells #[.int .i64 k, .int .i64 f.n, .string f.nm, .int .i64 x1, .int .i64 x2, .slice B1 m1 d1, .slice A1 f.ls.length c1, .slice A1' f.ks.length c1'] 28)).alloc (.cells #[.int .i64 0, .int .i64 0, .string ByteArray.empty, .int .i64 0, .int .i64 0, .slice none 0 0, .slice none 0 0, .slice none 0 0] 28) = W1 := ⟨_, rfl⟩
 have huW1 : Upd nob w W1 := by rw [← hW1]; exact ((Upd.refl nob w).alloc _).alloc _
 have hsW1 : W1.heap.size = w.heap.size + 2 := by rw [← hW1]; simp
 have b0 : Blk W1 (w.heap.size) 28 #[.int .i64 k, .int .i64 f.n, .string f.nm, .int .i64 x1, .int .i64 x2, .slice B1 m1 d1, .slice A1 f.ls.length c1, .slice A1' f.ks.length c1'] := by
  rw [← hW1]
  have h := Blk.new (w) 28 #[.int .i64 k, .int .i64 f.n, .string f.nm, .int .i64 x1, .int .i64 x2, .slice B1 m1 d1, .slice A1 f.ls.length c1, .slice A1' f.ks.length c1']
  exact h.alloc _
 have b1 : Blk W1 (w.heap.size + 1) 28 #[.int .i64 0, .int .i64 0, .string ByteArray.empty, .int .i64 0, .int .i64 0, .slice none 0 0, .slice none 0 0, .slice none 0 0] := by
  rw [← hW1]
  have h := Blk.new (w.alloc (.cells #[.int .i64 k, .int .i64 f.n, .string f.nm, .int .i64 x1, .int .i64 x2, .slice B1 m1 d1, .slice A1 f.ls.length c1, .slice A1' f.ks.length c1'] 28)) 28 #[.int .i64 0, .int .i64 0, .string ByteArray.empty, .int .i64 0, .int .i64 0, .slice none 0 0, .slice none 0 0, .slice none 0 0]
  rw [World.size_alloc] at h
  exact h
 have HW1 := Lib.hid hW1
 have r0 := b0.rowAt
 have HB0 := Lib.hid b0
 have B2_ := Lib.hid b1
 have hD1 := hD.up huW1
 have hcall := tIL_any f _ vs Av cv D W1 hD1 (hl.old (hD.old huW1) (fun _ h => h)) hvl (hvs.old (hD.old huW1) (fun _ h => h))
 rw [HY.out, HM.out] at hcall
 have HC := Lib.hid hcall
 clear hW1 b0 b1 hcall hl
 go_enter Tryz.func91, Tryz.ntmps91
 rw [← HW1.out] at r0
 go_wp2_with (first
  | ((with_reducible refine this_op (.load 28 (.tmp 3)) ?_); refine wpList_at rfl 28 (.tmp 3) rfl ⟨w.heap.size, 0, none⟩ rfl _ _ r0 Tryz.underlying28 rfl tm_size ?_))
 rw [HW1.out]
 clear r0
 refine HC.out.mono ?_
 rintro e w2 ⟨cs2, rfl, hl2, hb2⟩
 have hu2 : Upd nob W1 w2 := Upd.of_below hb2
 obtain ⟨p0, q0, B0, m0, d0, F0, x0, F0', x0', rfl⟩ := hl2.lit8
 obtain ⟨kk, hkk⟩ : ∃ k, Y.k = k := ⟨_, rfl⟩
 rw [hkk] at hl2
 rw [hkk]
 have HKK := Lib.hid hkk
 obtain ⟨W3, hW3⟩ : ∃ W3, w2.alloc (.cells #[.int .i64 kk, .int .i64 Y.n, .string Y.nm, .int .i64 p0, .int .i64 q0, .slice B0 m0 d0, .slice F0 Y.ls.length x0, .slice F0' Y.ks.length x0'] 28) = W3 := ⟨_, rfl⟩
 have hu3 : Upd nob w2 W3 := by rw [← hW3]; exact (Upd.refl nob w2).alloc _
 have hs3 : W3.heap.size = w2.heap.size + 1 := by rw [← hW3]; simp
 have HG3 := Lib.hid (show Blk W3 w2.heap.size 28 #[.int .i64 kk, .int .i64 Y.n, .string Y.nm, .int .i64 p0, .int .i64 q0, .slice B0 m0 d0, .slice F0 Y.ls.length x0, .slice F0' Y.ks.length x0'] by rw [← hW3]; exact Blk.new w2 _ _)
 have hu13 := hu2.trans hu3
 have HC3 := Lib.hid (B2_.out.upd hu13 (fun f => f))
 have HL3 := Lib.hid (hl2.old (D' := grow D W1 W3) (Within.old (hD1.grow hu2.size) hu3) (fun q hq => hq.elim (fun h => .inl h) (fun h => .inr ⟨h.1, Nat.lt_of_lt_of_le h.2 hu3.size⟩)))
 have hz2 := hu2.size
 have g0 : W3.cell? ⟨w2.heap.size, 0, none⟩ = some (.int .i64 kk) := HG3.out.cell 0
 have g1 : W3.cell? ⟨w.heap.size, 0, none⟩ = some (.int .i64 k) := (HB0.out.upd hu13 (fun f => f)).cell 0
 have l0 := HG3.out.lt
 have l1 := (HB0.out.upd hu13 (fun f => f)).lt
 have r3 := HG3.out.rowAt
 have HS3 := Lib.hid hs3
 clear hl2 hb2 hkk hs3
 have hD3 : Within (grow D W1 W3) W3 := hD1.grow hu13.size
 by_cases h1 : kk = 0
 · have e1 : (kk == 0) = true := by simp [h1]
   by_cases h2 : k = 0
   · have e2 : (k != 0) = false := by simp [h2]
     have HX2 := Lib.hid (show (X1, X2) = wapply Y args by rw [HX.out, if_neg (fun h => h.2 h2)])
     clear h1 h2
     go_wp2_with (first
      | ((with_reducible refine this_op (.load 28 (.tmp 8)) ?_); refine wpList_at rfl 28 (.tmp 8) rfl ⟨w2.heap.size, 0, none⟩ rfl _ _ r3 Tryz.underlying28 rfl tm_size ?_))
     have HW3 := Lib.hid hW3
     clear hW3
     have hcall := wapply_any Y _ args A c (grow D W1 W3) W3 hD3 HL3.out hal (ha.old (hD.old (huW1.trans hu13)) (fun _ h => .inl h))
     rw [← HX2.out, HN.out] at hcall
     refine hcall.mono ?_
     clear hcall
     rintro e w5 ⟨cs5, rfl, hl5, hb5⟩
     have hu5 : Upd nob W3 w5 := Upd.of_below hb5
     have C5 := HC3.out.upd hu5 (fun f => f)
     have hs5 := hl5.oneCell
     have hsi5 : (Tryz.prog.info? 28).map (·.size) = some cs5.size := by rw [hs5.1]; exact tm_size
     have hz5 := hu5.size
     have hz3 := HS3.out
     go_wp2_with (first
      | ((with_reducible refine this_op (.store 28 (.tmp 6) (.tmp 24)) ?_); refine wpList_store_row rfl 28 (.tmp 6) (.tmp 24) rfl (w.heap.size + 1) _ rfl rfl 28 _ C5 hsi5 (by rw [hs5.1]; rfl) hs5.2 ?_))
     refine bodyPost_ret (results_cell_tmp rfl _ _ (w.heap.size + 1) 28 cs5 (0, 0) _ _ rfl rfl (C5.row _) Tryz.underlying28 rfl hsi5) rfl ?_
     have h9 := res_tm (g := (w.heap.size + 1)) hD huW1 (hu13.trans hu5) (by omega) (by omega) (hl5.old (D' := grow D W1 w5) (Old.refl _ _) (fun q hq => hq.elim (fun h => h.elim (fun h => .inl h) (fun h => .inr ⟨h.1, by have := h.2; omega⟩)) (fun h => .inr ⟨by have := h.1; omega, h.2⟩)))
     exact ⟨cs5, rfl, h9.1, h9.2⟩
   have e2 : (k != 0) = true := by simp [h2]
   have HX2 := Lib.hid (show (X1, X2) = (tmz, false) by rw [HX.out, if_pos ⟨by rw [HKK.out]; exact h1, h2⟩])
   clear h1 h2
   go_wp2_with (first
    | ((with_reducible refine this_op (.store 28 (.tmp 6) (.tmp 20)) ?_); refine wpList_store_row rfl 28 (.tmp 6) (.tmp 20) rfl (w.heap.size + 1) _ rfl rfl 28 _ HC3.out tm_size rfl (by simp [Value.oneCell']) ?_))
   refine bodyPost_ret (results_cell_tmp rfl _ _ (w.heap.size + 1) 28 #[.int .i64 0, .int .i64 0, .string ByteArray.empty, .int .i64 0, .int .i64 0, .slice none 0 0, .slice none 0 0, .slice none 0 0] (0, 0) _ _ rfl rfl (HC3.out.row _) Tryz.underlying28 rfl tm_size) rfl ?_
   have hx := HX2.out
   injection hx with hx1 hx2
   rw [hx1, hx2]
   have hz3 := HS3.out
   exact ⟨_, rfl, TmIs.short _ _ (by unfold InI; omega) (by unfold InI; omega), fin_row (huW1.trans hu13).below (by omega) _⟩
 have e1 : (kk == 0) = false := by simp [h1]
 have HX2 := Lib.hid (show (X1, X2) = wapply Y args by rw [HX.out, if_neg (fun h => h1 (by rw [← HKK.out]; exact h.1))])
 clear h1
 go_wp2_with (first
  | ((with_reducible refine this_op (.load 28 (.tmp 8)) ?_); refine wpList_at rfl 28 (.tmp 8) rfl ⟨w2.heap.size, 0, none⟩ rfl _ _ r3 Tryz.underlying28 rfl tm_size ?_))
 have HW3 := Lib.hid hW3
 clear hW3
 have hcall := wapply_any Y _ args A c (grow D W1 W3) W3 hD3 HL3.out hal (ha.old (hD.old (huW1.trans hu13)) (fun _ h => .inl h))
 rw [← HX2.out, HN.out] at hcall
 refine hcall.mono ?_
 clear hcall
 rintro e w5 ⟨cs5, rfl, hl5, hb5⟩
 have hu5 : Upd nob W3 w5 := Upd.of_below hb5
 have C5 := HC3.out.upd hu5 (fun f => f)
 have hs5 := hl5.oneCell
 have hsi5 : (Tryz.prog.info? 28).map (·.size) = some cs5.size := by rw [hs5.1]; exact tm_size
 have hz5 := hu5.size
 have hz3 := HS3.out
 go_wp2_with (first
  | ((with_reducible refine this_op (.store 28 (.tmp 6) (.tmp 24)) ?_); refine wpList_store_row rfl 28 (.tmp 6) (.tmp 24) rfl (w.heap.size + 1) _ rfl rfl 28 _ C5 hsi5 (by rw [hs5.1]; rfl) hs5.2 ?_))
 refine bodyPost_ret (results_cell_tmp rfl _ _ (w.heap.size + 1) 28 cs5 (0, 0) _ _ rfl rfl (C5.row _) Tryz.underlying28 rfl hsi5) rfl ?_
 have h9 := res_tm (g := (w.heap.size + 1)) hD huW1 (hu13.trans hu5) (by omega) (by omega) (hl5.old (D' := grow D W1 w5) (Old.refl _ _) (fun q hq => hq.elim (fun h => h.elim (fun h => .inl h) (fun h => .inr ⟨h.1, by have := h.2; omega⟩)) (fun h => .inr ⟨by have := h.1; omega, h.2⟩)))
 exact ⟨cs5, rfl, h9.1, h9.2⟩
end Go.Proofs.YtiampoebdmflgaaGreat
/- Globals, environments: what it means that memory holds them. -/
namespace Go.Proofs.YtiampoebdmflgaaGreat
open Go.RowKit
set_option linter.unusedVariables false
set_option maxRecDepth 100000
set_option maxHeartbeats 1000000
structure Rul where
 ctor : ByteArray
 fields : Int
 body : Tm
structure Glb where
 kind : Int
 nm : ByteArray
 vars : Int
 ty : Tm
 val : Tm
 ind : ByteArray
 params : Int
 indices : Int
 fields : Int
 ctors : List ByteArray
 minors : Int
 rules : List Rul
def StrsAt (D : Nat → Prop) (w : World) (l : List ByteArray) (A : Option Addr) : Prop := ∀ (j : Nat) s, l[j]? = some s → ∃ a, A = some a ∧ D a.block ∧ w.cell? (a.add j) = some (.string s)
theorem StrsAt.old {D D' : Nat → Prop} {w w' : World} {l : List ByteArray} {A : Option Addr} (h : StrsAt D w l A) (ho : Old D w w') (hD : ∀ k, D k → D' k) : StrsAt D' w' l A := fun j s hj => by
 obtain ⟨a, h1, h2, h3⟩ := h j s hj
 exact ⟨a, h1, hD _ h2, (ho.cell (by rw [Addr_add_block]; exact h2)).trans h3⟩
def RuIs (D : Nat → Prop) (w : World) (r : Rul) (cs : Array Value) : Prop := ∃ bc, cs = #[Value.string r.ctor, .int .i64 r.fields] ++ bc ∧ InI r.fields ∧ r.ctor.size ≤ 140737488351232 ∧ TmIs D w r.body bc
theorem RuIs.old {D D' : Nat → Prop} {w w' : World} {r : Rul} {cs : Array Value} (ho : Old D w w') (hD : ∀ k, D k → D' k) (h : RuIs D w r cs) : RuIs D' w' r cs := by
 obtain ⟨bc, h1, h2, h3, h4⟩ := h
 exact ⟨bc, h1, h2, h3, h4.old ho hD⟩
theorem RuIs.cells {D : Nat → Prop} {w : World} {r : Rul} {cs : Array Value} (h : RuIs D w r cs) : cs.size = 10 ∧ cs.all (·.oneCell') = true := by
 obtain ⟨bc, rfl, _, _, h4⟩ := h
 have h5 := h4.oneCell
 refine ⟨by rw [Array.size_append, h5.1]; rfl, ?_⟩
 rw [Array.all_append, h5.2]
 simp [Value.oneCell']
def ruR : Reading Rul 10 := ⟨RuIs, fun ho hD h => h.old ho hD, fun h => h.cells⟩
def RusAt (D : Nat → Prop) (w : World) (l : List Rul) (A : Option Addr) : Prop := ∀ (j : Nat) r, l[j]? = some r → ∃ a cs, A = some a ∧ D a.block ∧ rowAt w (a.add (j * 10)) cs ∧ RuIs D w r cs
theorem RusAt.old {D D' : Nat → Prop} {w w' : World} {l : List Rul} {A : Option Addr} (h : RusAt D w l A) (ho : Old D w w') (hD : ∀ k, D k → D' k) : RusAt D' w' l A := fun j r hj => by
 obtain ⟨a, cs, h1, h2, h3, h4⟩ := h j r hj
 exact ⟨a, cs, h1, hD _ h2, h3.old ho (by rw [Addr_add_block]; exact h2), h4.old ho hD⟩
def GlIs (D : Nat → Prop) (w : World) (g : Glb) (cs : Array Value) : Prop :=
 ∃ (a0 a1 a2 a3 a4 a5 a6 a7 b0 b1 b2 b3 b4 b5 b6 b7 : Value) (C : Option Addr) (cc : Nat) (R : Option Addr) (rc : Nat), cs = #[.int .i64 g.kind, .string g.nm, .int .i64 g.vars, a0, a1, a2, a3, a4, a5, a6, a7, b0, b1, b2, b3, b4, b5, b6, b7, .string g.ind, .int .i64 g.params, .int .i64 g.indices, .int .i64 g.fields, .slice C g.ctors.length cc, .int .i64 g.minors, .slice R g.rules.length rc] ∧
  (InI g.kind ∧ InI g.vars ∧ InI g.params ∧ InI g.indices ∧ InI g.fields ∧ InI g.minors) ∧ (g.nm.size ≤ 140737488351232 ∧ g.ind.size ≤ 140737488351232) ∧
  TmIs D w g.ty #[a0, a1, a2, a3, a4, a5, a6, a7] ∧ TmIs D w g.val #[b0, b1, b2, b3, b4, b5, b6, b7] ∧ StrsAt D w g.ctors C ∧ (g.ctors.length * 16 ≤ 140737488351232 ∧ g.ctors.length ≤ cc) ∧ RusAt D w g.rules R ∧ (g.rules.length * 144 ≤ 140737488351232 ∧ g.rules.length ≤ rc)
theorem GlIs.old {D D' : Nat → Prop} {w w' : World} {g : Glb} {cs : Array Value} (ho : Old D w w') (hD : ∀ k, D k → D' k) (h : GlIs D w g cs) : GlIs D' w' g cs := by
 obtain ⟨a0, a1, a2, a3, a4, a5, a6, a7, b0, b1, b2, b3, b4, b5, b6, b7, C, cc, R, rc, h1, h2, h3, h4, h5, h6, h7, h8, h9⟩ := h
 exact ⟨a0, a1, a2, a3, a4, a5, a6, a7, b0, b1, b2, b3, b4, b5, b6, b7, C, cc, R, rc, h1, h2, h3, h4.old ho hD, h5.old ho hD, h6.old ho hD, h7, h8.old ho hD, h9⟩
theorem GlIs.cells {D : Nat → Prop} {w : World} {g : Glb} {cs : Array Value} (h : GlIs D w g cs) : cs.size = 26 ∧ cs.all (·.oneCell') = true := by
 obtain ⟨a0, a1, a2, a3, a4, a5, a6, a7, b0, b1, b2, b3, b4, b5, b6, b7, C, cc, R, rc, rfl, _, _, h4, h5, _, _, _, _⟩ := h
 have q4 := h4.oneCell.2
 have q5 := h5.oneCell.2
 refine ⟨rfl, ?_⟩
 simp [Value.oneCell'] at q4 q5 ⊢
 simp [q4, q5]
/-! ### Maps of strings to pointers -/
def mapE (l : List (ByteArray × Value)) : Array MapEntry := (l.mapIdx fun i x => (⟨.string x.1, x.2, i⟩ : MapEntry)).toArray
theorem mapE_size (l : List (ByteArray × Value)) : (mapE l).size = l.length := by simp [mapE]
theorem mapE_push (l : List (ByteArray × Value)) (s : ByteArray) (v : Value) : (mapE l).push ⟨.string s, v, l.length⟩ = mapE (l ++ [(s, v)]) := by
 simp [mapE, List.mapIdx_append]
def mlook (l : List (ByteArray × Value)) (s : ByteArray) : Option Value := (l.find? fun x => x.1 == s).map (·.2)
def MapIs (w : World) (b : Nat) (l : List (ByteArray × Value)) : Prop := w.heap[b]? = some (.map (mapE l) l.length)
theorem MapIs.lt {w : World} {b : Nat} {l : List (ByteArray × Value)} (h : MapIs w b l) : b < w.heap.size := (Array.getElem?_eq_some_iff.1 h).1
theorem MapIs.upd {S : Nat → Prop} {w w' : World} {b : Nat} {l : List (ByteArray × Value)} (h : MapIs w b l) (hu : Upd S w w') (hS : ¬ S b) : MapIs w' b l := (hu.block b h.lt hS).trans h
theorem MapIs.old {D : Nat → Prop} {w w' : World} {b : Nat} {l : List (ByteArray × Value)} (h : MapIs w b l) (ho : Old D w w') (hb : D b) : MapIs w' b l := (ho b hb).trans h
theorem MapIs.new (w : World) : MapIs (w.alloc (.map #[] 0)) w.heap.size [] := by
 have := heap_alloc_new w (.map #[] 0)
 simpa [MapIs, mapE] using this
theorem beq_bytes (a b : ByteArray) : (a == b) = decide (a = b) := by
 have h := MapKept.bytes_beq a b
 cases hc : (a == b) with
 | true => simp [h.1 hc]
 | false =>
  have : ¬ a = b := fun e => by rw [h.2 e] at hc; cases hc
  simp [this]
theorem findNow_str (s : ByteArray) : ∀ (l : List (ByteArray × Value)) (k i : Nat),
    Instr.findNow .string (.string s) (l.mapIdx fun i x => (⟨.string x.1, x.2, k + i⟩ : MapEntry)) i = some ((l.findIdx? fun x => x.1 == s).bind fun j => (l[j]?).map fun x => (i + j, x.2))
 | [], k, i => rfl
 | x :: l, k, i => by
  have e : ((x :: l).mapIdx fun i x => (⟨.string x.1, x.2, k + i⟩ : MapEntry)) = ⟨.string x.1, x.2, k⟩ :: (l.mapIdx fun i x => (⟨.string x.1, x.2, (k + 1) + i⟩ : MapEntry)) := by
   simp only [List.mapIdx_cons, Nat.add_zero]
   congr 2
   funext i x
   rw [show k + (i + 1) = k + 1 + i by omega]
  rw [e, Instr.findNow]
  have hb : Instr.sameNow .string (.string s) (.string x.1) = some (s == x.1) := rfl
  have hsw : (s == x.1) = (x.1 == s) := by rw [beq_bytes, beq_bytes]; by_cases h : s = x.1 <;> simp [h, eq_comm]
  simp only [hb, hsw]
  rw [List.findIdx?_cons]
  cases hc : (x.1 == s) with
  | true => simp
  | false =>
   simp only
   rw [findNow_str s l (k + 1) (i + 1)]
   cases hq : l.findIdx? (fun x => x.1 == s) with
   | none => simp
   | some j =>
    simp only [Option.bind_some, Option.map_some, Bool.false_eq_true, if_false, List.getElem?_cons_succ]
    cases l[j]? with
    | none => rfl
    | some y => simp only [Option.map_some]; rw [show i + 1 + j = i + (j + 1) by omega]
theorem find_idx (l : List (ByteArray × Value)) (s : ByteArray) : ((l.findIdx? fun x => x.1 == s).bind fun j => (l[j]?).map fun x => x.2) = mlook l s := by
 unfold mlook
 induction l with
 | nil => rfl
 | cons x l ih =>
  rw [List.findIdx?_cons, List.find?_cons]
  cases hc : (x.1 == s) with
  | true => simp
  | false =>
   simp only
   rw [← ih]
   cases hq : l.findIdx? (fun x => x.1 == s) with
   | none => simp
   | some j => simp
section
variable {P : Program} {w : World} {b : Nat} {l : List (ByteArray × Value)} {mty kt et : TypeId}
theorem run_look (hm : P.underlying mty = some (.map kt et)) (hd : P.underlying kt = some .string) (hz : (zeroValue et).run P w = .ok (.pointer none) w) (h : MapIs w b l) (s : ByteArray) :
    (Instr.lookup mty (.map (some b)) (.string s) false).run P w = .ok ((mlook l s).getD (.pointer none)) w := by
 have hk : MapKept.IsKey .string (.string s) := trivial
 have hf : Instr.findNow .string (.string s) (mapE l).toList 0 = some ((l.findIdx? fun x => x.1 == s).bind fun j => (l[j]?).map fun x => (0 + j, x.2)) := by
  have := findNow_str s l 0 0
  simpa [mapE] using this
 have hl := find_idx l s
 simp only [Instr.lookup, Sem.run_bind, run_underlying hm, MapKept.run_getObj_map h, Result.andThen, MapKept.run_checkKey hd hk, MapKept.run_findKey hd hf, Sem.run_pure]
 cases hq : (l.findIdx? fun x => x.1 == s) with
 | none =>
  rw [hq] at hl
  simp only [Option.bind_none] at hl ⊢
  rw [← hl]
  simp [hz]
 | some j =>
  rw [hq] at hl
  simp only [Option.bind_some] at hl ⊢
  cases hj : l[j]? with
  | none =>
   rw [hj] at hl
   simp only [Option.map_none] at hl ⊢
   rw [← hl]; simp [hz]
  | some x =>
   rw [hj] at hl
   simp only [Option.map_some] at hl ⊢
   rw [← hl]; simp
end
end Go.Proofs.YtiampoebdmflgaaGreat
/- Environments: find. -/
namespace Go.Proofs.YtiampoebdmflgaaGreat
open Go.RowKit
set_option linter.unusedVariables false
set_option maxRecDepth 100000
set_option maxHeartbeats 4000000
set_option linter.unusedSimpArgs false
def envM (G : List Glb) (ps : List Nat) : List (ByteArray × Value) := (G.zip ps).map fun x => (x.1.nm, .pointer (some ⟨x.2, 0, none⟩))
def EnvIs (D : Nat → Prop) (w : World) (eb : Nat) (G : List Glb) : Prop :=
 ∃ (L : Option Addr) (c mb : Nat) (ps : List Nat), ps.length = G.length ∧ D eb ∧ Blk w eb 118 #[.slice L G.length c, .map (some mb)] ∧ (G.length ≤ c ∧ G.length ≤ 1000000000) ∧
  (∀ (j : Nat) p, ps[j]? = some p → ∃ a, L = some a ∧ D a.block ∧ w.cell? (a.add j) = some (.pointer (some ⟨p, 0, none⟩))) ∧ D mb ∧ MapIs w mb (envM G ps) ∧
  (∀ (j : Nat) g p, G[j]? = some g → ps[j]? = some p → D p ∧ ∃ cs, Blk w p 50 cs ∧ GlIs D w g cs) ∧ (G.map (·.nm)).Nodup
theorem EnvIs.old {D D' : Nat → Prop} {w w' : World} {eb : Nat} {G : List Glb} (h : EnvIs D w eb G) (ho : Old D w w') (hD : ∀ k, D k → D' k) : EnvIs D' w' eb G := by
 obtain ⟨L, c, mb, ps, h1, h2, h3, h4, h5, h6, h7, h8, h9⟩ := h
 refine ⟨L, c, mb, ps, h1, hD _ h2, (ho _ h2).trans h3, h4, fun j p hj => ?_, hD _ h6, h7.old ho h6, fun j g p hj hp => ?_, h9⟩
 · obtain ⟨a, q1, q2, q3⟩ := h5 j p hj
   exact ⟨a, q1, hD _ q2, (ho.cell (by rw [Addr_add_block]; exact q2)).trans q3⟩
 obtain ⟨q1, cs, q2, q3⟩ := h8 j g p hj hp
 exact ⟨hD _ q1, cs, (ho _ q1).trans q2, q3.old ho hD⟩
def EnvV (D : Nat → Prop) (w : World) (v : Value) (G : List Glb) : Prop := (v = .pointer none ∧ G = []) ∨ ∃ eb, v = .pointer (some ⟨eb, 0, none⟩) ∧ EnvIs D w eb G
theorem EnvV.old {D D' : Nat → Prop} {w w' : World} {v : Value} {G : List Glb} (h : EnvV D w v G) (ho : Old D w w') (hD : ∀ k, D k → D' k) : EnvV D' w' v G := by
 rcases h with h | ⟨eb, h1, h2⟩
 · exact .inl h
 exact .inr ⟨eb, h1, h2.old ho hD⟩
def gfind (G : List Glb) (nm : ByteArray) : Option Glb := G.find? fun g => g.nm == nm
def FoundIs (D : Nat → Prop) (w : World) (G : List Glb) (nm : ByteArray) (v : Value) : Prop :=
 (v = .pointer none ∧ gfind G nm = none) ∨ ∃ g b cs, v = .pointer (some ⟨b, 0, none⟩) ∧ gfind G nm = some g ∧ D b ∧ Blk w b 50 cs ∧ GlIs D w g cs
theorem FoundIs.old {D D' : Nat → Prop} {w w' : World} {G : List Glb} {nm : ByteArray} {v : Value} (h : FoundIs D w G nm v) (ho : Old D w w') (hD : ∀ k, D k → D' k) : FoundIs D' w' G nm v := by
 rcases h with h | ⟨g, b, cs, h1, h2, h3, h4, h5⟩
 · exact .inl h
 exact .inr ⟨g, b, cs, h1, h2, hD _ h3, (ho _ h3).trans h4, h5.old ho hD⟩
theorem look_env (nm : ByteArray) : ∀ (G : List Glb) (ps : List Nat), ps.length = G.length → (gfind G nm = none ∧ mlook (envM G ps) nm = none) ∨
    ∃ (j : Nat) (g : Glb) (p : Nat), G[j]? = some g ∧ ps[j]? = some p ∧ gfind G nm = some g ∧ mlook (envM G ps) nm = some (.pointer (some ⟨p, 0, none⟩))
 | [], ps, _ => .inl ⟨rfl, rfl⟩
 | g :: G, [], h => by cases h
 | g :: G, p :: ps, h => by
  have ih := look_env nm G ps (by simpa using h)
  unfold gfind mlook envM at ih ⊢
  simp only [List.zip_cons_cons, List.map_cons, List.find?_cons]
  cases hc : (g.nm == nm) with
  | true => exact .inr ⟨0, g, p, rfl, rfl, rfl, rfl⟩
  | false =>
   simp only
   rcases ih with ih | ⟨j, g', p', h1, h2, h3, h4⟩
   · exact .inl ih
   exact .inr ⟨j + 1, g', p', by simpa using h1, by simpa using h2, h3, h4⟩
theorem run_look_op {P : Program} {w : World} {b : Nat} {l : List (ByteArray × Value)} {mty kt et : TypeId} {o : Oper} {a : Act} (x y : Operand) (ho : o.op = .lookup mty x y false) (s : ByteArray) (hx : a.eval x = .map (some b)) (hy : a.eval y = .string s)
    (hm : P.underlying mty = some (.map kt et)) (hd : P.underlying kt = some .string) (hz : (zeroValue et).run P w = .ok (.pointer none) w) (h : MapIs w b l) (v : Value) (hv : (mlook l s).getD (.pointer none) = v) :
    (execOp a.eval o).run P w = .ok (.value v) w := by
 have := run_look hm hd hz h s
 unfold execOp
 simp only [ho, hx, hy]
 simp [this, hv]
theorem gp_zero (w : World) : (zeroValue 88).run Tryz.prog w = .ok (.pointer none) w := by kernel_rfl
theorem find_any (v : Value) (G : List Glb) (nm : ByteArray) (D : Nat → Prop) (w : World) (hv : EnvV D w v G) :
    Calls Tryz.prog 42 #[v, .string nm] w fun e w' => ∃ p, e = .returned p ∧ FoundIs D w G nm p ∧ w' = w := by
 rcases hv with ⟨rfl, rfl⟩ | ⟨eb, rfl, L, c, mb, ps, h1, h2, h3, h4, h5, h6, h7, h8, h9⟩
 · go_enter Tryz.func42, Tryz.ntmps42
   go_wp2_with fail
   go_ret
   exact ⟨_, rfl, .inl ⟨rfl, rfl⟩, rfl⟩
 have p1 : w.cell? ⟨eb, 1, none⟩ = some (.map (some mb)) := h3.cell 1
 obtain ⟨q, hq, hf⟩ : ∃ q, (mlook (envM G ps) nm).getD (.pointer none) = q ∧ FoundIs D w G nm q := by
  rcases look_env nm G ps h1 with ⟨k1, k2⟩ | ⟨j, g, p, k1, k2, k3, k4⟩
  · exact ⟨_, rfl, .inl ⟨by rw [k2]; rfl, k1⟩⟩
  obtain ⟨k5, cs, k6, k7⟩ := h8 j g p k1 k2
  exact ⟨_, rfl, .inr ⟨g, p, cs, by rw [k4]; rfl, k3, k5, k6, k7⟩⟩
 have H7 := Lib.hid h7
 have HQ := Lib.hid hq
 have HF := Lib.hid hf
 clear h7 hq hf h8 h5 h9
 go_enter Tryz.func42, Tryz.ntmps42
 go_wp2_with (first
  | ((with_reducible refine this_op (.lookup 115 (.tmp 10) (.tmp 11) false) ?_); refine wpList_run rfl q _ (run_look_op (.tmp 10) (.tmp 11) rfl nm rfl rfl Tryz.underlying115 Tryz.underlying9 (gp_zero _) H7.out q HQ.out) ?_))
 go_ret
 exact ⟨_, rfl, HF.out, rfl⟩
end Go.Proofs.YtiampoebdmflgaaGreat
/- whnf: what step hands back. -/
namespace Go.Proofs.YtiampoebdmflgaaGreat
open Go.RowKit
set_option linter.unusedVariables false
set_option maxRecDepth 100000
set_option maxHeartbeats 4000000
set_option linter.unusedSimpArgs false
def BoxTms (D : Nat → Prop) (w : World) (b : Nat) (l : List Tm) : Prop := ∃ A c, Blk w b 26 #[.slice A l.length c] ∧ (l.length * 120 ≤ 140737488351232 ∧ l.length ≤ c) ∧ TmsAt D w l A 0
def BoxTm (D : Nat → Prop) (w : World) (b : Nat) (t : Tm) : Prop := ∃ cs, Blk w b 28 cs ∧ TmIs D w t cs
theorem BoxTms.old {D D' : Nat → Prop} {w w' : World} {b : Nat} {l : List Tm} (h : BoxTms D w b l) (ho : Old D w w') (hD : ∀ k, D k → D' k) (hb : w'.heap[b]? = w.heap[b]?) : BoxTms D' w' b l := by
 obtain ⟨A, c, h1, h2, h3⟩ := h
 exact ⟨A, c, hb.trans h1, h2, h3.old ho hD⟩
theorem BoxTm.old {D D' : Nat → Prop} {w w' : World} {b : Nat} {t : Tm} (h : BoxTm D w b t) (ho : Old D w w') (hD : ∀ k, D k → D' k) (hb : w'.heap[b]? = w.heap[b]?) : BoxTm D' w' b t := by
 obtain ⟨cs, h1, h2⟩ := h
 exact ⟨cs, hb.trans h1, h2.old ho hD⟩
theorem step1_any (h : Tm) (args : List Tm) (b6 b7 : Nat) (k0 body v : Tm) (vs : List Tm) (D : Nat → Prop) (w : World) (hD : Within D w) (hh : BoxTm D w b6 h) (ha : BoxTms D w b7 args) (hk : h.ks = [k0, body]) (hargs : args = v :: vs) :
    Calls Tryz.prog 87 #[.pointer (some ⟨b6, 0, none⟩), .pointer (some ⟨b7, 0, none⟩)] w fun e w' => ∃ cs', e = .returned (.tuple #[.agg cs', .bool (winst body v vs).2]) ∧ TmIs (grow D w w') w' (winst body v vs).1 cs' ∧ Below w.heap.size w w' := by
 have hz := tm_zero
 obtain ⟨⟨X1, X2⟩, hX⟩ : ∃ X, winst body v vs = X := ⟨_, rfl⟩
 rw [hX]
 have HX := Lib.hid hX
 clear hX
 obtain ⟨hcs, hb6, hh⟩ := hh
 obtain ⟨A, c, hb7, ⟨hal, hac⟩, hat⟩ := ha
 obtain ⟨hx, hy, hzz, HA1, hc1, HA2, hc2, rfl, _, _, _, _, _, _, ⟨hkl, hkc⟩, hks⟩ := hh.lit
 rw [hk] at hks hb6 hkc
 obtain ⟨a1, cs1, e1, d1, q1, t1⟩ := hks.at_ (j := 1) (l := body) rfl
 subst hargs
 obtain ⟨a2, cs2, e2, d2, q2, t2⟩ := hat.at_ (j := 0) (l := v) rfl
 subst e1 e2
 obtain ⟨N, hN⟩ : ∃ N, vs.length = N := ⟨_, rfl⟩
 have hl1 : (v :: vs).length = N + 1 := by rw [List.length_cons, hN]
 rw [hl1] at hb7 hal hac
 have hs1 := t1.oneCell
 have hsi1 : (Tryz.prog.info? 28).map (·.size) = some cs1.size := by rw [hs1.1]; exact tm_size
 have hs2 := t2.oneCell
 have hsi2 : (Tryz.prog.info? 28).map (·.size) = some cs2.size := by rw [hs2.1]; exact tm_size
 obtain ⟨A2, hA2⟩ : ∃ A2, (if c = 1 then some a2 else (some a2).map (·.add (1 * 8))) = A2 := ⟨_, rfl⟩
 have htail : TmsAt D w vs A2 0 := by
  have h1 := hat.drop 1 c (by rw [hl1]; exact hac)
  rw [hA2] at h1
  exact h1
 have lt6 := hb6.lt
 have lt7 := hb7.lt
 have c7 : w.cell? ⟨b6, 7, none⟩ = some (.slice (some a1) 2 hc2) := hb6.cell 7
 have c0 : w.cell? ⟨b7, 0, none⟩ = some (.slice (some a2) (N + 1) c) := hb7.cell 0
 have q1' : rowAt w (a1.add (1 * 8)) cs1 := by simpa using q1
 have q2' : rowAt w (a2.add (0 * 8)) cs2 := by simpa using q2
 clear q1 q2 hb6 hb7 hk hks hat hh
 obtain ⟨W1, hW1⟩ : ∃ W1, w.alloc (.cells #[.int .i64 0, .int .i64 0, .string ByteArray.empty, .int .i64 0, .int .i64 0, .slice none 0 0, .slice none 0 0, .slice none 0 0] 28) = W1 := ⟨_, rfl⟩
 have huW1 : Upd nob w W1 := by rw [← hW1]; exact (Upd.refl nob w).alloc _
 have hsW1 : W1.heap.size = w.heap.size + 1 := by rw [← hW1]; simp
 have HB := Lib.hid (show Blk W1 w.heap.size 28 #[.int .i64 0, .int .i64 0, .string ByteArray.empty, .int .i64 0, .int .i64 0, .slice none 0 0, .slice none 0 0, .slice none 0 0] by rw [← hW1]; exact Blk.new w _ _)
 have HW1 := Lib.hid hW1
 clear hW1
 have HA2 := Lib.hid hA2
 have HT := Lib.hid htail
 have HN := Lib.hid hN
 clear hA2 htail hN
 go_enter Tryz.func87, Tryz.ntmps87
 go_wp2_with fail
 rw [HW1.out]
 refine wp_region_P (by kernel_rfl) ?_
 refine wpAny_of_held (S := fun X : World => ∀ p : Addr, p.block < w.heap.size → X.cell? p = w.cell? p) _ _ _ _ ?_
 have hS : ∀ p : Addr, p.block < w.heap.size → W1.drew.cell? p = w.cell? p := fun p hp => huW1.cell hp (fun f => f)
 refine hT 0 ?_ rfl (by kernel_rfl) (by rfl) ?_ hS ?_
 rotate_left; · intro wx hx; clear hx; go_simp; with_reducible rfl
 try simp only [tl]
 refine hT 1 ?_ rfl (by kernel_rfl) (by rfl) ?_ hS ?_
 rotate_left
 · intro wx hx
   have q0 := (hx ⟨b6, 7, none⟩ lt6).trans c7
   clear hx
   go_simp
   with_reducible rfl
 try simp only [tl]
 refine hT 2 (.pointer (some (Addr.add a1 (1 * 8)))) rfl (by kernel_rfl) (by rfl) ?_ hS ?_
 · intro wx hx
   exact run_index_at 26 (.tmp 5) _ rfl _ a1 _ _ rfl rfl 1 rfl (by decide) 28 Tryz.underlying26 8 tm_size
 try simp only [tl]
 refine hT 3 (.agg cs1) rfl (by kernel_rfl) (by rfl) ?_ hS ?_
 · intro wx hx
   exact run_load_at 28 (.tmp 6) rfl (a1.add (1 * 8)) rfl cs1 _ (row_on q1' (by rw [Addr_add_block]; exact hD _ d1) hx) Tryz.underlying28 rfl hsi1
 try simp only [tl]
 refine hT 4 ?_ rfl (by kernel_rfl) (by rfl) ?_ hS ?_
 rotate_left
 · intro wx hx
   have q0 := (hx ⟨b7, 0, none⟩ lt7).trans c0
   clear hx
   go_simp
   with_reducible rfl
 try simp only [tl]
 refine hT 5 (.pointer (some (Addr.add a2 (0 * 8)))) rfl (by kernel_rfl) (by rfl) ?_ hS ?_
 · intro wx hx
   exact run_index_at 26 (.tmp 8) _ rfl _ a2 _ _ rfl rfl 0 rfl (by omega) 28 Tryz.underlying26 8 tm_size
 try simp only [tl]
 refine hT 6 (.agg cs2) rfl (by kernel_rfl) (by rfl) ?_ hS ?_
 · intro wx hx
   exact run_load_at 28 (.tmp 9) rfl (a2.add (0 * 8)) rfl cs2 _ (row_on q2' (by rw [Addr_add_block]; exact hD _ d2) hx) Tryz.underlying28 rfl hsi2
 try simp only [tl]
 refine hT 7 ?_ rfl (by kernel_rfl) (by rfl) ?_ hS ?_
 rotate_left
 · intro wx hx
   have q0 := (hx ⟨b7, 0, none⟩ lt7).trans c0
   clear hx
   go_simp
   with_reducible rfl
 try simp only [tl]
 refine hT 8 (.slice A2 N (c - 1)) rfl (by kernel_rfl) (by rfl) ?_ hS ?_
 · intro wx hx
   rw [← HA2.out]
   exact run_slice_l8 26 _ _ rfl (some a2) (N + 1) c rfl 1 rfl (by omega) und_tms 8 sz_tms
 try simp only [tl]
 refine wpAnyH_alone (i := 9) (by kernel_rfl) rfl (by rfl) fun K hK => ?_
 go_simp
 have hcall := winst_any body v cs1 cs2 vs A2 (c - 1) D W1.drew (hD.up huW1).drew (t1.old (hD.old (huW1.drew)) (fun _ h => h)) (t2.old (hD.old huW1.drew) (fun _ h => h)) (by rw [HN.out]; omega) (HT.out.old (hD.old huW1.drew) (fun _ h => h))
 rw [HN.out, HX.out] at hcall
 refine hcall.mono ?_
 clear hcall
 rintro e w5 ⟨cs5, rfl, hl5, hb5⟩
 have hu5 : Upd nob W1 w5 := ((Upd.refl nob W1).drew).trans (Upd.of_below hb5)
 have hu05 := huW1.trans hu5
 refine hK _ _ (fun p hp => hu05.cell hp (fun f => f)) ?_
 clear hK K; try simp only [tl]
 have hS : ∀ p : Addr, p.block < w.heap.size → w5.cell? p = w.cell? p := fun p hp => hu05.cell hp (fun f => f)
 have C5 := HB.out.upd hu5 (fun f => f)
 have hs5 := hl5.oneCell
 have hsi5 : (Tryz.prog.info? 28).map (·.size) = some cs5.size := by rw [hs5.1]; exact tm_size
 refine hT 10 ?_ rfl (by kernel_rfl) (by rfl) ?_ hS ?_
 rotate_left; · intro wx hx; clear hx; go_simp; with_reducible rfl
 try simp only [tl]
 refine hT 11 ?_ rfl (by kernel_rfl) (by rfl) ?_ hS ?_
 rotate_left; · intro wx hx; clear hx; go_simp; with_reducible rfl
 try simp only [tl]
 refine wpAnyH_alone (i := 12) (by kernel_rfl) rfl (by rfl) fun K hK => ?_
 refine owp_store_blk 28 (.tmp 2) (.tmp 14) rfl rfl w.heap.size cs5 rfl rfl 28 _ C5 hsi5 (by rw [hs5.1]; rfl) hs5.2 ?_
 have hS9 : ∀ p : Addr, p.block < w.heap.size → (w5.setRow w.heap.size cs5).cell? p = w.cell? p := fun p hp => (((Upd.refl (fun q => q = w.heap.size) w5).setRow (.inl rfl) _).cell (by have := hu05.size; omega) (fun h => by have : p.block = w.heap.size := h; omega)).trans (hS p hp)
 refine hK _ _ hS9 ?_
 clear hK K; try simp only [tl]
 have hS := hS9
 refine wpAnyH_alone (i := 13) (by kernel_rfl) rfl (by rfl) fun K hK => ?_
 go_simp
 refine hK _ _ hS ?_
 clear hK K; try simp only [tl]
 refine wpAnyH_done (by kernel_rfl) ?_ _
 refine NoPanic.normal ?_
 go_wp2_with fail
 refine bodyPost_ret (results_cell_tmp rfl _ _ w.heap.size 28 cs5 (0, 0) _ _ rfl rfl (C5.row _) Tryz.underlying28 rfl hsi5) rfl ?_
 have hz5 := hu5.size
 have h9 := res_tm (g := w.heap.size) hD huW1 hu5 (Nat.le_refl _) (by omega) (hl5.old (D' := grow D W1 w5) (Old.refl _ _) (fun q hq => hq))
 exact ⟨cs5, rfl, h9.1, h9.2⟩
end Go.Proofs.YtiampoebdmflgaaGreat
/- whnf: what step and iota hand back, more. -/
namespace Go.Proofs.YtiampoebdmflgaaGreat
open Go.RowKit
set_option linter.unusedVariables false
set_option maxRecDepth 100000
set_option maxHeartbeats 4000000
set_option linter.unusedSimpArgs false
theorem ru_size : (Tryz.prog.info? 132).map (·.size) = some 10 := by kernel_rfl
theorem step2_any (h : Tm) (args : List Tm) (b6 b7 : Nat) (k0 v body : Tm) (D : Nat → Prop) (w : World) (hD : Within D w) (hh : BoxTm D w b6 h) (ha : BoxTms D w b7 args) (hk : h.ks = [k0, v, body]) :
    Calls Tryz.prog 89 #[.pointer (some ⟨b6, 0, none⟩), .pointer (some ⟨b7, 0, none⟩)] w fun e w' => ∃ cs', e = .returned (.tuple #[.agg cs', .bool (winst body v args).2]) ∧ TmIs (grow D w w') w' (winst body v args).1 cs' ∧ Below w.heap.size w w' := by
 have hz := tm_zero
 obtain ⟨⟨X1, X2⟩, hX⟩ : ∃ X, winst body v args = X := ⟨_, rfl⟩
 rw [hX]
 have HX := Lib.hid hX
 clear hX
 obtain ⟨hcs, hb6, hh⟩ := hh
 obtain ⟨A, c, hb7, ⟨hal, hac⟩, hat⟩ := ha
 obtain ⟨hx, hy, hzz, HA1, hc1, HA2, hc2, rfl, _, _, _, _, _, _, ⟨hkl, hkc⟩, hks⟩ := hh.lit
 rw [hk] at hks hb6 hkc
 obtain ⟨a1, cs1, e1, d1, q1, t1⟩ := hks.at_ (j := 2) (l := body) rfl
 obtain ⟨a2, cs2, e2, d2, q2, t2⟩ := hks.at_ (j := 1) (l := v) rfl
 subst e1
 injection e2 with e2
 subst e2
 obtain ⟨N, hN⟩ : ∃ N, args.length = N := ⟨_, rfl⟩
 rw [hN] at hb7 hal hac
 have hs1 := t1.oneCell
 have hsi1 : (Tryz.prog.info? 28).map (·.size) = some cs1.size := by rw [hs1.1]; exact tm_size
 have hs2 := t2.oneCell
 have hsi2 : (Tryz.prog.info? 28).map (·.size) = some cs2.size := by rw [hs2.1]; exact tm_size
 have HT := Lib.hid hat
 have HN := Lib.hid hN
 clear hN
 have lt6 := hb6.lt
 have lt7 := hb7.lt
 have c7 : w.cell? ⟨b6, 7, none⟩ = some (.slice (some a1) 3 hc2) := hb6.cell 7
 have c0 : w.cell? ⟨b7, 0, none⟩ = some (.slice A N c) := hb7.cell 0
 have q1' : rowAt w (a1.add (2 * 8)) cs1 := by simpa using q1
 have q2' : rowAt w (a1.add (1 * 8)) cs2 := by simpa using q2
 clear q1 q2 hb6 hb7 hk hks hat hh
 obtain ⟨W1, hW1⟩ : ∃ W1, w.alloc (.cells #[.int .i64 0, .int .i64 0, .string ByteArray.empty, .int .i64 0, .int .i64 0, .slice none 0 0, .slice none 0 0, .slice none 0 0] 28) = W1 := ⟨_, rfl⟩
 have huW1 : Upd nob w W1 := by rw [← hW1]; exact (Upd.refl nob w).alloc _
 have hsW1 : W1.heap.size = w.heap.size + 1 := by rw [← hW1]; simp
 have HB := Lib.hid (show Blk W1 w.heap.size 28 #[.int .i64 0, .int .i64 0, .string ByteArray.empty, .int .i64 0, .int .i64 0, .slice none 0 0, .slice none 0 0, .slice none 0 0] by rw [← hW1]; exact Blk.new w _ _)
 have HW1 := Lib.hid hW1
 clear hW1
 go_enter Tryz.func89, Tryz.ntmps89
 go_wp2_with fail
 rw [HW1.out]
 refine wp_region_P (by kernel_rfl) ?_
 refine wpAny_of_held (S := fun X : World => ∀ p : Addr, p.block < w.heap.size → X.cell? p = w.cell? p) _ _ _ _ ?_
 have hS : ∀ p : Addr, p.block < w.heap.size → W1.drew.cell? p = w.cell? p := fun p hp => huW1.cell hp (fun f => f)
 refine hT 0 ?_ rfl (by kernel_rfl) (by rfl) ?_ hS ?_
 rotate_left; · intro wx hx; clear hx; go_simp; with_reducible rfl
 try simp only [tl]
 refine hT 1 ?_ rfl (by kernel_rfl) (by rfl) ?_ hS ?_
 rotate_left
 · intro wx hx
   have q0 := (hx ⟨b6, 7, none⟩ lt6).trans c7
   clear hx
   go_simp
   with_reducible rfl
 try simp only [tl]
 refine hT 2 (.pointer (some (Addr.add a1 (2 * 8)))) rfl (by kernel_rfl) (by rfl) ?_ hS ?_
 · intro wx hx
   exact run_index_at 26 (.tmp 5) _ rfl _ a1 _ _ rfl rfl 2 rfl (by decide) 28 Tryz.underlying26 8 tm_size
 try simp only [tl]
 refine hT 3 (.agg cs1) rfl (by kernel_rfl) (by rfl) ?_ hS ?_
 · intro wx hx
   exact run_load_at 28 (.tmp 6) rfl (a1.add (2 * 8)) rfl cs1 _ (row_on q1' (by rw [Addr_add_block]; exact hD _ d1) hx) Tryz.underlying28 rfl hsi1
 try simp only [tl]
 refine hT 4 ?_ rfl (by kernel_rfl) (by rfl) ?_ hS ?_
 rotate_left; · intro wx hx; clear hx; go_simp; with_reducible rfl
 try simp only [tl]
 refine hT 5 ?_ rfl (by kernel_rfl) (by rfl) ?_ hS ?_
 rotate_left
 · intro wx hx
   have q0 := (hx ⟨b6, 7, none⟩ lt6).trans c7
   clear hx
   go_simp
   with_reducible rfl
 try simp only [tl]
 refine hT 6 (.pointer (some (Addr.add a1 (1 * 8)))) rfl (by kernel_rfl) (by rfl) ?_ hS ?_
 · intro wx hx
   exact run_index_at 26 (.tmp 9) _ rfl _ a1 _ _ rfl rfl 1 rfl (by decide) 28 Tryz.underlying26 8 tm_size
 try simp only [tl]
 refine hT 7 (.agg cs2) rfl (by kernel_rfl) (by rfl) ?_ hS ?_
 · intro wx hx
   exact run_load_at 28 (.tmp 10) rfl (a1.add (1 * 8)) rfl cs2 _ (row_on q2' (by rw [Addr_add_block]; exact hD _ d2) hx) Tryz.underlying28 rfl hsi2
 try simp only [tl]
 refine hT 8 ?_ rfl (by kernel_rfl) (by rfl) ?_ hS ?_
 rotate_left
 · intro wx hx
   have q0 := (hx ⟨b7, 0, none⟩ lt7).trans c0
   clear hx
   go_simp
   with_reducible rfl
 try simp only [tl]
 refine wpAnyH_alone (i := 9) (by kernel_rfl) rfl (by rfl) fun K hK => ?_
 go_simp
 have hcall := winst_any body v cs1 cs2 args A c D W1.drew (hD.up huW1).drew (t1.old (hD.old (huW1.drew)) (fun _ h => h)) (t2.old (hD.old (huW1.drew)) (fun _ h => h)) (by rw [HN.out]; exact hal) (HT.out.old (hD.old (huW1.drew)) (fun _ h => h))
 rw [HN.out, HX.out] at hcall
 refine hcall.mono ?_
 clear hcall
 rintro e w5 ⟨cs5, rfl, hl5, hb5⟩
 have hu5 : Upd nob W1 w5 := ((Upd.refl nob W1).drew).trans (Upd.of_below hb5)
 have hu05 := huW1.trans hu5
 refine hK _ _ (fun p hp => hu05.cell hp (fun f => f)) ?_
 clear hK K; try simp only [tl]
 have hS : ∀ p : Addr, p.block < w.heap.size → w5.cell? p = w.cell? p := fun p hp => hu05.cell hp (fun f => f)
 have C5 := HB.out.upd hu5 (fun f => f)
 have hs5 := hl5.oneCell
 have hsi5 : (Tryz.prog.info? 28).map (·.size) = some cs5.size := by rw [hs5.1]; exact tm_size
 refine hT 10 ?_ rfl (by kernel_rfl) (by rfl) ?_ hS ?_
 rotate_left; · intro wx hx; clear hx; go_simp; with_reducible rfl
 try simp only [tl]
 refine hT 11 ?_ rfl (by kernel_rfl) (by rfl) ?_ hS ?_
 rotate_left; · intro wx hx; clear hx; go_simp; with_reducible rfl
 try simp only [tl]
 refine wpAnyH_alone (i := 12) (by kernel_rfl) rfl (by rfl) fun K hK => ?_
 refine owp_store_blk 28 (.tmp 2) (.tmp 14) rfl rfl w.heap.size cs5 rfl rfl 28 _ C5 hsi5 (by rw [hs5.1]; rfl) hs5.2 ?_
 have hS9 : ∀ p : Addr, p.block < w.heap.size → (w5.setRow w.heap.size cs5).cell? p = w.cell? p := fun p hp => (((Upd.refl (fun q => q = w.heap.size) w5).setRow (.inl rfl) _).cell (by have := hu05.size; omega) (fun h => by have : p.block = w.heap.size := h; omega)).trans (hS p hp)
 refine hK _ _ hS9 ?_
 clear hK K; try simp only [tl]
 have hS := hS9
 refine wpAnyH_alone (i := 13) (by kernel_rfl) rfl (by rfl) fun K hK => ?_
 go_simp
 refine hK _ _ hS ?_
 clear hK K; try simp only [tl]
 refine wpAnyH_done (by kernel_rfl) ?_ _
 refine NoPanic.normal ?_
 go_wp2_with fail
 refine bodyPost_ret (results_cell_tmp rfl _ _ w.heap.size 28 cs5 (0, 0) _ _ rfl rfl (C5.row _) Tryz.underlying28 rfl hsi5) rfl ?_
 have hz5 := hu5.size
 have h9 := res_tm (g := w.heap.size) hD huW1 hu5 (Nat.le_refl _) (by omega) (hl5.old (D' := grow D W1 w5) (Old.refl _ _) (fun q hq => hq))
 exact ⟨cs5, rfl, h9.1, h9.2⟩
theorem step3_any (h : Tm) (args : List Tm) (b8 b6 b7 gb : Nat) (gl : Glb) (gcs : Array Value) (D : Nat → Prop) (w : World) (hD : Within D w) (hb8 : Blk w b8 88 #[.pointer (some ⟨gb, 0, none⟩)]) (hg : Blk w gb 50 gcs) (hgl : GlIs D w gl gcs) (hh : BoxTm D w b6 h) (ha : BoxTms D w b7 args) :
    Calls Tryz.prog 90 #[.pointer (some ⟨b8, 0, none⟩), .pointer (some ⟨b6, 0, none⟩), .pointer (some ⟨b7, 0, none⟩)] w fun e w' => ∃ cs', e = .returned (.tuple #[.agg cs', .bool (wlevels gl.val h.ls args).2]) ∧ TmIs (grow D w w') w' (wlevels gl.val h.ls args).1 cs' ∧ Below w.heap.size w w' := by
 have hz := tm_zero
 obtain ⟨⟨X1, X2⟩, hX⟩ : ∃ X, wlevels gl.val h.ls args = X := ⟨_, rfl⟩
 rw [hX]
 have HX := Lib.hid hX
 clear hX
 obtain ⟨hcs, hb6, hh⟩ := hh
 obtain ⟨A, c, hb7, ⟨hal, hac⟩, hat⟩ := ha
 obtain ⟨hx, hy, hzz, HA1, hc1, HA2, hc2, rfl, _, _, _, _, ⟨hll, hlc⟩, hls, _, _⟩ := hh.lit
 obtain ⟨a0, a1, a2, a3, a4, a5, a6, a7, b0, b1, b2, b3, b4, b5, c6, c7, C, cc, R, rc, rfl, _, _, _, hval, _, _, _, _⟩ := hgl
 obtain ⟨N, hN⟩ : ∃ N, args.length = N := ⟨_, rfl⟩
 obtain ⟨M, hM⟩ : ∃ M, h.ls.length = M := ⟨_, rfl⟩
 rw [hN] at hb7 hal hac
 rw [hM] at hb6 hll hlc
 have HT := Lib.hid hat
 have HLS := Lib.hid hls
 have HV := Lib.hid hval
 have HN := Lib.hid hN
 have HM := Lib.hid hM
 clear hN hM
 have lt8 := hb8.lt
 have ltg := hg.lt
 have lt6 := hb6.lt
 have lt7 := hb7.lt
 have c8 : w.cell? ⟨b8, 0, none⟩ = some (.pointer (some ⟨gb, 0, none⟩)) := hb8.cell 0
 have cl6 : w.cell? ⟨b6, 6, none⟩ = some (.slice HA1 M hc1) := hb6.cell 6
 have cl0 : w.cell? ⟨b7, 0, none⟩ = some (.slice A N c) := hb7.cell 0
 have hval' : rowAt w ⟨gb, 11, none⟩ #[b0, b1, b2, b3, b4, b5, c6, c7] := sub_row (p := ⟨gb, 0, none⟩) hg.rowAt 11 _ (fun j v hv => by match j, hv with | 0, hv | 1, hv | 2, hv | 3, hv | 4, hv | 5, hv | 6, hv | 7, hv => exact hv | (j + 8), hv => simp at hv)
 clear hb8 hg hb6 hb7 hat hh hls hval
 obtain ⟨W1, hW1⟩ : ∃ W1, w.alloc (.cells #[.int .i64 0, .int .i64 0, .string ByteArray.empty, .int .i64 0, .int .i64 0, .slice none 0 0, .slice none 0 0, .slice none 0 0] 28) = W1 := ⟨_, rfl⟩
 have huW1 : Upd nob w W1 := by rw [← hW1]; exact (Upd.refl nob w).alloc _
 have hsW1 : W1.heap.size = w.heap.size + 1 := by rw [← hW1]; simp
 have HB := Lib.hid (show Blk W1 w.heap.size 28 #[.int .i64 0, .int .i64 0, .string ByteArray.empty, .int .i64 0, .int .i64 0, .slice none 0 0, .slice none 0 0, .slice none 0 0] by rw [← hW1]; exact Blk.new w _ _)
 have HW1 := Lib.hid hW1
 clear hW1
 go_enter Tryz.func90, Tryz.ntmps90
 go_wp2_with fail
 rw [HW1.out]
 refine wp_region_P (by kernel_rfl) ?_
 refine wpAny_of_held (S := fun X : World => ∀ p : Addr, p.block < w.heap.size → X.cell? p = w.cell? p) _ _ _ _ ?_
 have hS : ∀ p : Addr, p.block < w.heap.size → W1.drew.cell? p = w.cell? p := fun p hp => huW1.cell hp (fun f => f)
 refine hT 0 ?_ rfl (by kernel_rfl) (by rfl) ?_ hS ?_
 rotate_left
 · intro wx hx
   have q0 := (hx ⟨b8, 0, none⟩ lt8).trans c8
   clear hx
   go_simp
   with_reducible rfl
 try simp only [tl]
 refine hT 1 ?_ rfl (by kernel_rfl) (by rfl) ?_ hS ?_
 rotate_left; · intro wx hx; clear hx; go_simp; with_reducible rfl
 try simp only [tl]
 refine hT 2 ?_ rfl (by kernel_rfl) (by rfl) ?_ hS ?_
 rotate_left; · intro wx hx; clear hx; go_simp; with_reducible rfl
 try simp only [tl]
 refine hT 3 (.agg #[b0, b1, b2, b3, b4, b5, c6, c7]) rfl (by kernel_rfl) (by rfl) ?_ hS ?_
 · intro wx hx
   exact run_load_at 28 (.tmp 7) rfl ⟨gb, 11, none⟩ rfl #[b0, b1, b2, b3, b4, b5, c6, c7] _ (row_on hval' ltg hx) Tryz.underlying28 rfl tm_size
 try simp only [tl]
 refine hT 4 ?_ rfl (by kernel_rfl) (by rfl) ?_ hS ?_
 rotate_left; · intro wx hx; clear hx; go_simp; with_reducible rfl
 try simp only [tl]
 refine hT 5 ?_ rfl (by kernel_rfl) (by rfl) ?_ hS ?_
 rotate_left
 · intro wx hx
   have q0 := (hx ⟨b6, 6, none⟩ lt6).trans cl6
   clear hx
   go_simp
   with_reducible rfl
 try simp only [tl]
 refine hT 6 ?_ rfl (by kernel_rfl) (by rfl) ?_ hS ?_
 rotate_left
 · intro wx hx
   have q0 := (hx ⟨b7, 0, none⟩ lt7).trans cl0
   clear hx
   go_simp
   with_reducible rfl
 try simp only [tl]
 refine wpAnyH_alone (i := 7) (by kernel_rfl) rfl (by rfl) fun K hK => ?_
 go_simp
 have hcall := wlevels_any gl.val _ h.ls HA1 hc1 args A c D W1.drew (hD.up huW1).drew (HV.out.old (hD.old (huW1.drew)) (fun _ h => h)) (by rw [HM.out]; exact hll) (HLS.out.old (hD.old (huW1.drew)) (fun _ h => h)) (by rw [HN.out]; exact hal) (HT.out.old (hD.old (huW1.drew)) (fun _ h => h))
 rw [HN.out, HM.out, HX.out] at hcall
 refine hcall.mono ?_
 clear hcall
 rintro e w5 ⟨cs5, rfl, hl5, hb5⟩
 have hu5 : Upd nob W1 w5 := ((Upd.refl nob W1).drew).trans (Upd.of_below hb5)
 have hu05 := huW1.trans hu5
 refine hK _ _ (fun p hp => hu05.cell hp (fun f => f)) ?_
 clear hK K; try simp only [tl]
 have hS : ∀ p : Addr, p.block < w.heap.size → w5.cell? p = w.cell? p := fun p hp => hu05.cell hp (fun f => f)
 have C5 := HB.out.upd hu5 (fun f => f)
 have hs5 := hl5.oneCell
 have hsi5 : (Tryz.prog.info? 28).map (·.size) = some cs5.size := by rw [hs5.1]; exact tm_size
 refine hT 8 ?_ rfl (by kernel_rfl) (by rfl) ?_ hS ?_
 rotate_left; · intro wx hx; clear hx; go_simp; with_reducible rfl
 try simp only [tl]
 refine hT 9 ?_ rfl (by kernel_rfl) (by rfl) ?_ hS ?_
 rotate_left; · intro wx hx; clear hx; go_simp; with_reducible rfl
 try simp only [tl]
 refine wpAnyH_alone (i := 10) (by kernel_rfl) rfl (by rfl) fun K hK => ?_
 refine owp_store_blk 28 (.tmp 3) (.tmp 13) rfl rfl w.heap.size cs5 rfl rfl 28 _ C5 hsi5 (by rw [hs5.1]; rfl) hs5.2 ?_
 have hS9 : ∀ p : Addr, p.block < w.heap.size → (w5.setRow w.heap.size cs5).cell? p = w.cell? p := fun p hp => (((Upd.refl (fun q => q = w.heap.size) w5).setRow (.inl rfl) _).cell (by have := hu05.size; omega) (fun h => by have : p.block = w.heap.size := h; omega)).trans (hS p hp)
 refine hK _ _ hS9 ?_
 clear hK K; try simp only [tl]
 have hS := hS9
 refine wpAnyH_alone (i := 11) (by kernel_rfl) rfl (by rfl) fun K hK => ?_
 go_simp
 refine hK _ _ hS ?_
 clear hK K; try simp only [tl]
 refine wpAnyH_done (by kernel_rfl) ?_ _
 refine NoPanic.normal ?_
 go_wp2_with fail
 refine bodyPost_ret (results_cell_tmp rfl _ _ w.heap.size 28 cs5 (0, 0) _ _ rfl rfl (C5.row _) Tryz.underlying28 rfl hsi5) rfl ?_
 have hz5 := hu5.size
 have h9 := res_tm (g := w.heap.size) hD huW1 hu5 (Nat.le_refl _) (by omega) (hl5.old (D' := grow D W1 w5) (Old.refl _ _) (fun q hq => hq))
 exact ⟨cs5, rfl, h9.1, h9.2⟩
theorem iota2_any (h : Tm) (args : List Tm) (b5 b16 b6 b18 gb k : Nat) (gl : Glb) (gcs : Array Value) (r : Rul) (D : Nat → Prop) (w : World) (hD : Within D w) (hb5 : Blk w b5 88 #[.pointer (some ⟨gb, 0, none⟩)]) (hb16 : Blk w b16 3 #[.int .i64 k]) (hg : Blk w gb 50 gcs) (hgl : GlIs D w gl gcs) (hr : gl.rules[k]? = some r)
    (hh : BoxTm D w b6 h) (ha : BoxTms D w b18 args) :
    Calls Tryz.prog 125 #[.pointer (some ⟨b5, 0, none⟩), .pointer (some ⟨b16, 0, none⟩), .pointer (some ⟨b6, 0, none⟩), .pointer (some ⟨b18, 0, none⟩)] w fun e w' => ∃ cs', e = .returned (.tuple #[.agg cs', .bool (wlevels r.body h.ls args).2]) ∧ TmIs (grow D w w') w' (wlevels r.body h.ls args).1 cs' ∧ Below w.heap.size w w' := by
 have hz := tm_zero
 obtain ⟨⟨X1, X2⟩, hX⟩ : ∃ X, wlevels r.body h.ls args = X := ⟨_, rfl⟩
 rw [hX]
 have HX := Lib.hid hX
 clear hX
 obtain ⟨hcs, hb6, hh⟩ := hh
 obtain ⟨A, c, hb7, ⟨hal, hac⟩, hat⟩ := ha
 obtain ⟨hx, hy, hzz, HA1, hc1, HA2, hc2, rfl, _, _, _, _, ⟨hll, hlc⟩, hls, _, _⟩ := hh.lit
 obtain ⟨a0, a1, a2, a3, a4, a5, a6, a7, b0, b1, b2, b3, b4, q5, q6, q7, C, cc, R, rc, rfl, _, _, _, _, _, _, hru, hrl⟩ := hgl
 obtain ⟨ra, rcs, hR, hrd, hrr, rbc, rfl, _, _, hbody⟩ := hru k r hr
 subst hR
 obtain ⟨p1, q1, B1, m1, d1, E1, x1, E1', x1', rfl⟩ := hbody.lit8
 have hkl : k < gl.rules.length := (List.getElem?_eq_some_iff.1 hr).1
 obtain ⟨N, hN⟩ : ∃ N, args.length = N := ⟨_, rfl⟩
 obtain ⟨M, hM⟩ : ∃ M, h.ls.length = M := ⟨_, rfl⟩
 obtain ⟨RL, hRL⟩ : ∃ RL, gl.rules.length = RL := ⟨_, rfl⟩
 rw [hN] at hb7 hal hac
 rw [hM] at hb6 hll hlc
 rw [hRL] at hg hkl
 have hbr : rowAt w ((ra.add (k * 10)).add 2) #[.int .i64 r.body.k, .int .i64 r.body.n, .string r.body.nm, .int .i64 p1, .int .i64 q1, .slice B1 m1 d1, .slice E1 r.body.ls.length x1, .slice E1' r.body.ks.length x1'] := sub_row hrr 2 #[.int .i64 r.body.k, .int .i64 r.body.n, .string r.body.nm, .int .i64 p1, .int .i64 q1, .slice B1 m1 d1, .slice E1 r.body.ls.length x1, .slice E1' r.body.ks.length x1'] (fun j v hv => by
  rw [Array.getElem?_append_right (by simp)]
  simpa using hv)
 have HT := Lib.hid hat
 have HLS := Lib.hid hls
 have HV := Lib.hid hbody
 have HN := Lib.hid hN
 have HM := Lib.hid hM
 clear hN hM hRL
 have lt5 := hb5.lt
 have lt16 := hb16.lt
 have ltg := hg.lt
 have lt6 := hb6.lt
 have lt7 := hb7.lt
 have c5 : w.cell? ⟨b5, 0, none⟩ = some (.pointer (some ⟨gb, 0, none⟩)) := hb5.cell 0
 have c16 : w.cell? ⟨b16, 0, none⟩ = some (.int .i64 k) := hb16.cell 0
 have cl6 : w.cell? ⟨b6, 6, none⟩ = some (.slice HA1 M hc1) := hb6.cell 6
 have cl0 : w.cell? ⟨b18, 0, none⟩ = some (.slice A N c) := hb7.cell 0
 have cr : w.cell? ⟨gb, 25, none⟩ = some (.slice (some ra) RL rc) := hg.cell 25
 clear hb5 hb16 hg hb6 hb7 hat hh hls hbody hrr
 obtain ⟨W1, hW1⟩ : ∃ W1, w.alloc (.cells #[.int .i64 0, .int .i64 0, .string ByteArray.empty, .int .i64 0, .int .i64 0, .slice none 0 0, .slice none 0 0, .slice none 0 0] 28) = W1 := ⟨_, rfl⟩
 have huW1 : Upd nob w W1 := by rw [← hW1]; exact (Upd.refl nob w).alloc _
 have hsW1 : W1.heap.size = w.heap.size + 1 := by rw [← hW1]; simp
 have HB := Lib.hid (show Blk W1 w.heap.size 28 #[.int .i64 0, .int .i64 0, .string ByteArray.empty, .int .i64 0, .int .i64 0, .slice none 0 0, .slice none 0 0, .slice none 0 0] by rw [← hW1]; exact Blk.new w _ _)
 have HW1 := Lib.hid hW1
 clear hW1
 go_enter Tryz.func125, Tryz.ntmps125
 go_wp2_with fail
 rw [HW1.out]
 refine wp_region_P (by kernel_rfl) ?_
 refine wpAny_of_held (S := fun X : World => ∀ p : Addr, p.block < w.heap.size → X.cell? p = w.cell? p) _ _ _ _ ?_
 have hS : ∀ p : Addr, p.block < w.heap.size → W1.drew.cell? p = w.cell? p := fun p hp => huW1.cell hp (fun f => f)
 refine hT 0 ?_ rfl (by kernel_rfl) (by rfl) ?_ hS ?_
 rotate_left
 · intro wx hx
   have q0 := (hx ⟨b5, 0, none⟩ lt5).trans c5
   clear hx
   go_simp
   with_reducible rfl
 try simp only [tl]
 refine hT 1 ?_ rfl (by kernel_rfl) (by rfl) ?_ hS ?_
 rotate_left; · intro wx hx; clear hx; go_simp; with_reducible rfl
 try simp only [tl]
 refine hT 2 ?_ rfl (by kernel_rfl) (by rfl) ?_ hS ?_
 rotate_left; · intro wx hx; clear hx; go_simp; with_reducible rfl
 try simp only [tl]
 refine hT 3 ?_ rfl (by kernel_rfl) (by rfl) ?_ hS ?_
 rotate_left
 · intro wx hx
   have q0 := (hx ⟨gb, 25, none⟩ ltg).trans cr
   clear hx
   go_simp
   with_reducible rfl
 try simp only [tl]
 refine hT 4 ?_ rfl (by kernel_rfl) (by rfl) ?_ hS ?_
 rotate_left
 · intro wx hx
   have q0 := (hx ⟨b16, 0, none⟩ lt16).trans c16
   clear hx
   go_simp
   with_reducible rfl
 try simp only [tl]
 refine hT 5 (.pointer (some (Addr.add ra (k * 10)))) rfl (by kernel_rfl) (by rfl) ?_ hS ?_
 · intro wx hx
   exact run_index_at 48 (.tmp 9) (.tmp 10) rfl _ ra _ _ rfl rfl k rfl hkl 132 Tryz.underlying48 10 ru_size
 try simp only [tl]
 refine hT 6 (.pointer (some ((ra.add (k * 10)).add 2))) rfl (by kernel_rfl) (by rfl) ?_ hS ?_
 · intro wx hx
   go_simp
 try simp only [tl]
 refine hT 7 (.agg #[.int .i64 r.body.k, .int .i64 r.body.n, .string r.body.nm, .int .i64 p1, .int .i64 q1, .slice B1 m1 d1, .slice E1 r.body.ls.length x1, .slice E1' r.body.ks.length x1']) rfl (by kernel_rfl) (by rfl) ?_ hS ?_
 · intro wx hx
   exact run_load_at 28 (.tmp 12) rfl ((ra.add (k * 10)).add 2) rfl #[.int .i64 r.body.k, .int .i64 r.body.n, .string r.body.nm, .int .i64 p1, .int .i64 q1, .slice B1 m1 d1, .slice E1 r.body.ls.length x1, .slice E1' r.body.ks.length x1'] _ (row_on hbr (by rw [Addr_add_block, Addr_add_block]; exact hD _ hrd) hx) Tryz.underlying28 rfl tm_size
 try simp only [tl]
 refine hT 8 ?_ rfl (by kernel_rfl) (by rfl) ?_ hS ?_
 rotate_left; · intro wx hx; clear hx; go_simp; with_reducible rfl
 try simp only [tl]
 refine hT 9 ?_ rfl (by kernel_rfl) (by rfl) ?_ hS ?_
 rotate_left
 · intro wx hx
   have q0 := (hx ⟨b6, 6, none⟩ lt6).trans cl6
   clear hx
   go_simp
   with_reducible rfl
 try simp only [tl]
 refine hT 10 ?_ rfl (by kernel_rfl) (by rfl) ?_ hS ?_
 rotate_left
 · intro wx hx
   have q0 := (hx ⟨b18, 0, none⟩ lt7).trans cl0
   clear hx
   go_simp
   with_reducible rfl
 try simp only [tl]
 refine wpAnyH_alone (i := 11) (by kernel_rfl) rfl (by rfl) fun K hK => ?_
 go_simp
 have hcall := wlevels_any r.body _ h.ls HA1 hc1 args A c D W1.drew (hD.up huW1).drew (HV.out.old (hD.old (huW1.drew)) (fun _ h => h)) (by rw [HM.out]; exact hll) (HLS.out.old (hD.old (huW1.drew)) (fun _ h => h)) (by rw [HN.out]; exact hal) (HT.out.old (hD.old (huW1.drew)) (fun _ h => h))
 rw [HN.out, HM.out, HX.out] at hcall
 refine hcall.mono ?_
 clear hcall
 rintro e w5 ⟨cs5, rfl, hl5, hb5⟩
 have hu5 : Upd nob W1 w5 := ((Upd.refl nob W1).drew).trans (Upd.of_below hb5)
 have hu05 := huW1.trans hu5
 refine hK _ _ (fun p hp => hu05.cell hp (fun f => f)) ?_
 clear hK K; try simp only [tl]
 have hS : ∀ p : Addr, p.block < w.heap.size → w5.cell? p = w.cell? p := fun p hp => hu05.cell hp (fun f => f)
 have C5 := HB.out.upd hu5 (fun f => f)
 have hs5 := hl5.oneCell
 have hsi5 : (Tryz.prog.info? 28).map (·.size) = some cs5.size := by rw [hs5.1]; exact tm_size
 refine hT 12 ?_ rfl (by kernel_rfl) (by rfl) ?_ hS ?_
 rotate_left; · intro wx hx; clear hx; go_simp; with_reducible rfl
 try simp only [tl]
 refine hT 13 ?_ rfl (by kernel_rfl) (by rfl) ?_ hS ?_
 rotate_left; · intro wx hx; clear hx; go_simp; with_reducible rfl
 try simp only [tl]
 refine wpAnyH_alone (i := 14) (by kernel_rfl) rfl (by rfl) fun K hK => ?_
 refine owp_store_blk 28 (.tmp 4) (.tmp 18) rfl rfl w.heap.size cs5 rfl rfl 28 _ C5 hsi5 (by rw [hs5.1]; rfl) hs5.2 ?_
 have hS9 : ∀ p : Addr, p.block < w.heap.size → (w5.setRow w.heap.size cs5).cell? p = w.cell? p := fun p hp => (((Upd.refl (fun q => q = w.heap.size) w5).setRow (.inl rfl) _).cell (by have := hu05.size; omega) (fun h => by have : p.block = w.heap.size := h; omega)).trans (hS p hp)
 refine hK _ _ hS9 ?_
 clear hK K; try simp only [tl]
 have hS := hS9
 refine wpAnyH_alone (i := 15) (by kernel_rfl) rfl (by rfl) fun K hK => ?_
 go_simp
 refine hK _ _ hS ?_
 clear hK K; try simp only [tl]
 refine wpAnyH_done (by kernel_rfl) ?_ _
 refine NoPanic.normal ?_
 go_wp2_with fail
 refine bodyPost_ret (results_cell_tmp rfl _ _ w.heap.size 28 cs5 (0, 0) _ _ rfl rfl (C5.row _) Tryz.underlying28 rfl hsi5) rfl ?_
 have hz5 := hu5.size
 have h9 := res_tm (g := w.heap.size) hD huW1 hu5 (Nat.le_refl _) (by omega) (hl5.old (D' := grow D W1 w5) (Old.refl _ _) (fun q hq => hq))
 exact ⟨cs5, rfl, h9.1, h9.2⟩
end Go.Proofs.YtiampoebdmflgaaGreat
