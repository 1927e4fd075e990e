/- Texts put one behind the other: Treb, Town, Tlift, Tlift2, Tinst, Tinst2, Slc. -/
import Derived.Test.YtiampoebdmflgaaGreatF2
/- term.rebuild: over whatever makes leaves anew. -/
namespace Go.Proofs.YtiampoebdmflgaaGreat
open Go.RowKit
set_option linter.unusedVariables false
attribute [local go_sem] Oper.semAt_some
set_option maxRecDepth 100000
set_option maxHeartbeats 4000000
set_option linter.unusedSimpArgs false
mutual
def treb (F : Tm → Int → Tm) : Tm → Int → Tm
 | .mk k n nm lv ls ks, i => if (Tm.mk k n nm lv ls ks).leaf = true then F (.mk k n nm lv ls ks) i else .mk k 0 ByteArray.empty lzero' [] (trebs F k (nk k ks.length) ks 0 i)
def trebs (F : Tm → Int → Tm) (k : Int) (N : Nat) : List Tm → Nat → Int → List Tm
 | [], _, _ => []
 | t :: ts, j, i => if j < N then treb F t (i + bnd k j) :: trebs F k N ts (j + 1) i else []
end
def rb (F : Tm → Int → Tm) (k : Int) (ks : List Tm) (i : Int) (q : Nat) : List Tm := (ks.take q).mapIdx fun j t => treb F t (i + bnd k j)
theorem trebs_eq (F : Tm → Int → Tm) (k : Int) (N : Nat) (i : Int) : ∀ (ks : List Tm) (j : Nat), trebs F k N ks j i = (ks.take (N - j)).mapIdx fun q t => treb F t (i + bnd k (j + q))
 | [], j => by simp [trebs]
 | t :: ts, j => by
  simp only [trebs]
  split
  · rename_i h
    obtain ⟨m, hm⟩ : ∃ m, N - j = m + 1 := ⟨N - j - 1, by omega⟩
    have := trebs_eq F k N i ts (j + 1)
    rw [hm, List.take_succ_cons, List.mapIdx_cons, this, show N - (j + 1) = m by omega]
    simp [Nat.add_assoc, Nat.add_comm 1]
  rename_i h
  rw [show N - j = 0 by omega]; simp
theorem trebs_rb (F : Tm → Int → Tm) (k : Int) (N : Nat) (ks : List Tm) (i : Int) : trebs F k N ks 0 i = rb F k ks i N := by
 rw [trebs_eq]; simp [rb]
theorem rb_succ (F : Tm → Int → Tm) (k : Int) (ks : List Tm) (i : Int) (q : Nat) (hq : q < ks.length) : rb F k ks i (q + 1) = rb F k ks i q ++ [treb F ks[q] (i + bnd k q)] := by
 unfold rb
 rw [List.take_add_one, List.getElem?_eq_getElem hq, Option.toList_some, List.mapIdx_append]
 have hl : (ks.take q).length = q := by simp; omega
 simp [hl]
theorem rb_len (F : Tm → Int → Tm) (k : Int) (ks : List Tm) (i : Int) (q : Nat) (hq : q ≤ ks.length) : (rb F k ks i q).length = q := by simp [rb]; omega
theorem meas_vh (t : Tm) : ∀ (d b : Int) (s : Int × Int), (tfold mStep t d b s).1 = true → d + t.vh ≤ 2001 := by
 induction t using Tm.ind with
 | h k n nm lv ls ks ih =>
  intro d b s h
  have hd : d ≤ 2000 := by
   simp only [tfold] at h
   split at h
   · rename_i hs; simp [mStep] at hs; exact hs.2
   simp at h
  have hl : ∀ (ts : List Tm), (∀ t ∈ ts, t ∈ ks) → ∀ (N j : Nat) (s : Int × Int), (tfolds mStep k N ts j (d + 1) b s).1 = true → d + 1 + Tm.vhs N ts j ≤ 2001 := by
   intro ts
   induction ts with
   | nil => intro _ N j s _; simp only [Tm.vhs]; omega
   | cons t ts iht =>
    intro hm N j s hf
    have h2 := fun s' hf' => iht (fun q hq => hm q (by simp [hq])) N (j + 1) s' hf'
    simp only [tfolds] at hf
    simp only [Tm.vhs]
    split at hf
    · rename_i hjN
      rw [if_pos hjN]
      split at hf
      · rename_i h1
        have h3 := ih t (hm t (by simp)) _ _ _ h1
        have h4 := h2 _ hf
        omega
      simp at hf
    rename_i hjN
    rw [if_neg hjN]
    have h5 : ∀ (ts : List Tm) (j : Nat), ¬ j < N → Tm.vhs N ts j = 0 := by
     intro ts
     induction ts with
     | nil => intro j _; simp only [Tm.vhs]
     | cons q qs iq => intro j hj; simp only [Tm.vhs]; rw [if_neg hj, iq (j + 1) (by omega)]; rfl
    rw [h5 ts (j + 1) (by omega)]
    omega
  simp only [tfold] at h
  split at h
  · have := hl ks (fun _ h => h) _ 0 _ h
    simp only [Tm.vh]; omega
  simp at h
theorem great_vh {t : Tm} (h : tgreat t = false) : t.vh ≤ 2000 := by
 unfold tgreat tmeas at h
 split at h
 · rename_i h1
   have := meas_vh t 1 0 (0, 0) h1
   omega
 simp at h
structure RVisit (P : Program) (vf : FuncId) (lb : Array Value) (D : Nat → Prop) (R : World → Prop) (F : Tm → Int → Tm) : Prop where
 enter : ∀ args w, (callFunc vf args).run P w = .ok (.enter vf args) w
 keep : ∀ W W', R W → Upd nob W W' → R W'
 call : ∀ t cs i W, t.leaf = true → TmIs D W t cs → R W → Within D W → 0 ≤ i → i ≤ 4611686018427387904 → Calls P vf (#[.agg cs, .int .i64 i] ++ lb) W fun e W' =>
  ∃ cs', e = .returned (.agg cs') ∧ TmIs (grow D W W') W' (F t i) cs' ∧ Below W.heap.size W W'
theorem treb_any {vf : FuncId} {lb : Array Value} {D : Nat → Prop} {R : World → Prop} {F : Tm → Int → Tm} (V : RVisit Tryz.prog vf lb D R F) (t : Tm) :
    ∀ (cs : Array Value) (i : Int) (w : World), TmIs D w t cs → R w → Within D w → 0 ≤ i → i + t.vh ≤ 4611686018427387904 →
     Calls Tryz.prog 129 #[.agg cs, .int .i64 i, .func (.func vf) #[] lb] w fun e w' =>
      ∃ cs', e = .returned (.agg cs') ∧ TmIs (grow D w w') w' (treb F t i) cs' ∧ Below w.heap.size w w' := by
 induction t using Tm.ind with
 | h k n nm lv ls ks ih =>
  intro cs i w hl hR hB h0 hi
  have hl0 := Lib.hid hl
  obtain ⟨x, y, z, A, c, A', c', rfl, hk, hn, hnm, hlv, hls1, hls, hks1, hks⟩ := hl.lit
  simp only [Tm.k, Tm.n, Tm.nm, Tm.lv, Tm.ls, Tm.ks] at hl0 hk hn hnm hlv hls1 hls hks1 hks ⊢
  have he := V.enter
  have hz := tm_zero
  obtain ⟨X, hX⟩ : ∃ X, treb F (.mk k n nm lv ls ks) i = X := ⟨_, rfl⟩
  rw [hX]
  have HX := Lib.hid hX; clear hX hl
  obtain ⟨W1, hW1⟩ : ∃ W1, (((w.alloc (.cells #[.int .i64 k, .int .i64 n, .string nm, x, y, z, .slice A ls.length c, .slice A' ks.length c'] 28)).alloc (.cells #[.int .i64 i] 3)).alloc (.cells #[.func (.func vf) #[] lb] 85)).alloc (.cells #[.int .i64 0, .int .i64 0, .string ByteArray.empty, .int .i64 0, .int .i64 0, .slice none 0 0, .slice none 0 0, .slice none 0 0] 28) = W1 := ⟨_, rfl⟩
  have huW1 : Upd nob w W1 := by rw [← hW1]; exact ((((Upd.refl nob w).alloc _).alloc _).alloc _).alloc _
  have hsW1 : W1.heap.size = w.heap.size + 4 := by rw [← hW1]; simp
  have b0 : Blk W1 (w.heap.size) 28 #[.int .i64 k, .int .i64 n, .string nm, x, y, z, .slice A ls.length c, .slice A' ks.length c'] := by
   rw [← hW1]
   have h := Blk.new (w) 28 #[.int .i64 k, .int .i64 n, .string nm, x, y, z, .slice A ls.length c, .slice A' ks.length c']
   exact ((h.alloc _).alloc _).alloc _
  have b1 : Blk W1 (w.heap.size + 1) 3 #[.int .i64 i] := by
   rw [← hW1]
   have h := Blk.new (w.alloc (.cells #[.int .i64 k, .int .i64 n, .string nm, x, y, z, .slice A ls.length c, .slice A' ks.length c'] 28)) 3 #[.int .i64 i]
   rw [World.size_alloc] at h
   exact (h.alloc _).alloc _
  have b2 : Blk W1 (w.heap.size + 1 + 1) 85 #[.func (.func vf) #[] lb] := by
   rw [← hW1]
   have h := Blk.new ((w.alloc (.cells #[.int .i64 k, .int .i64 n, .string nm, x, y, z, .slice A ls.length c, .slice A' ks.length c'] 28)).alloc (.cells #[.int .i64 i] 3)) 85 #[.func (.func vf) #[] lb]
   rw [World.size_alloc, World.size_alloc] at h
   exact h.alloc _
  have b3 : Blk W1 (w.heap.size + 1 + 1 + 1) 28 #[.int .i64 0, .int .i64 0, .string ByteArray.empty, .int .i64 0, .int .i64 0, .slice none 0 0, .slice none 0 0, .slice none 0 0] := by
   rw [← hW1]
   have h := Blk.new (((w.alloc (.cells #[.int .i64 k, .int .i64 n, .string nm, x, y, z, .slice A ls.length c, .slice A' ks.length c'] 28)).alloc (.cells #[.int .i64 i] 3)).alloc (.cells #[.func (.func vf) #[] lb] 85)) 28 #[.int .i64 0, .int .i64 0, .string ByteArray.empty, .int .i64 0, .int .i64 0, .slice none 0 0, .slice none 0 0, .slice none 0 0]
   rw [World.size_alloc, World.size_alloc, World.size_alloc] at h
   exact h
  have HW1 := Lib.hid hW1
  have r0 := b0.rowAt
  have B0 := Lib.hid b0
  have B1 := Lib.hid b1
  have B2 := Lib.hid b2
  have B3 := Lib.hid b3
  clear b0 b1 b2 b3 hW1
  refine callsIn_wide (n := 0).1 ?_
  refine callsIn_of_wp_marks Tryz.func129 rfl trivial ?_ rfl
  simp only [Tryz.ntmps129, List.size_toArray, List.length_cons, List.length_nil, Nat.reduceAdd, Nat.reduceSub, Array.replicate_succ, Array.replicate_zero, List.push_toArray, List.append_toArray, List.nil_append, List.cons_append]
  rw [← HW1.out] at r0
  gi_wp2_with (first
          | ((with_reducible refine this_opIn (.load 28 (.tmp 3)) ?_); refine wpListIn_at .out rfl 28 (.tmp 3) rfl ⟨w.heap.size, 0, none⟩ rfl _ _ r0 Tryz.underlying28 rfl tm_size ?_))
  rw [HW1.out]
  refine viaCalls (tleaf_any (.mk k n nm lv ls ks) _ D W1 (hl0.out.old (hB.old huW1) (fun _ h => h))) ?_
  rintro e w2 ⟨rfl, hb2⟩
  have hu2 : Upd nob W1 w2 := Upd.of_below hb2
  have u0 := (B0.out.upd hu2 (fun f => f)).rowAt
  have u1 := (B1.out.upd hu2 (fun f => f)).cell 0
  have u2 := (B2.out.upd hu2 (fun f => f)).cell 0
  have hDw2 := (hB.up huW1).up hu2
  have hlw2 := (hl0.out.old (hB.old huW1) (fun _ h => h)).old ((hB.up huW1).old hu2) (fun _ h => h)
  have hRw2 := V.keep _ _ (V.keep _ _ hR huW1) hu2
  have q1 : w2.cell? ⟨w.heap.size + 1, 0, none⟩ = some (.int .i64 i) := u1
  have q2 : w2.cell? ⟨w.heap.size + 1 + 1, 0, none⟩ = some (.func (.func vf) #[] lb) := u2
  clear u1 u2
  cases hlf : (Tm.mk k n nm lv ls ks).leaf with
  | true =>
   have HL := Lib.hid hlf; clear hlf
   gi_wp2_with (first
             | ((with_reducible refine this_opIn (.load 28 (.tmp 3)) ?_); refine wpListIn_at .out rfl 28 (.tmp 3) rfl ⟨w.heap.size, 0, none⟩ rfl _ _ u0 Tryz.underlying28 rfl tm_size ?_))
   refine viaCalls (V.call (.mk k n nm lv ls ks) _ i w2 HL.out hlw2 hRw2 hDw2 h0 (by have := hi; omega)) ?_
   rintro e w3 ⟨cs3, rfl, hl3, hb3⟩
   have hu3 : Upd nob w2 w3 := Upd.of_below hb3
   have hs3 := hl3.oneCell
   have hsi3 : (Tryz.prog.info? 28).map (·.size) = some cs3.size := by rw [hs3.1]; exact tm_size
   have C3 := (B3.out.upd hu2 (fun f => f)).upd hu3 (fun f => f)
   clear u0 q1 q2
   gi_wp2_with (first
             | ((with_reducible refine this_opIn (.store 28 (.tmp 6) (.tmp 15)) ?_); refine wpListIn_store_blk .out rfl 28 (.tmp 6) (.tmp 15) rfl rfl (w.heap.size + 1 + 1 + 1) cs3 rfl rfl 28 _ C3 hsi3 (by rw [hs3.1]; rfl) hs3.2 ?_))
   have hfin : Upd (fun q => q = w.heap.size + 1 + 1 + 1) w3 (w3.setRow (w.heap.size + 1 + 1 + 1) cs3) := (Upd.refl (fun q => q = w.heap.size + 1 + 1 + 1) w3).setRow (.inl rfl) _
   have hs9 : (w3.setRow (w.heap.size + 1 + 1 + 1) cs3).heap.size = w3.heap.size := by simp
   have hs2 := hu2.size
   have hs33 := hu3.size
   refine ⟨.agg cs3, results_cell_row rfl _ _ (w.heap.size + 1 + 1 + 1) 28 cs3 (0, 0) _ rfl (C3.row _) Tryz.underlying28 rfl hsi3, cs3, rfl, ?_, ((huW1.trans (hu2.trans hu3)).trans' hfin (fun q hq h => by omega)).below⟩
   have hX2 : X = F (.mk k n nm lv ls ks) i := by rw [← HX.out, treb, if_pos HL.out]
   rw [hX2]
   refine hl3.old (Old.of_upd hfin fun q hq => ?_) (fun q hq => ?_)
   · rcases hq with hq | hq
     · have := hB q hq; exact ⟨by omega, by omega⟩
     exact ⟨by omega, hq.2⟩
   rcases hq with hq | hq
   · exact .inl hq
   exact .inr ⟨by omega, by omega⟩
  | false =>
   have HL := Lib.hid hlf; clear hlf
   have q0 : w2.cell? ⟨w.heap.size, 0, none⟩ = some (.int .i64 k) := (B0.out.upd hu2 (fun f => f)).cell 0
   have hlb : w.heap.size < w2.heap.size := by have := hu2.size; omega
   have u4 := ((B0.out.upd hu2 (fun f => f)).alloc (.cells #[.int .i64 k, .int .i64 0, .string ByteArray.empty, .int .i64 0, .int .i64 0, .slice none 0 0, .slice none 0 0, .slice none 0 0] 28)).rowAt
   clear q1 q2 u0
   gi_wp2_with (first
             | ((with_reducible refine this_opIn (.load 28 (.tmp 3)) ?_); refine wpListIn_at .out rfl 28 (.tmp 3) rfl ⟨w.heap.size, 0, none⟩ rfl _ _ u4 Tryz.underlying28 rfl tm_size ?_))
   obtain ⟨W4, hW4⟩ : ∃ W4, w2.alloc (.cells #[.int .i64 k, .int .i64 0, .string ByteArray.empty, .int .i64 0, .int .i64 0, .slice none 0 0, .slice none 0 0, .slice none 0 0] 28) = W4 := ⟨_, rfl⟩
   rw [hW4]
   have hu4 : Upd nob w2 W4 := by rw [← hW4]; exact (Upd.refl nob w2).alloc _
   have hs4 : W4.heap.size = w2.heap.size + 1 := by rw [← hW4]; simp
   have hb4 : Blk W4 w2.heap.size 28 #[.int .i64 k, .int .i64 0, .string ByteArray.empty, .int .i64 0, .int .i64 0, .slice none 0 0, .slice none 0 0, .slice none 0 0] := by rw [← hW4]; exact Blk.new _ _ _
   clear hW4
   refine viaCalls (tkids_any (.mk k n nm lv ls ks) _ D W4 (hlw2.old (hDw2.old hu4) (fun _ h => h))) ?_
   rintro e w3 ⟨rfl, rfl⟩
   gi_wp2_with fail
   obtain ⟨css, hcl, hcs⟩ := hks.cells
   obtain ⟨W5, hW5⟩ : ∃ W5, W4.alloc (.cells #[.int .i64 k, .int .i64 n, .string nm, x, y, z, .slice A ls.length c, .slice A' ks.length c'] 28) = W5 := ⟨_, rfl⟩
   have hu5 : Upd nob W4 W5 := by rw [← hW5]; exact (Upd.refl nob W4).alloc _
   have hs5 : W5.heap.size = w2.heap.size + 2 := by rw [← hW5]; simp [hs4]
   have hb5 : Blk W5 (w2.heap.size + 1) 28 #[.int .i64 k, .int .i64 n, .string nm, x, y, z, .slice A ls.length c, .slice A' ks.length c'] := by rw [← hW5, ← hs4]; exact Blk.new _ _ _
   have hs2 := hu2.size
   have hu25 : Upd nob w2 W5 := hu4.trans hu5
   have huw5 : Upd nob w W5 := huW1.trans (hu2.trans hu25)
   have hoD : Old D w W5 := hB.old huw5
   have hD5 : Within D W5 := hB.up huw5
   have hR5 := V.keep _ _ hRw2 hu25
   have b7 : Blk W5 w2.heap.size 28 #[Value.int .i64 k, .int .i64 0, .string ByteArray.empty, .int .i64 0, .int .i64 0, .slice none 0 0, .slice none 0 0, .slice none 0 0] := hb4.upd hu5 (fun f => f)
   rw [hW5]
   clear hW5
   obtain ⟨xs, hxs⟩ : ∃ xs, xs = kx k (css.take (nk k ks.length)) := ⟨_, rfl⟩
   have hit := kids_spec (.mk k n nm lv ls ks) css x y z A c A' c' D (w2.heap.size + 1) W5 hD5 hb5 hcl hks1.1 (fun i ci hi => by
    obtain ⟨a, l, e1, e2, e3, e4, e5⟩ := hcs i ci hi
    exact ⟨a, l, e1, e2, e3, e4.old hoD (by rw [Addr_add_block]; exact e3), e5.old hoD (fun _ h => h)⟩) xs hxs
   have HXS := Lib.hid hxs; clear hxs
   obtain ⟨N, hN⟩ : ∃ N, nk k ks.length = N := ⟨_, rfl⟩
   have hNk : N ≤ ks.length := by rw [← hN]; exact nk_le _ _
   have hxl : xs.length = N := by rw [HXS.out, kx_len, List.length_take, hcl, hN]; omega
   have hxg : ∀ (j : Nat) v, xs[j]? = some v → ∃ cj, css[j]? = some cj ∧ v = #[.int .i64 (bnd k j), .agg cj] ∧ j < N := fun j v hv => by
    have hjl : j < N := by rw [← hxl]; exact (List.getElem?_eq_some_iff.1 hv).1
    rw [HXS.out] at hv
    obtain ⟨cj, h1, h2⟩ := kx_get hv
    rw [List.getElem?_take_of_lt (by omega)] at h1
    exact ⟨cj, h1, h2, hjl⟩
   have hX2 : X = .mk k 0 ByteArray.empty lzero' [] (rb F k ks i N) := by rw [← HX.out, treb, if_neg (by rw [HL.out]; decide), hN, trebs_rb]
   have HRES := Lib.hid hX2
   have hvk : ∀ (j : Nat) (hj : j < ks.length), j < N → (ks[j]).vh + 1 ≤ (Tm.mk k n nm lv ls ks).vh := fun j hj h => Tm.vh_kid j hj (by rw [hN]; exact h)
   clear hX2 hN
   obtain ⟨base, hbase⟩ : ∃ base, base = W5.heap.size := ⟨_, rfl⟩
   have hDb : ∀ q, D q → q < w2.heap.size := fun q hq => by have := hB q hq; omega
   obtain ⟨t7, ht7⟩ : ∃ t7, t7 = w2.heap.size := ⟨_, rfl⟩
   have hSt : ∀ (I : Nat → Prop) (W W' : World) sv j, (Blk W t7 28 #[Value.int .i64 k, .int .i64 0, .string ByteArray.empty, .int .i64 0, .int .i64 0, .slice none 0 0, .slice none 0 0, sv] ∧ MC D I base W sv (rb F k ks i j) ∧ Upd (fun q => q = t7) W5 W ∧ (∀ q, I q → base ≤ q)) → Upd I W W' →
       (Blk W' t7 28 #[Value.int .i64 k, .int .i64 0, .string ByteArray.empty, .int .i64 0, .int .i64 0, .slice none 0 0, .slice none 0 0, sv] ∧ MC D (grow I W W') base W' sv (rb F k ks i j) ∧ Upd (fun q => q = t7) W5 W' ∧ (∀ q, grow I W W' q → base ≤ q)) := by
    rintro I W W' sv j ⟨h1, h2, h3, h4⟩ hu
    have hsz := h3.size
    refine ⟨h1.upd hu (fun hh => by have := h4 _ hh; omega), h2.upd hu (fun q hq => .inl hq) (fun q hq => ⟨by have := hDb q hq; omega, fun hh => by have := h4 _ hh; have := hDb q hq; omega⟩) (by omega) (fun q hq => hq.imp id (fun h => h.1)),
     h3.trans' hu (fun q hq hI => by have := h4 q hI; omega), fun q hq => ?_⟩
    rcases hq with hq | hq
    · exact h4 q hq
    have := hq.1; omega
   refine wpIn_range hit rfl (fun args w => by go_simp) ?_ (Keeps.refl _ _) (by rw [HXS.out]; exact kx_size)
    (fun j I W => ∃ sv, Blk W t7 28 #[Value.int .i64 k, .int .i64 0, .string ByteArray.empty, .int .i64 0, .int .i64 0, .slice none 0 0, .slice none 0 0, sv] ∧ MC D I base W sv (rb F k ks i j) ∧ Upd (fun q => q = t7) W5 W ∧ ∀ q, I q → base ≤ q)
    (fun _ _ _ => False)
    ?sJ (fun _ _ _ _ h _ => h) nob (fun _ f => f.elim) ?j0
    (fun j v a₁ I W => ∃ sv cj g, (css[j]? = some cj ∧ v = #[.int .i64 (bnd k j), .agg cj] ∧ j < N ∧ a₁ = { tmps := #[.agg #[.int .i64 k, .int .i64 n, .string nm, x, y, z, .slice A ls.length c, .slice A' ks.length c'], .int .i64 i, .func (.func vf) #[] lb, .pointer (some ⟨w.heap.size, 0, none⟩), .pointer (some ⟨w.heap.size + 1, 0, none⟩), .pointer (some ⟨w.heap.size + 1 + 1, 0, none⟩), .pointer (some ⟨w.heap.size + 1 + 1 + 1, 0, none⟩), .pointer (some ⟨w2.heap.size, 0, none⟩), .int .i64 (bnd k j), .pointer (some ⟨g, 0, none⟩), .agg #[.int .i64 k, .int .i64 n, .string nm, x, y, z, .slice A ls.length c, .slice A' ks.length c'], .bool false, undef, undef, undef, undef, .pointer (some ⟨w.heap.size, 0, none⟩), .int .i64 k, .agg #[Value.int .i64 k, .int .i64 0, .string ByteArray.empty, .int .i64 0, .int .i64 0, .slice none 0 0, .slice none 0 0, .slice none 0 0], .agg #[.int .i64 k, .int .i64 n, .string nm, x, y, z, .slice A ls.length c, .slice A' ks.length c'], .func (.func 153) #[] #[.pointer (some ⟨w2.heap.size + 1, 0, none⟩)], .int .i64 (bnd k j), .agg cj, undef, undef, undef, undef, undef, undef, undef, undef, undef, undef, undef, undef, undef, undef], defers := [] } ∧ Blk W g 28 cj ∧ ¬ I g ∧ base ≤ g ∧ g < W.heap.size) ∧ Blk W t7 28 #[Value.int .i64 k, .int .i64 0, .string ByteArray.empty, .int .i64 0, .int .i64 0, .slice none 0 0, .slice none 0 0, sv] ∧ MC D I base W sv (rb F k ks i j) ∧ Upd (fun q => q = t7) W5 W ∧ ∀ q, I q → base ≤ q)
    ?sM ?assign ?body ?done (fun _ _ _ _ h _ _ _ _ _ => h.elim)
   · intro q hq
     rcases hq with rfl | hq
     · omega
     exact hD5 q hq
   case sJ =>
    rintro j I W W' ⟨sv, h⟩ hu
    exact ⟨sv, hSt I W W' sv j h hu⟩
   case j0 => exact ⟨_, by rw [ht7]; exact b7, MC.nil_, Upd.refl _ _, fun _ f => f.elim⟩
   case sM =>
    rintro j v a₁ I W W' ⟨sv, cj, g, ⟨e1, e2, e3, e4, hb, hg, hgb, hgl⟩, h⟩ hu
    refine ⟨sv, cj, g, ⟨e1, e2, e3, e4, hb.upd hu hg, fun hh => ?_, hgb, Nat.lt_of_lt_of_le hgl hu.size⟩, hSt I W W' sv j h hu⟩
    rcases hh with hh | hh
    · exact hg hh
    have := hh.1; omega
   case assign =>
    intro l j v I W hv hJ hIl
    obtain ⟨cj, hc1, rfl, hjN⟩ := hxg j v hv
    obtain ⟨sv, h7, hmc, hu, hI⟩ := hJ
    obtain ⟨a, l', g1, g2, g3, g4, g5⟩ := hcs j cj hc1
    have hsz := g5.oneCell
    have hsi : (Tryz.prog.info? 28).map (·.size) = some cj.size := by rw [hsz.1]; exact tm_size
    clear g2
    gi_wp2_with (first
     | ((with_reducible refine this_opIn (.store 28 (.tmp 9) (.tmp 22)) ?_); refine wpListIn_store_blk (.within _) rfl 28 (.tmp 9) (.tmp 22) rfl rfl W.heap.size cj rfl rfl 28 _ (Blk.new W _ _) hsi (by rw [hsz.1]; rfl) hsz.2 ?_))
    have husz := hu.size
    have hua : Upd nob W ((W.alloc (.cells #[.int .i64 0, .int .i64 0, .string ByteArray.empty, .int .i64 0, .int .i64 0, .slice none 0 0, .slice none 0 0, .slice none 0 0] 28)).setRow W.heap.size cj) := ((Upd.refl nob W).alloc _).setRow (.inr (Nat.le_refl _)) _
    refine ⟨hua.keeps fun q hq => ⟨fun f => f, ?_⟩, sv, cj, W.heap.size, ⟨hc1, rfl, hjN, rfl, (Blk.new W _ _).row _, fun h => by have := hIl _ h; omega, by omega, by simp⟩, h7.upd hua (fun f => f), ?_, hu.trans' hua (fun _ _ f => f.elim), hI⟩
    · rcases hq with hq | hq | hq
      · exact hIl q hq
      · omega
      have := hD5 q hq; omega
    exact hmc.upd hua (fun _ f => f.elim) (fun q hq => ⟨by have := hDb q hq; omega, fun hh => by have := hI _ hh; have := hDb q hq; omega⟩) (by omega) (fun q hq => .inl hq)
   case body =>
    rintro l j v I W a₁ hv ⟨sv, cj, g, ⟨e1, e2, e3, rfl, hbg, hng, hgb, hgl⟩, h7, hmc, hu, hI⟩ hIl _
    obtain ⟨a, l', g1, g2, g3, g4, g5⟩ := hcs j cj e1
    have hjk := (List.getElem?_eq_some_iff.1 g1).1
    obtain rfl : ks[j] = l' := (List.getElem?_eq_some_iff.1 g1).2
    have hmem : ks[j] ∈ ks := List.getElem_mem hjk
    have husz := hu.size
    have hoW : Old D w W := hoD.trans (Old.of_upd hu fun q hq => ⟨fun h => by have := hDb q hq; omega, hD5 q hq⟩)
    have hDW : Within D W := hD5.up hu
    have g6 := g5.old hoW (fun _ h => h)
    have hsi : (Tryz.prog.info? 28).map (·.size) = some cj.size := by rw [g5.oneCell.1]; exact tm_size
    have v1 : W.cell? ⟨w.heap.size + 1, 0, none⟩ = some (.int .i64 i) := (((B1.out.upd hu2 (fun f => f)).upd hu25 (fun f => f)).upd hu (fun h => by omega)).cell 0
    have v2 : W.cell? ⟨w.heap.size + 1 + 1, 0, none⟩ = some (.func (.func vf) #[] lb) := (((B2.out.upd hu2 (fun f => f)).upd hu25 (fun f => f)).upd hu (fun h => by omega)).cell 0
    obtain ⟨sA, sc, rfl, hcp⟩ := hmc.form
    have hlen := rb_len F k ks i j (by omega)
    rw [hlen] at h7 hmc hcp
    rw [ht7] at h7
    have v7 : W.cell? ⟨w2.heap.size, 7, none⟩ = some (.slice sA j sc) := h7.cell 7
    have hbl := bnd_le k j
    have hrs := rb_succ F k ks i j hjk
    obtain ⟨bb, hbb⟩ : ∃ bb, bnd k j = bb := ⟨_, rfl⟩
    rw [hbb] at hbl hrs
    obtain ⟨hbl0, hbl1⟩ := hbl
    have hht : i + bb + ks[j].vh ≤ 4611686018427387904 := by
     have hh := hvk j hjk e3
     omega
    have hib : IntKind.i64.wrap (i + bb) = i + bb := IntWalk.i64_in _ (by omega)
    have hRW : R W := V.keep _ _ hRw2 (hu25.trans' hu (fun q hq h => by omega))
    have H7 := Lib.hid h7
    have HRS := Lib.hid hrs
    clear e1 g1 g2 h7 hrs
    rw [hbb]
    clear hbb
    gi_wp2_with fail
    refine wpIn_region_P (ro := some l) (by kernel_rfl) (fun _ _ h => h) (by kernel_rfl) ?_
    refine wpAny_of_E (fun X : World => ∀ p : Addr, p.block < W.heap.size → X.cell? p = W.cell? p) 10 _ _ _ _ ?_
    have hS : ∀ p : Addr, p.block < W.heap.size → W.drew.cell? p = W.cell? p := fun _ _ => rfl
    refine eT 0 ?_ [] rfl (by kernel_rfl) (by rfl) ?_ hS ?_
    rotate_left; · intro wx hx; clear hx; go_simp; with_reducible rfl
    try simp only [tl]
    refine eT 1 ?_ [] rfl (by kernel_rfl) (by rfl) ?_ hS ?_
    rotate_left
    · intro wx hx
      have q0 := (hx ⟨w2.heap.size, 7, none⟩ (by show w2.heap.size < _; omega)).trans v7
      clear hx
      go_simp
      with_reducible rfl
    try simp only [tl]
    refine eT 2 (.agg cj) [] rfl (by kernel_rfl) (by rfl) ?_ hS ?_
    · intro wx hx
      exact run_load_at 28 (.tmp 9) rfl ⟨g, 0, none⟩ rfl cj _ (row_on hbg.rowAt (by show g < _; omega) hx) Tryz.underlying28 rfl hsi
    try simp only [tl]
    refine eT 3 ?_ [] rfl (by kernel_rfl) (by rfl) ?_ hS ?_
    rotate_left
    · intro wx hx
      have q0 := (hx ⟨w.heap.size + 1, 0, none⟩ (by show w.heap.size + 1 < _; omega)).trans v1
      clear hx
      go_simp
      with_reducible rfl
    try simp only [tl]
    refine eT 4 ?_ [] rfl (by kernel_rfl) (by rfl) ?_ hS ?_
    rotate_left; · intro wx hx; clear hx; go_simp; with_reducible rfl
    try simp only [tl]
    refine eT 5 ?_ [] rfl (by kernel_rfl) (by rfl) ?_ hS ?_
    rotate_left; · intro wx hx; clear hx; go_simp; with_reducible rfl
    try simp only [tl]
    refine eT 6 ?_ [] rfl (by kernel_rfl) (by rfl) ?_ hS ?_
    rotate_left
    · intro wx hx
      have q0 := (hx ⟨w.heap.size + 1 + 1, 0, none⟩ (by show w.heap.size + 1 + 1 < _; omega)).trans v2
      clear hx
      go_simp
      with_reducible rfl
    try simp only [tl]
    refine eT 8 ?_ [] rfl (by kernel_rfl) (by rfl) ?_ hS ?_
    rotate_left; · intro wx hx; clear hx; go_simp; with_reducible rfl
    try simp only [tl]
    refine wpAnyE_two (i := 7) (j := 9) (fun v u X => ∃ cs5 g5, v = .agg cs5 ∧ u = .slice (some ⟨g5, 0, none⟩) 1 1 ∧ TmIs (grow D W X) X (treb F ks[j] (i + bb)) cs5 ∧ Blk X g5 28 #[.int .i64 0, .int .i64 0, .string ByteArray.empty, .int .i64 0, .int .i64 0, .slice none 0 0, .slice none 0 0, .slice none 0 0] ∧ W.heap.size ≤ g5 ∧ Upd nob W X) (by kernel_rfl) (by kernel_rfl) (by kernel_rfl) rfl rfl rfl rfl rfl (fun _ => rfl) (fun _ => rfl) (fun _ _ => rfl) ?_ ?_ ?_
    · intro K hK
      go_simp
      refine (ih ks[j] hmem cj (i + bb) W.drew g6.drew (V.keep _ _ hRW ((Upd.refl nob W).drew)) hDW.drew (by omega) hht).mono ?_
      rintro e w5 ⟨cs5, rfl, hl5, hb5⟩
      have hu4 : Upd nob W w5 := ((Upd.refl nob W).drew).trans (Upd.of_below hb5)
      have hu4s := hu4.size
      refine hK (.agg cs5) w5 (cells_of_upd hu4) ?_
      intro K' hK'
      have hu6 : Upd nob W (w5.alloc (.cells #[.int .i64 0, .int .i64 0, .string ByteArray.empty, .int .i64 0, .int .i64 0, .slice none 0 0, .slice none 0 0, .slice none 0 0] 28)) := hu4.alloc _
      refine owp_build1 26 28 _ rfl _ 8 120 Tryz.underlying26 tm_info (by decide) (by decide) #[.int .i64 0, .int .i64 0, .string ByteArray.empty, .int .i64 0, .int .i64 0, .slice none 0 0, .slice none 0 0, .slice none 0 0] (by rfl) rfl ?_
      have hin5 : Within (grow D W.drew w5) w5 := fun x hx => hx.elim (fun h => by have := hDW x h; omega) (fun h => h.2)
      exact hK' _ _ (cells_of_upd hu6) ⟨cs5, w5.heap.size, rfl, rfl, hl5.old (hin5.old ((Upd.refl nob w5).alloc _)) (fun q hq => hq.imp id fun h => ⟨h.1, by have := h.2; simp; omega⟩), Blk.new _ _ _, hu4s, hu6⟩
    · intro K hK
      refine owp_build1 26 28 _ rfl _ 8 120 Tryz.underlying26 tm_info (by decide) (by decide) #[.int .i64 0, .int .i64 0, .string ByteArray.empty, .int .i64 0, .int .i64 0, .slice none 0 0, .slice none 0 0, .slice none 0 0] (by rfl) rfl ?_
      have hu3 : Upd nob W (W.drew.alloc (.cells #[.int .i64 0, .int .i64 0, .string ByteArray.empty, .int .i64 0, .int .i64 0, .slice none 0 0, .slice none 0 0, .slice none 0 0] 28)) := ((Upd.refl nob W).drew).alloc _
      refine hK _ _ (cells_of_upd hu3) ?_
      intro K' hK'
      go_simp
      refine (ih ks[j] hmem cj (i + bb) (W.drew.alloc (.cells #[.int .i64 0, .int .i64 0, .string ByteArray.empty, .int .i64 0, .int .i64 0, .slice none 0 0, .slice none 0 0, .slice none 0 0] 28)) (g6.old (hDW.old hu3) (fun _ h => h)) (V.keep _ _ hRW hu3) (hDW.up hu3) (by omega) hht).mono ?_
      rintro e w5 ⟨cs5, rfl, hl5, hb5⟩
      have hu4' : Upd nob (W.drew.alloc (.cells #[.int .i64 0, .int .i64 0, .string ByteArray.empty, .int .i64 0, .int .i64 0, .slice none 0 0, .slice none 0 0, .slice none 0 0] 28)) w5 := Upd.of_below hb5
      have hu4 : Upd nob W w5 := hu3.trans hu4'
      have hs3 : (W.drew.alloc (.cells #[.int .i64 0, .int .i64 0, .string ByteArray.empty, .int .i64 0, .int .i64 0, .slice none 0 0, .slice none 0 0, .slice none 0 0] 28)).heap.size = W.heap.size + 1 := by simp
      exact hK' (.agg cs5) w5 (cells_of_upd hu4) ⟨cs5, W.heap.size, rfl, rfl, hl5.old (Old.refl _ _) (fun q hq => hq.imp id fun h => ⟨by have := h.1; omega, h.2⟩), (Blk.new W.drew 28 #[.int .i64 0, .int .i64 0, .string ByteArray.empty, .int .i64 0, .int .i64 0, .slice none 0 0, .slice none 0 0, .slice none 0 0]).upd hu4' (fun f => f), Nat.le_refl _, hu4⟩
    rintro v u Xw hSX ⟨cs5, g5, rfl, rfl, hl5, hg5, hg5b, huX⟩
    try simp only [tl]
    obtain ⟨E, rows, q1, q2, q3, q4⟩ := hmc.out
    have hrl : rows.length = j := by rw [q4.1, hlen]
    have hszX := huX.size
    refine wpAnyE_z (by kernel_rfl) rfl (by rfl) fun K hK => ?_
    refine owp_append1 (.tmp 24) (.tmp 32) 26 rfl base 28 _ 8 120 Tryz.underlying26 tm_info (by kernel_rfl) (by decide) (.slice sA j sc) rows rfl (q2.upd huX (fun _ _ f => f)) g5 #[.int .i64 0, .int .i64 0, .string ByteArray.empty, .int .i64 0, .int .i64 0, .slice none 0 0, .slice none 0 0, .slice none 0 0] (by rfl) hg5 rfl (by simp [Value.oneCell']) (by rw [hrl]; omega) (by rw [hrl]; omega) (by omega) ?_
    intro v9 W7 hr7 hu7 hat7
    obtain ⟨g7, cap7, cur7, rfl, hb7, hg7b, hsz7, hlast⟩ := hr7.last
    rw [hrl] at hsz7 hlast ⊢
    refine hK _ _ ?_
    clear hK K; try simp only [tl]
    have h7 := H7.out
    have hown : ∀ q, (Value.slice sA j sc).ownBlock = some q → base ≤ q ∧ q < W.heap.size ∧ ¬ I q ∧ ¬ E q := fun q hq => ⟨(hmc.lt hq).1, (hmc.lt hq).2.1, (hmc.lt hq).2.2, (q3 q hq).2⟩
    have hG : (Value.slice sA j sc).ownBlock = some g7 ∨ g7 = Xw.heap.size := by
     rcases hat7 with h | h
     · left; rw [← h]; rfl
     right; simpa [Value.ownBlock] using h
    have hg7t : g7 ≠ w2.heap.size := by
     rcases hG with h | h
     · have := (hown _ h).1; omega
     omega
    have hb7t : Blk W7 w2.heap.size 28 #[Value.int .i64 k, .int .i64 0, .string ByteArray.empty, .int .i64 0, .int .i64 0, .slice none 0 0, .slice none 0 0, .slice sA j sc] := (h7.upd huX (fun f => f)).upd hu7 (fun h => by have := (hown _ h).1; omega)
    have hadd : Addr.add ⟨g7, 0, none⟩ (j * 8) = ⟨g7, j * 8, none⟩ := by unfold Addr.add; split <;> simp_all
    have hs5c := hl5.oneCell
    have hsi5 : (Tryz.prog.info? 28).map (·.size) = some cs5.size := by rw [hs5c.1]; exact tm_size
    obtain ⟨new, hnew⟩ : ∃ new, new = (cur7.toList.take (j * 8) ++ cs5.toList ++ cur7.toList.drop (j * 8 + cs5.size)).toArray := ⟨_, rfl⟩
    have HNEW := Lib.hid hnew
    clear hnew
    have fin : ∀ Wf, Blk Wf w2.heap.size 28 #[Value.int .i64 k, .int .i64 0, .string ByteArray.empty, .int .i64 0, .int .i64 0, .slice none 0 0, .slice none 0 0, .slice (some ⟨g7, 0, none⟩) (j + 1) cap7] → Blk Wf g7 28 new → Upd (fun q => q = g7 ∨ q = w2.heap.size) W7 Wf →
        (Keeps (fun k_1 => I k_1 ∨ (k_1 = w2.heap.size + 1 ∨ D k_1)) W Wf ∧ ∃ sv, Blk Wf t7 28 #[Value.int .i64 k, .int .i64 0, .string ByteArray.empty, .int .i64 0, .int .i64 0, .slice none 0 0, .slice none 0 0, sv] ∧ MC D I base Wf sv (rb F k ks i (j + 1)) ∧ Upd (fun q => q = t7) W5 Wf ∧ ∀ q, I q → base ≤ q) := by
     intro Wf k7 kg ku
     rw [HNEW.out] at kg
     have hr9 := hlast cs5 hs5c.1 Wf kg
     have hs7 := hu7.size
     have hsf := ku.size
     have hW : Upd (fun q => q = w2.heap.size ∨ (Value.slice sA j sc).ownBlock = some q) W Wf := by
      refine ((huX.mono (fun _ f => f.elim)).trans (hu7.mono fun _ h => .inr h)).trans' ku (fun q hq h => ?_)
      rcases h with rfl | h
      · rcases hG with h | h
        · exact .inr h
        omega
      exact .inl h
     refine ⟨hW.keeps fun q hq => ?_, .slice (some ⟨g7, 0, none⟩) (j + 1) cap7, by rw [ht7]; exact k7, ⟨fun q => E q ∨ D q ∨ (W.heap.size ≤ q ∧ q < Xw.heap.size), rows ++ [cs5], ?_, hr9, ?_, ?_⟩, ?_, hI⟩
     · rcases hq with hq | rfl | hq
       · refine ⟨fun h => ?_, hIl q hq⟩
         rcases h with h | h
         · have := hI q hq; omega
         exact (hown q h).2.2.1 hq
       · refine ⟨fun h => ?_, by omega⟩
         rcases h with h | h
         · omega
         have := (hown _ h).1; omega
       have h9 := hDb q hq
       refine ⟨fun h => ?_, by omega⟩
       rcases h with h | h
       · omega
       have := (hown _ h).1; omega
     · intro q hq
       rcases hq with hq | hq | hq
       · exact (q1 q hq).imp id fun h => ⟨h.1, by omega, h.2.2⟩
       · exact .inl hq
       exact .inr ⟨by omega, by omega, fun h => by have := hIl q h; omega⟩
     · intro q hq
       obtain rfl : g7 = q := by simpa [Value.ownBlock] using hq
       rcases hG with h | h
       · obtain ⟨o1, o2, o3, o4⟩ := hown _ h
         exact ⟨o3, fun hh => by rcases hh with hh | hh | hh; exact o4 hh; (have := hDb _ hh; omega); omega⟩
       refine ⟨fun hh => by have := hIl _ hh; omega, fun hh => ?_⟩
       rcases hh with hh | hh | hh
       · rcases q1 _ hh with h9 | h9
         · have := hDb _ h9; omega
         have := h9.2.1; omega
       · have := hDb _ hh; omega
       omega
     · rw [HRS.out]
       refine (q4.old (fun q hq => ?_) (fun q hq => .inl hq)).push (hl5.old (fun q hq => ?_) (fun q hq => ?_))
       · have hql : q < W.heap.size ∧ q ≠ w2.heap.size := by
           rcases q1 q hq with h9 | h9
           · have := hDb q h9; omega
           omega
         refine hW.block q hql.1 (fun h => ?_)
         rcases h with h | h
         · exact hql.2 h
         exact (hown q h).2.2.2 hq
       · have hqx : q < Xw.heap.size ∧ q ≠ w2.heap.size ∧ (Value.slice sA j sc).ownBlock ≠ some q := by
           rcases hq with hq | hq
           · have h9 := hDb q hq
             exact ⟨by omega, by omega, fun h => by have := (hown q h).1; omega⟩
           exact ⟨hq.2, by have := hq.1; omega, fun h => by have := (hown q h).2.1; have := hq.1; omega⟩
         refine (ku.block q (by omega) (fun h => ?_)).trans (hu7.block q hqx.1 hqx.2.2)
         rcases h with h | h
         · rcases hG with h9 | h9
           · rw [← h] at h9; exact hqx.2.2 h9
           omega
         exact hqx.2.1 h
       · rcases hq with hq | hq
         · exact .inr (.inl hq)
         exact .inr (.inr hq)
     exact hu.trans' hW (fun q hq h => h.elim (fun h => by omega) (fun h => by have := (hown q h).1; omega))
    refine wpAny_of_held (S := fun _ => True) _ _ _ _ ?_
    have hS : True := trivial
    refine hT 11 (.pointer (some (Addr.add ⟨g7, 0, none⟩ (j * 8)))) rfl (by kernel_rfl) (by rfl) ?_ hS ?_
    · intro wx hx
      exact run_index_at 26 (.tmp 33) (.tmp 31) rfl _ ⟨g7, 0, none⟩ _ _ rfl rfl j rfl (by omega) 28 Tryz.underlying26 8 tm_size
    rw [hadd]
    try simp only [tl]
    refine hT 13 ?_ rfl (by kernel_rfl) (by rfl) ?_ hS ?_
    rotate_left
    · intro wx hx
      go_simp
      with_reducible rfl
    try simp only [tl]
    refine wpAnyH_last2 (i := 12) (j := 14) (by kernel_rfl) (by kernel_rfl) (by kernel_rfl) (by kernel_rfl) (by kernel_rfl) rfl rfl (fun _ => rfl) (fun _ => rfl) ?_ ?_
    · intro K hK
      refine owp_store_part 28 (.tmp 34) (.tmp 30) rfl g7 (j * 8) cs5 (by rfl) (by rfl) 28 cur7 new hb7 hsi5 (by omega) hs5c.2 HNEW.out ?_
      refine hK _ _ ?_
      intro K' hK'
      have hb9 : Blk (W7.setRow g7 new) w2.heap.size 28 #[Value.int .i64 k, .int .i64 0, .string ByteArray.empty, .int .i64 0, .int .i64 0, .slice none 0 0, .slice none 0 0, .slice sA j sc] := hb7t.rowFar (Ne.symm hg7t) _
      have c9 : (W7.setRow g7 new).cell? ⟨w2.heap.size, 7, none⟩ = some (.slice sA j sc) := hb9.cell 7
      have f9 := hb9.frozen 7
      have HB9 := Lib.hid hb9
      clear hb9
      go_simp
      refine hK' _ _ ?_
      exact fin _ (HB9.out.set 7 _) ((hb7.row _).far (p := ⟨w2.heap.size, 7, none⟩) (by exact hg7t) _) (((Upd.refl (fun q => q = g7 ∨ q = w2.heap.size) W7).setRow (.inl (.inl rfl)) _).setCell (p := ⟨w2.heap.size, 7, none⟩) (.inl (.inr rfl)) _)
    intro K hK
    have c9 : W7.cell? ⟨w2.heap.size, 7, none⟩ = some (.slice sA j sc) := hb7t.cell 7
    have f9 := hb7t.frozen 7
    have HB9 := Lib.hid hb7t
    go_simp
    refine hK _ _ ?_
    intro K' hK'
    refine owp_store_part 28 (.tmp 34) (.tmp 30) rfl g7 (j * 8) cs5 (by rfl) (by rfl) 28 cur7 new (hb7.far (p := ⟨w2.heap.size, 7, none⟩) (by exact hg7t) _) hsi5 (by omega) hs5c.2 HNEW.out ?_
    refine hK' _ _ ?_
    exact fin _ ((HB9.out.set 7 _).rowFar (Ne.symm hg7t) _) ((hb7.far (p := ⟨w2.heap.size, 7, none⟩) (by exact hg7t) _).row _) (((Upd.refl (fun q => q = g7 ∨ q = w2.heap.size) W7).setCell (p := ⟨w2.heap.size, 7, none⟩) (.inl (.inr rfl)) _).setRow (.inl (.inl rfl)) _)
   case done =>
    rintro dd I W ⟨sv, h7, hmc, hu, hI⟩ hdd hle hkd _ _
    rw [hxl] at hmc
    have r7 := h7.rowAt
    have husz := hu.size
    have x6 : Blk W (w.heap.size + 1 + 1 + 1) 28 #[.int .i64 0, .int .i64 0, .string ByteArray.empty, .int .i64 0, .int .i64 0, .slice none 0 0, .slice none 0 0, .slice none 0 0] := ((B3.out.upd hu2 (fun f => f)).upd hu25 (fun f => f)).upd hu (fun h => by omega)
    rw [ht7] at r7
    have hone : #[Value.int .i64 k, .int .i64 0, .string ByteArray.empty, .int .i64 0, .int .i64 0, .slice none 0 0, .slice none 0 0, sv].all (·.oneCell') = true := by obtain ⟨A9, c9, rfl, _⟩ := hmc.form; simp [Value.oneCell']
    gi_wp2_with (first
     | ((with_reducible refine this_opIn (.load 28 (.tmp 7)) ?_); refine wpListIn_at .out rfl 28 (.tmp 7) rfl ⟨w2.heap.size, 0, none⟩ rfl _ _ r7 Tryz.underlying28 rfl tm_size ?_)
     | ((with_reducible refine this_opIn (.store 28 (.tmp 6) (.tmp 36)) ?_); refine wpListIn_store_blk .out rfl 28 (.tmp 6) (.tmp 36) rfl rfl (w.heap.size + 1 + 1 + 1) #[Value.int .i64 k, .int .i64 0, .string ByteArray.empty, .int .i64 0, .int .i64 0, .slice none 0 0, .slice none 0 0, sv] rfl rfl 28 _ x6 tm_size rfl hone ?_))
    have hkk : (W.setRow (w.heap.size + 1 + 1 + 1) #[Value.int .i64 k, .int .i64 0, .string ByteArray.empty, .int .i64 0, .int .i64 0, .slice none 0 0, .slice none 0 0, sv]).heap[dd]? = some (.deferred (some [])) := (setRow_other _ _ _ _ (by omega)).trans hkd
    refine ⟨by simp, .inl ⟨_, _, rfl, run_takeDeferred hkk, ?_⟩⟩
    have hfin : Upd (fun q => q = w.heap.size + 1 + 1 + 1 ∨ q = dd) W ((W.setRow (w.heap.size + 1 + 1 + 1) #[Value.int .i64 k, .int .i64 0, .string ByteArray.empty, .int .i64 0, .int .i64 0, .slice none 0 0, .slice none 0 0, sv]).putObj dd (.deferred none)) :=
     ((Upd.refl (fun q => q = w.heap.size + 1 + 1 + 1 ∨ q = dd) W).setRow (.inl (.inl rfl)) _).putObj (.inl (.inr rfl)) _
    have hc9 : Blk ((W.setRow (w.heap.size + 1 + 1 + 1) #[Value.int .i64 k, .int .i64 0, .string ByteArray.empty, .int .i64 0, .int .i64 0, .slice none 0 0, .slice none 0 0, sv]).putObj dd (.deferred none)) (w.heap.size + 1 + 1 + 1) 28 #[Value.int .i64 k, .int .i64 0, .string ByteArray.empty, .int .i64 0, .int .i64 0, .slice none 0 0, .slice none 0 0, sv] :=
     (World.putObj_heap_other (by show w.heap.size + 1 + 1 + 1 ≠ dd; omega)).trans (x6.row _)
    have hfs := hfin.size
    refine ⟨.agg #[Value.int .i64 k, .int .i64 0, .string ByteArray.empty, .int .i64 0, .int .i64 0, .slice none 0 0, .slice none 0 0, sv], results_cell_row rfl _ _ (w.heap.size + 1 + 1 + 1) 28 #[Value.int .i64 k, .int .i64 0, .string ByteArray.empty, .int .i64 0, .int .i64 0, .slice none 0 0, .slice none 0 0, sv] (0, 0) _ rfl hc9 Tryz.underlying28 rfl tm_size, _, rfl, ?_, ((huw5.trans' hu (fun q hq h => by omega)).trans' hfin (fun q hq h => by omega)).below⟩
    rw [HRES.out]
    have hmc9 := hmc.upd (I' := I) hfin (fun q hq => ?_) (fun q hq => ⟨by have := hDb q hq; omega, fun hh => by have := hI _ hh; have := hDb q hq; omega⟩) (by omega) (fun q hq => .inl hq)
    · have hDD : ∀ q, D q ∨ (base ≤ q ∧ q < ((W.setRow (w.heap.size + 1 + 1 + 1) #[Value.int .i64 k, .int .i64 0, .string ByteArray.empty, .int .i64 0, .int .i64 0, .slice none 0 0, .slice none 0 0, sv]).putObj dd (.deferred none)).heap.size) → grow D w ((W.setRow (w.heap.size + 1 + 1 + 1) #[Value.int .i64 k, .int .i64 0, .string ByteArray.empty, .int .i64 0, .int .i64 0, .slice none 0 0, .slice none 0 0, sv]).putObj dd (.deferred none)) q := fun q hq => by
        rcases hq with hq | ⟨hq, hq'⟩
        · exact .inl hq
        exact .inr ⟨by omega, hq'⟩
      obtain ⟨A9, c9, rfl, hcp9, hat⟩ := hmc9.tms hDD
      have hlen := rb_len F k ks i N hNk
      simp only [TmIs]
      exact ⟨_, _, _, none, 0, _, _, rfl, hk, by unfold InI; omega, by simp, lzero_is _ _, ⟨by simp, Nat.zero_le _⟩, by simp only [LvsAt], ⟨by rw [hlen]; omega, hcp9⟩, hat⟩
    · rcases hq with hq | hq
      · right; subst hq; refine ⟨by omega, fun hd => by have := hB _ hd; omega⟩
      left; rw [hq]; exact hdd
theorem own1_visit (D : Nat → Prop) : RVisit Tryz.prog 130 #[] D (fun _ => True) (fun t _ => tnode t) where
 enter := fun _ _ => by go_simp
 keep := fun _ _ _ _ => trivial
 call := by
  intro t cs i w _ hl _ hD _ _
  have hz := tm_zero
  have hs := hl.oneCell
  have hsi : (Tryz.prog.info? 28).map (·.size) = some cs.size := by rw [hs.1]; exact tm_size
  obtain ⟨W1, hW1⟩ : ∃ W1, (w.alloc (.cells cs 28)).alloc (.cells #[.int .i64 0, .int .i64 0, .string ByteArray.empty, .int .i64 0, .int .i64 0, .slice none 0 0, .slice none 0 0, .slice none 0 0] 28) = W1 := ⟨_, rfl⟩
  have huW1 : Upd nob w W1 := by rw [← hW1]; exact ((Upd.refl nob w).alloc _).alloc _
  have hsW1 : W1.heap.size = w.heap.size + 2 := by rw [← hW1]; simp
  have b0 : Blk W1 (w.heap.size) 28 cs := by
   rw [← hW1]
   have h := Blk.new (w) 28 cs
   exact h.alloc _
  have b1 : Blk W1 (w.heap.size + 1) 28 #[.int .i64 0, .int .i64 0, .string ByteArray.empty, .int .i64 0, .int .i64 0, .slice none 0 0, .slice none 0 0, .slice none 0 0] := by
   rw [← hW1]
   have h := Blk.new (w.alloc (.cells cs 28)) 28 #[.int .i64 0, .int .i64 0, .string ByteArray.empty, .int .i64 0, .int .i64 0, .slice none 0 0, .slice none 0 0, .slice none 0 0]
   rw [World.size_alloc] at h
   exact h
  have HW1 := Lib.hid hW1
  have r0 := b0.rowAt
  have hp := tnode_any t cs D W1 (hD.up huW1) (hl.old (hD.old huW1) (fun _ h => h))
  clear hW1 b0
  show Calls Tryz.prog 130 #[.agg cs, .int .i64 i] w _
  go_enter Tryz.func130, Tryz.ntmps130
  rw [← HW1.out] at r0
  go_wp2_with (first
          | ((with_reducible refine this_op (.load 28 (.tmp 2)) ?_); refine wpList_at rfl 28 (.tmp 2) rfl ⟨w.heap.size, 0, none⟩ rfl _ _ r0 Tryz.underlying28 rfl hsi ?_))
  rw [HW1.out]
  refine hp.mono ?_
  rintro e w2 ⟨cs2, rfl, hl2, hb2⟩
  have hu2 : Upd nob W1 w2 := Upd.of_below hb2
  have C1 := b1.upd hu2 (fun f => f)
  have hs2 := hl2.oneCell
  have hsi2 : (Tryz.prog.info? 28).map (·.size) = some cs2.size := by rw [hs2.1]; exact tm_size
  go_wp2_with (first
          | ((with_reducible refine this_op (.store 28 (.tmp 4) (.tmp 6)) ?_); refine wpList_store_row rfl 28 (.tmp 4) (.tmp 6) rfl (w.heap.size + 1) _ rfl rfl 28 _ C1 hsi2 (by rw [hs2.1]; rfl) hs2.2 ?_))
  refine bodyPost_ret (results_cell_row rfl _ _ (w.heap.size + 1) 28 cs2 (0, 0) _ rfl (C1.row _) Tryz.underlying28 rfl hsi2) rfl ?_
  have hfin : Upd (fun q => q = w.heap.size + 1) w2 (w2.setRow (w.heap.size + 1) cs2) := (Upd.refl (fun q => q = w.heap.size + 1) w2).setRow (.inl rfl) _
  have hs9 : (w2.setRow (w.heap.size + 1) cs2).heap.size = w2.heap.size := by simp
  have hs3 := hu2.size
  refine ⟨cs2, rfl, hl2.old (Old.of_upd hfin fun q hq => ?_) (fun q hq => ?_), ((huW1.trans hu2).trans' hfin (fun q hq h => by omega)).below⟩
  · rcases hq with hq | hq
    · have := hD q hq; exact ⟨by omega, by omega⟩
    exact ⟨by omega, hq.2⟩
  rcases hq with hq | hq
  · exact .inl hq
  exact .inr ⟨by omega, by omega⟩
end Go.Proofs.YtiampoebdmflgaaGreat
/- term.own, Var, Const. -/
namespace Go.Proofs.YtiampoebdmflgaaGreat
open Go.RowKit
set_option linter.unusedVariables false
set_option maxRecDepth 100000
set_option maxHeartbeats 4000000
set_option linter.unusedSimpArgs false
def town (t : Tm) : Tm := if tgreat t = true then t else treb (fun t _ => tnode t) t 0
theorem res_tm {D : Nat → Prop} {w W1 w2 : World} {t : Tm} {cs : Array Value} {g : Nat} (hD : Within D w) (h1 : Upd nob w W1) (h2 : Upd nob W1 w2) (hg : w.heap.size ≤ g) (hg2 : g < W1.heap.size) (hl : TmIs (grow D W1 w2) w2 t cs) :
    TmIs (grow D w (w2.setRow g cs)) (w2.setRow g cs) t cs ∧ Below w.heap.size w (w2.setRow g cs) := by
 have hfin : Upd (fun q => q = g) w2 (w2.setRow g cs) := (Upd.refl (fun q => q = g) w2).setRow (.inl rfl) _
 have hs9 : (w2.setRow g cs).heap.size = w2.heap.size := by simp
 have hs3 := h2.size
 have hs1 := h1.size
 refine ⟨hl.old (Old.of_upd hfin fun q hq => ?_) (fun q hq => ?_), ((h1.trans h2).trans' hfin (fun q hq h => by omega)).below⟩
 · rcases hq with hq | hq
   · have := hD q hq; exact ⟨by omega, by omega⟩
   have := hq.1; exact ⟨by omega, hq.2⟩
 rcases hq with hq | hq
 · exact .inl hq
 have := hq.1; have := hq.2; exact .inr ⟨by omega, by omega⟩
theorem town_any (t : Tm) (cs : Array Value) (D : Nat → Prop) (w : World) (hD : Within D w) (hl : TmIs D w t cs) :
    Calls Tryz.prog 98 #[.agg cs] w fun e w' => ∃ cs', e = .returned (.agg cs') ∧ TmIs (grow D w w') w' (town t) cs' ∧ Below w.heap.size w w' := by
 have hz := tm_zero
 have hs := hl.oneCell
 have hsi : (Tryz.prog.info? 28).map (·.size) = some cs.size := by rw [hs.1]; exact tm_size
 obtain ⟨X, hX⟩ : ∃ X, town t = X := ⟨_, rfl⟩
 rw [hX]
 have HX := Lib.hid hX; clear hX
 obtain ⟨W1, hW1⟩ : ∃ W1, (w.alloc (.cells cs 28)).alloc (.cells #[.int .i64 0, .int .i64 0, .string ByteArray.empty, .int .i64 0, .int .i64 0, .slice none 0 0, .slice none 0 0, .slice none 0 0] 28) = W1 := ⟨_, rfl⟩
 have huW1 : Upd nob w W1 := by rw [← hW1]; exact ((Upd.refl nob w).alloc _).alloc _
 have hsW1 : W1.heap.size = w.heap.size + 2 := by rw [← hW1]; simp
 have b0 : Blk W1 (w.heap.size) 28 cs := by
  rw [← hW1]
  have h := Blk.new (w) 28 cs
  exact h.alloc _
 have b1 : Blk W1 (w.heap.size + 1) 28 #[.int .i64 0, .int .i64 0, .string ByteArray.empty, .int .i64 0, .int .i64 0, .slice none 0 0, .slice none 0 0, .slice none 0 0] := by
  rw [← hW1]
  have h := Blk.new (w.alloc (.cells cs 28)) 28 #[.int .i64 0, .int .i64 0, .string ByteArray.empty, .int .i64 0, .int .i64 0, .slice none 0 0, .slice none 0 0, .slice none 0 0]
  rw [World.size_alloc] at h
  exact h
 have HW1 := Lib.hid hW1
 have r0 := b0.rowAt
 have B0 := Lib.hid b0
 have B1 := Lib.hid b1
 have hl1 := hl.old (hD.old huW1) (fun _ h => h)
 have hD1 := hD.up huW1
 clear hW1 b0 b1
 go_enter Tryz.func98, Tryz.ntmps98
 rw [← HW1.out] at r0
 go_wp2_with (first
       | ((with_reducible refine this_op (.load 28 (.tmp 1)) ?_); refine wpList_at rfl 28 (.tmp 1) rfl ⟨w.heap.size, 0, none⟩ rfl _ _ r0 Tryz.underlying28 rfl hsi ?_))
 rw [HW1.out]
 refine (tgreat_any t cs D W1 hD1 hl1).mono ?_
 rintro e w2 ⟨rfl, hb2⟩
 have hu2 : Upd nob W1 w2 := Upd.of_below hb2
 have r2 := (B0.out.upd hu2 (fun f => f)).rowAt
 have C1 := B1.out.upd hu2 (fun f => f)
 have hl2 := hl1.old (hD1.old hu2) (fun _ h => h)
 clear r0
 cases hg : tgreat t with
 | true =>
  have HG := Lib.hid hg; clear hg
  go_wp2_with (first
          | ((with_reducible refine this_op (.load 28 (.tmp 1)) ?_); refine wpList_at rfl 28 (.tmp 1) rfl ⟨w.heap.size, 0, none⟩ rfl _ _ r2 Tryz.underlying28 rfl hsi ?_)
          | ((with_reducible refine this_op (.store 28 (.tmp 2) (.tmp 5)) ?_); refine wpList_store_row rfl 28 (.tmp 2) (.tmp 5) rfl (w.heap.size + 1) _ rfl rfl 28 _ C1 hsi (by rw [hs.1]; rfl) hs.2 ?_))
  refine bodyPost_ret (results_cell_row rfl _ _ (w.heap.size + 1) 28 cs (0, 0) _ rfl (C1.row _) Tryz.underlying28 rfl hsi) rfl ?_
  have hx : X = t := by rw [← HX.out, town, if_pos HG.out]
  rw [hx]
  exact ⟨cs, rfl, res_tm hD huW1 hu2 (by omega) (by omega) (hl2.old (Old.refl _ _) (fun _ h => .inl h))⟩
 | false =>
  have HG := Lib.hid hg; clear hg
  go_wp2_with (first
          | ((with_reducible refine this_op (.load 28 (.tmp 1)) ?_); refine wpList_at rfl 28 (.tmp 1) rfl ⟨w.heap.size, 0, none⟩ rfl _ _ r2 Tryz.underlying28 rfl hsi ?_))
  refine (treb_any (own1_visit D) t cs 0 w2 hl2 trivial (hD1.up hu2) (by omega) (by have := great_vh HG.out; omega)).mono ?_
  rintro e w3 ⟨cs3, rfl, hl3, hb3⟩
  have hu3 : Upd nob w2 w3 := Upd.of_below hb3
  have hs3 := hl3.oneCell
  have hsi3 : (Tryz.prog.info? 28).map (·.size) = some cs3.size := by rw [hs3.1]; exact tm_size
  have C3 := C1.upd hu3 (fun f => f)
  clear C1 r2
  go_wp2_with (first
          | ((with_reducible refine this_op (.store 28 (.tmp 2) (.tmp 7)) ?_); refine wpList_store_row rfl 28 (.tmp 2) (.tmp 7) rfl (w.heap.size + 1) _ rfl rfl 28 _ C3 hsi3 (by rw [hs3.1]; rfl) hs3.2 ?_))
  refine bodyPost_ret (results_cell_row rfl _ _ (w.heap.size + 1) 28 cs3 (0, 0) _ rfl (C3.row _) Tryz.underlying28 rfl hsi3) rfl ?_
  have hx : X = treb (fun t _ => tnode t) t 0 := by rw [← HX.out, town, if_neg (by rw [HG.out]; decide)]
  rw [hx]
  have hsz2 := hu2.size
  exact ⟨cs3, rfl, res_tm hD (huW1.trans hu2) hu3 (by omega) (by omega) hl3⟩
theorem tvar_any (n : Int) (hn : InI n) (w : World) : Calls Tryz.prog 113 #[.int .i64 n] w fun e w' => ∃ cs', e = .returned (.agg cs') ∧ TmIs nob w' (.mk 1 n ByteArray.empty lzero' [] []) cs' ∧ Below w.heap.size w w' := by
 have hz := tm_zero
 go_enter Tryz.func113, Tryz.ntmps113
 go_wp2
 refine bodyPost_ret (results_cell_row rfl _ _ w.heap.size 28 #[.int .i64 1, .int .i64 n, .string ByteArray.empty, .int .i64 0, .int .i64 0, .slice none 0 0, .slice none 0 0, .slice none 0 0] (0, 0) _ rfl (Blk.new _ _ _) Tryz.underlying28 rfl tm_size) rfl ?_
 refine ⟨_, rfl, TmIs.short _ _ (by unfold InI; omega) hn, ?_⟩
 exact ((Upd.refl nob w).alloc _).below
end Go.Proofs.YtiampoebdmflgaaGreat
/- term.Size, fits, lift, Lift, ownTerm. -/
namespace Go.Proofs.YtiampoebdmflgaaGreat
open Go.RowKit
set_option linter.unusedVariables false
set_option maxRecDepth 100000
set_option maxHeartbeats 4000000
set_option linter.unusedSimpArgs false
def liftF (from_ by_ : Int) (t : Tm) (i : Int) : Tm :=
 if t.k ≠ 1 ∨ t.n < i ∨ t.n - i < from_ then tnode t
 else if 0 < by_ then .mk 1 (min t.n (9223372036854775807 - by_) + by_) ByteArray.empty lzero' [] []
 else .mk 1 (max i (t.n + by_)) ByteArray.empty lzero' [] []
def tlift (t : Tm) (from_ by_ : Int) : Tm := treb (liftF from_ by_) t 0
def tmz : Tm := .mk 0 0 ByteArray.empty lzero' [] []
def tLift (t : Tm) (from_ by_ : Int) : Tm := if tgreat t = true then tmz else tlift t (max 0 from_) (max (-1048576) (min by_ 1048576))
def tsize (t : Tm) : Int := (tmeas t).1
def wown (t : Tm) : Tm := if tsize t = 0 then t else tLift t 0 0
def wfits (t : Tm) : Bool := decide (0 < tsize t) && decide (tsize t ≤ 4000)
theorem TmIs.lit8 {D : Nat → Prop} {w : World} {t : Tm} {cs : Array Value} (h : TmIs D w t cs) : ∃ (p q : Int) (B : Option Addr) (m d : Nat) (A : Option Addr) (c : Nat) (A' : Option Addr) (c' : Nat),
    cs = #[.int .i64 t.k, .int .i64 t.n, .string t.nm, .int .i64 p, .int .i64 q, .slice B m d, .slice A t.ls.length c, .slice A' t.ks.length c'] := by
 obtain ⟨x, y, z, A, c, A', c', rfl, _, _, _, hlv, _⟩ := h.lit
 obtain ⟨p, q, B, m, d, e⟩ := hlv.lit3
 simp only [Array.mk.injEq, List.cons.injEq, and_true] at e
 obtain ⟨rfl, rfl, rfl⟩ := e
 exact ⟨_, _, _, _, _, _, _, _, _, rfl⟩
theorem tsize_any (t : Tm) (cs : Array Value) (D : Nat → Prop) (w : World) (hD : Within D w) (hl : TmIs D w t cs) :
    Calls Tryz.prog 86 #[.agg cs] w fun e w' => e = .returned (.int .i64 (tsize t)) ∧ Below w.heap.size w w' := by
 have hs := hl.oneCell
 have hsi : (Tryz.prog.info? 28).map (·.size) = some cs.size := by rw [hs.1]; exact tm_size
 obtain ⟨W1, hW1⟩ : ∃ W1, w.alloc (.cells cs 28) = W1 := ⟨_, rfl⟩
 have huW1 : Upd nob w W1 := by rw [← hW1]; exact (Upd.refl nob w).alloc _
 have hsW1 : W1.heap.size = w.heap.size + 1 := by rw [← hW1]; simp
 have b0 : Blk W1 (w.heap.size) 28 cs := by
  rw [← hW1]
  have h := Blk.new (w) 28 cs
  exact h
 have HW1 := Lib.hid hW1
 have r0 := b0.rowAt
 have hp := tmeas_any t cs D W1 (hD.up huW1) (hl.old (hD.old huW1) (fun _ h => h))
 have he : (tmeas t).1 = tsize t := rfl
 rw [he] at hp
 clear hW1 b0 he
 go_enter Tryz.func86, Tryz.ntmps86
 rw [← HW1.out] at r0
 go_wp2_with (first
  | ((with_reducible refine this_op (.load 28 (.tmp 1)) ?_); refine wpList_at rfl 28 (.tmp 1) rfl ⟨w.heap.size, 0, none⟩ rfl _ _ r0 Tryz.underlying28 rfl hsi ?_))
 rw [HW1.out]
 refine hp.mono ?_
 rintro e w2 ⟨rfl, hb2⟩
 go_wp2_with fail
 go_ret
 exact ⟨rfl, (huW1.trans (Upd.of_below hb2)).below⟩
theorem wfits_any (t : Tm) (cs : Array Value) (D : Nat → Prop) (w : World) (hD : Within D w) (hl : TmIs D w t cs) :
    Calls Tryz.prog 57 #[.agg cs] w fun e w' => e = .returned (.bool (wfits t)) ∧ Below w.heap.size w w' := by
 have hs := hl.oneCell
 have hsi : (Tryz.prog.info? 28).map (·.size) = some cs.size := by rw [hs.1]; exact tm_size
 obtain ⟨s, he⟩ : ∃ s, tsize t = s := ⟨_, rfl⟩
 have hX : wfits t = (decide (0 < s) && decide (s ≤ 4000)) := by unfold wfits; rw [he]
 rw [hX]
 obtain ⟨W1, hW1⟩ : ∃ W1, w.alloc (.cells cs 28) = W1 := ⟨_, rfl⟩
 have huW1 : Upd nob w W1 := by rw [← hW1]; exact (Upd.refl nob w).alloc _
 have hsW1 : W1.heap.size = w.heap.size + 1 := by rw [← hW1]; simp
 have b0 : Blk W1 (w.heap.size) 28 cs := by
  rw [← hW1]
  have h := Blk.new (w) 28 cs
  exact h
 have HW1 := Lib.hid hW1
 have r0 := b0.rowAt
 have hp := tsize_any t cs D W1 (hD.up huW1) (hl.old (hD.old huW1) (fun _ h => h))
 rw [he] at hp
 clear hW1 b0 he hX
 cases t1 : decide (0 < s) with
 | true =>
  go_enter Tryz.func57, Tryz.ntmps57
  rw [← HW1.out] at r0
  go_wp2_with (first
   | ((with_reducible refine this_op (.load 28 (.tmp 1)) ?_); refine wpList_at rfl 28 (.tmp 1) rfl ⟨w.heap.size, 0, none⟩ rfl _ _ r0 Tryz.underlying28 rfl hsi ?_))
  rw [HW1.out]
  refine hp.mono ?_
  rintro e w2 ⟨rfl, hb2⟩
  have t1' : decide (s > 0) = true := t1
  clear t1
  go_wp2_with fail
  go_ret
  exact ⟨by simp, (huW1.trans (Upd.of_below hb2)).below⟩
 | false =>
  go_enter Tryz.func57, Tryz.ntmps57
  rw [← HW1.out] at r0
  go_wp2_with (first
   | ((with_reducible refine this_op (.load 28 (.tmp 1)) ?_); refine wpList_at rfl 28 (.tmp 1) rfl ⟨w.heap.size, 0, none⟩ rfl _ _ r0 Tryz.underlying28 rfl hsi ?_))
  rw [HW1.out]
  refine hp.mono ?_
  rintro e w2 ⟨rfl, hb2⟩
  have t1' : decide (s > 0) = false := t1
  clear t1
  go_wp2_with fail
  go_ret
  exact ⟨by simp, (huW1.trans (Upd.of_below hb2)).below⟩
theorem lift1_any (t : Tm) (cs : Array Value) (i from_ by_ : Int) (g1 g2 : Nat) (D : Nat → Prop) (w : World) (hD : Within D w) (hl : TmIs D w t cs) (h1 : Blk w g1 3 #[.int .i64 from_]) (h2 : Blk w g2 3 #[.int .i64 by_])
    (hi : 0 ≤ i) (hi2 : i ≤ 4611686018427387904) (hb1 : -1048576 ≤ by_) (hb2 : by_ ≤ 4611686018427387904) :
    Calls Tryz.prog 152 #[.agg cs, .int .i64 i, .pointer (some ⟨g1, 0, none⟩), .pointer (some ⟨g2, 0, none⟩)] w fun e w' =>
     ∃ cs', e = .returned (.agg cs') ∧ TmIs (grow D w w') w' (liftF from_ by_ t i) cs' ∧ Below w.heap.size w w' := by
 have hz := tm_zero
 obtain ⟨x, y, z, A, c, A', c', rfl, hk, hn, _, _, _, _, _, _⟩ := hl.lit
 obtain ⟨X, hX⟩ : ∃ X, liftF from_ by_ t i = X := ⟨_, rfl⟩
 rw [hX]
 have HX := Lib.hid hX; clear hX
 obtain ⟨k, hk0⟩ : ∃ k, t.k = k := ⟨_, rfl⟩
 obtain ⟨n, hn0⟩ : ∃ n, t.n = n := ⟨_, rfl⟩
 obtain ⟨nm, hnm0⟩ : ∃ nm, t.nm = nm := ⟨_, rfl⟩
 obtain ⟨ls, hls0⟩ : ∃ ls, t.ls = ls := ⟨_, rfl⟩
 obtain ⟨ks, hks0⟩ : ∃ ks, t.ks = ks := ⟨_, rfl⟩
 rw [hk0, hn0, hnm0, hls0, hks0] at hl
 rw [hk0, hn0, hnm0, hls0, hks0]
 rw [hk0] at hk
 rw [hn0] at hn
 have HK0 := Lib.hid hk0
 have HN0 := Lib.hid hn0
 clear hk0 hn0 hnm0 hls0 hks0
 have hsi : (Tryz.prog.info? 28).map (·.size) = some (#[.int .i64 k, .int .i64 n, .string nm, x, y, z, .slice A ls.length c, .slice A' ks.length c'] : Array Value).size := tm_size
 obtain ⟨W1, hW1⟩ : ∃ W1, (w.alloc (.cells #[.int .i64 k, .int .i64 n, .string nm, x, y, z, .slice A ls.length c, .slice A' ks.length c'] 28)).alloc (.cells #[.int .i64 0, .int .i64 0, .string ByteArray.empty, .int .i64 0, .int .i64 0, .slice none 0 0, .slice none 0 0, .slice none 0 0] 28) = W1 := ⟨_, rfl⟩
 have huW1 : Upd nob w W1 := by rw [← hW1]; exact ((Upd.refl nob w).alloc _).alloc _
 have hsW1 : W1.heap.size = w.heap.size + 2 := by rw [← hW1]; simp
 have b0 : Blk W1 (w.heap.size) 28 #[.int .i64 k, .int .i64 n, .string nm, x, y, z, .slice A ls.length c, .slice A' ks.length c'] := by
  rw [← hW1]
  have h := Blk.new (w) 28 #[.int .i64 k, .int .i64 n, .string nm, x, y, z, .slice A ls.length c, .slice A' ks.length c']
  exact h.alloc _
 have b1 : Blk W1 (w.heap.size + 1) 28 #[.int .i64 0, .int .i64 0, .string ByteArray.empty, .int .i64 0, .int .i64 0, .slice none 0 0, .slice none 0 0, .slice none 0 0] := by
  rw [← hW1]
  have h := Blk.new (w.alloc (.cells #[.int .i64 k, .int .i64 n, .string nm, x, y, z, .slice A ls.length c, .slice A' ks.length c'] 28)) 28 #[.int .i64 0, .int .i64 0, .string ByteArray.empty, .int .i64 0, .int .i64 0, .slice none 0 0, .slice none 0 0, .slice none 0 0]
  rw [World.size_alloc] at h
  exact h
 have HW1 := Lib.hid hW1
 have r0 := b0.rowAt
 have hp := tnode_any t _ D W1 (hD.up huW1) (hl.old (hD.old huW1) (fun _ h => h))
 obtain ⟨N, hN⟩ : ∃ N, tnode t = N := ⟨_, rfl⟩
 rw [hN] at hp
 have HN := Lib.hid hN
 have HB0 := Lib.hid b0
 have HB1 := Lib.hid b1
 have hg1 := h1.upd huW1 (fun f => f)
 have hg2 := h2.upd huW1 (fun f => f)
 have HG1 := Lib.hid hg1
 have HG2 := Lib.hid hg2
 clear hW1 b0 b1 h1 h2 hN hg1 hg2
 go_enter Tryz.func152, Tryz.ntmps152
 rw [← HW1.out] at r0
 go_wp2_with (first
  | ((with_reducible refine this_op (.load 28 (.tmp 4)) ?_); refine wpList_at rfl 28 (.tmp 4) rfl ⟨w.heap.size, 0, none⟩ rfl _ _ r0 Tryz.underlying28 rfl hsi ?_))
 rw [HW1.out]
 refine hp.mono ?_
 rintro e w2 ⟨cs2, rfl, hl2, hb2⟩
 have hu2 : Upd nob W1 w2 := Upd.of_below hb2
 obtain ⟨x2, y2, B2, m2, d2, A2, c2, A2', c2', rfl⟩ := hl2.lit8
 have HL2 := Lib.hid hl2
 have hs2 := hl2.oneCell
 clear r0 hb2 hl2
 obtain ⟨W3, hW3⟩ : ∃ W3, w2.alloc (.cells #[.int .i64 N.k, .int .i64 N.n, .string N.nm, (.int .i64 x2), (.int .i64 y2), (.slice B2 m2 d2), .slice A2 N.ls.length c2, .slice A2' N.ks.length c2'] 28) = W3 := ⟨_, rfl⟩
 have hu3 : Upd nob w2 W3 := by rw [← hW3]; exact (Upd.refl nob w2).alloc _
 have HG3 := Lib.hid (show Blk W3 w2.heap.size 28 #[.int .i64 N.k, .int .i64 N.n, .string N.nm, (.int .i64 x2), (.int .i64 y2), (.slice B2 m2 d2), .slice A2 N.ls.length c2, .slice A2' N.ks.length c2'] by rw [← hW3]; exact Blk.new w2 _ _)
 have hu13 := hu2.trans hu3
 have HC1 := Lib.hid (HB1.out.upd hu13 (fun f => f))
 have p0 : W3.cell? ⟨w.heap.size, 0, none⟩ = some (.int .i64 k) := (HB0.out.upd hu13 (fun f => f)).cell 0
 have p1 : W3.cell? ⟨w.heap.size, 1, none⟩ = some (.int .i64 n) := (HB0.out.upd hu13 (fun f => f)).cell 1
 have p2 : W3.cell? ⟨g1, 0, none⟩ = some (.int .i64 from_) := (HG1.out.upd hu13 (fun f => f)).cell 0
 have p3 : W3.cell? ⟨g2, 0, none⟩ = some (.int .i64 by_) := (HG2.out.upd hu13 (fun f => f)).cell 0
 have p4 : W3.cell? ⟨w2.heap.size, 1, none⟩ = some (.int .i64 N.n) := HG3.out.cell 1
 have f4 : W3.frozen? ⟨w2.heap.size, 1, none⟩ = false := HG3.out.frozen 1
 have r3 := HG3.out.rowAt
 have HL3 := Lib.hid (HL2.out.old (D' := grow D W1 W3) (Within.old ((hD.up huW1).grow hu2.size) hu3) (fun q hq => hq.elim (fun h => .inl h) (fun h => .inr ⟨h.1, Nat.lt_of_lt_of_le h.2 hu3.size⟩)))
 have HS2 := Lib.hid hs2
 clear hs2
 have lt0 := HB0.out.lt
 have lt1 := HB1.out.lt
 have lt3 := HG3.out.lt
 by_cases hA : k ≠ 1 ∨ n < i ∨ n - i < from_
 · -- stays
   have hx : X = N := by rw [← HX.out, liftF, if_pos (by rw [HK0.out, HN0.out]; exact hA), HN.out]
   have fin : ∀ cs4, cs4 = #[.int .i64 N.k, .int .i64 N.n, .string N.nm, (.int .i64 x2), (.int .i64 y2), (.slice B2 m2 d2), .slice A2 N.ls.length c2, .slice A2' N.ks.length c2'] → TmIs (grow D w (W3.setRow (w.heap.size + 1) cs4)) (W3.setRow (w.heap.size + 1) cs4) X cs4 ∧ Below w.heap.size w (W3.setRow (w.heap.size + 1) cs4) := by
    rintro cs4 rfl
    rw [hx]
    exact res_tm hD huW1 hu13 (by omega) (by omega) HL3.out
   by_cases t1 : k = 1
   · have e1 : (k = 1) = True := eq_true t1
     by_cases t2 : n < i
     · have e2 : (n < i) = True := eq_true t2
       clear t1 t2 hA
       go_wp2_with (first
        | ((with_reducible refine this_op (.load 28 (.tmp 7)) ?_); refine wpList_at rfl 28 (.tmp 7) rfl ⟨w2.heap.size, 0, none⟩ rfl _ _ r3 Tryz.underlying28 rfl tm_size ?_)
        | ((with_reducible refine this_op (.store 28 (.tmp 6) (.tmp 46)) ?_); refine wpList_store_row rfl 28 (.tmp 6) (.tmp 46) rfl (w.heap.size + 1) _ rfl rfl 28 _ HC1.out tm_size rfl HS2.out.2 ?_))
       refine bodyPost_ret (results_cell_row rfl _ _ (w.heap.size + 1) 28 #[.int .i64 N.k, .int .i64 N.n, .string N.nm, (.int .i64 x2), (.int .i64 y2), (.slice B2 m2 d2), .slice A2 N.ls.length c2, .slice A2' N.ks.length c2'] (0, 0) _ rfl (HC1.out.row _) Tryz.underlying28 rfl tm_size) rfl ?_
       exact ⟨_, rfl, fin _ rfl⟩
     have e2 : (n < i) = False := eq_false t2
     have hwr : wrap64 (n - i) = n - i := by have := hn.1; have := hn.2; unfold wrap64; omega
     have e3 : (n - i < from_) = True := eq_true (by
      rcases hA with h | h | h
      · exact absurd t1 h
      · exact absurd h t2
      exact h)
     clear t1 t2 hA
     go_wp2_with (first
      | ((with_reducible refine this_op (.load 28 (.tmp 7)) ?_); refine wpList_at rfl 28 (.tmp 7) rfl ⟨w2.heap.size, 0, none⟩ rfl _ _ r3 Tryz.underlying28 rfl tm_size ?_)
      | ((with_reducible refine this_op (.store 28 (.tmp 6) (.tmp 46)) ?_); refine wpList_store_row rfl 28 (.tmp 6) (.tmp 46) rfl (w.heap.size + 1) _ rfl rfl 28 _ HC1.out tm_size rfl HS2.out.2 ?_))
     refine bodyPost_ret (results_cell_row rfl _ _ (w.heap.size + 1) 28 #[.int .i64 N.k, .int .i64 N.n, .string N.nm, (.int .i64 x2), (.int .i64 y2), (.slice B2 m2 d2), .slice A2 N.ls.length c2, .slice A2' N.ks.length c2'] (0, 0) _ rfl (HC1.out.row _) Tryz.underlying28 rfl tm_size) rfl ?_
     exact ⟨_, rfl, fin _ rfl⟩
   have e1 : (k = 1) = False := eq_false t1
   clear t1 hA
   go_wp2_with (first
    | ((with_reducible refine this_op (.load 28 (.tmp 7)) ?_); refine wpList_at rfl 28 (.tmp 7) rfl ⟨w2.heap.size, 0, none⟩ rfl _ _ r3 Tryz.underlying28 rfl tm_size ?_)
    | ((with_reducible refine this_op (.store 28 (.tmp 6) (.tmp 46)) ?_); refine wpList_store_row rfl 28 (.tmp 6) (.tmp 46) rfl (w.heap.size + 1) _ rfl rfl 28 _ HC1.out tm_size rfl HS2.out.2 ?_))
   refine bodyPost_ret (results_cell_row rfl _ _ (w.heap.size + 1) 28 #[.int .i64 N.k, .int .i64 N.n, .string N.nm, (.int .i64 x2), (.int .i64 y2), (.slice B2 m2 d2), .slice A2 N.ls.length c2, .slice A2' N.ks.length c2'] (0, 0) _ rfl (HC1.out.row _) Tryz.underlying28 rfl tm_size) rfl ?_
   exact ⟨_, rfl, fin _ rfl⟩
 have hk1 : k = 1 := Decidable.byContradiction fun h => hA (.inl h)
 have hni : i ≤ n := by have : ¬ n < i := fun h => hA (.inr (.inl h)); omega
 have e1 : (k != 1) = false := by simp [hk1]
 have e2 : (n < i) = False := eq_false (by omega)
 have e3 : (n - i < from_) = False := eq_false (fun h => hA (.inr (.inr h)))
 have hwr : wrap64 (n - i) = n - i := by have := hn.1; have := hn.2; unfold wrap64; omega
 have hN1 : N = .mk 1 n ByteArray.empty lzero' [] [] := by rw [← HN.out, tnode, if_pos (by rw [HK0.out]; exact hk1), HN0.out]
 have HN1 := Lib.hid hN1
 clear hN1
 have fin : ∀ (m : Int), InI m → X = .mk 1 m ByteArray.empty lzero' [] [] → TmIs (grow D w ((W3.setCell ⟨w2.heap.size, 1, none⟩ (.int .i64 m)).setRow (w.heap.size + 1) (#[.int .i64 N.k, .int .i64 m, .string N.nm, (.int .i64 x2), (.int .i64 y2), (.slice B2 m2 d2), .slice A2 N.ls.length c2, .slice A2' N.ks.length c2']))) ((W3.setCell ⟨w2.heap.size, 1, none⟩ (.int .i64 m)).setRow (w.heap.size + 1) (#[.int .i64 N.k, .int .i64 m, .string N.nm, (.int .i64 x2), (.int .i64 y2), (.slice B2 m2 d2), .slice A2 N.ls.length c2, .slice A2' N.ks.length c2'])) X (#[.int .i64 N.k, .int .i64 m, .string N.nm, (.int .i64 x2), (.int .i64 y2), (.slice B2 m2 d2), .slice A2 N.ls.length c2, .slice A2' N.ks.length c2']) ∧ Below w.heap.size w ((W3.setCell ⟨w2.heap.size, 1, none⟩ (.int .i64 m)).setRow (w.heap.size + 1) (#[.int .i64 N.k, .int .i64 m, .string N.nm, (.int .i64 x2), (.int .i64 y2), (.slice B2 m2 d2), .slice A2 N.ls.length c2, .slice A2' N.ks.length c2'])) := by
  intro m hm hX
  have hN1 := HN1.out
  subst hN1
  have h1 := HL2.out
  simp only [TmIs, Tm.k, Tm.n, Tm.nm, Tm.ls, Tm.ks] at h1
  obtain ⟨xa, ya, za, Aa, ca, Aa', ca', e1, e2, e3, e4, e5, e6, e7, e8, e9⟩ := h1
  have hD1 := hD.up huW1
  rw [hX]
  have hu14 : Upd (fun q => q = w2.heap.size) W3 (W3.setCell ⟨w2.heap.size, 1, none⟩ (.int .i64 m)) := (Upd.refl (fun q => q = w2.heap.size) W3).setCell (.inl rfl) _
  have hu24 : Upd nob w2 (W3.setCell ⟨w2.heap.size, 1, none⟩ (.int .i64 m)) := hu3.trans' hu14 (fun q hq h => by have : q = w2.heap.size := h; omega)
  have hold := Within.old (hD1.grow hu2.size) hu24
  refine res_tm hD huW1 (hu2.trans hu24) (by omega) (by omega) ?_
  simp only [Array.mk.injEq, List.cons.injEq, Value.slice.injEq, and_true] at e1
  obtain ⟨_, _, _, rfl, rfl, rfl, _, _⟩ := e1
  simp only [TmIs, Tm.k, Tm.n, Tm.nm, Tm.ls, Tm.ks]
  refine ⟨_, _, _, A2, c2, A2', c2', rfl, e2, hm, e4, e5.old hold (fun q hq => hq.elim (fun h => .inl h) (fun h => .inr ⟨h.1, Nat.lt_of_lt_of_le h.2 hu24.size⟩)), ⟨by simp, Nat.zero_le _⟩, by simp only [LvsAt], ⟨by simp, Nat.zero_le _⟩, by simp only [TmsAt]⟩
 have hx : X = if 0 < by_ then .mk 1 (min n (9223372036854775807 - by_) + by_) ByteArray.empty lzero' [] [] else .mk 1 (max i (n + by_)) ByteArray.empty lzero' [] [] := by
  rw [← HX.out, liftF, if_neg (by rw [HK0.out, HN0.out]; exact hA), HN0.out]
 by_cases hby : 0 < by_
 · rw [if_pos hby] at hx
   have e4 : (0 < by_) = True := eq_true hby
   have w1 : wrap64 (9223372036854775807 - by_) = 9223372036854775807 - by_ := by unfold wrap64; omega
   have w2_ : wrap64 (min n (9223372036854775807 - by_) + by_) = min n (9223372036854775807 - by_) + by_ := by unfold wrap64; omega
   have fin' := fin _ (by unfold InI; omega) hx
   clear fin hA hk1 hby
   have r5 : rowAt (W3.setCell ⟨w2.heap.size, 1, none⟩ (.int .i64 (min n (9223372036854775807 - by_) + by_))) ⟨w2.heap.size, 0, none⟩ #[.int .i64 N.k, .int .i64 (min n (9223372036854775807 - by_) + by_), .string N.nm, (.int .i64 x2), (.int .i64 y2), (.slice B2 m2 d2), .slice A2 N.ls.length c2, .slice A2' N.ks.length c2'] := (HG3.out.set 1 _).rowAt
   have HC5 := Lib.hid (HC1.out.far (p := ⟨w2.heap.size, 1, none⟩) (u := .int .i64 (min n (9223372036854775807 - by_) + by_)) (by have : w.heap.size + 1 < w2.heap.size := Nat.lt_of_lt_of_le lt1 hu2.size; show w.heap.size + 1 ≠ w2.heap.size; omega))
   go_wp2_with (first
    | ((with_reducible refine this_op (.load 28 (.tmp 7)) ?_); refine wpList_at rfl 28 (.tmp 7) rfl ⟨w2.heap.size, 0, none⟩ rfl _ _ r5 Tryz.underlying28 rfl tm_size ?_)
    | ((with_reducible refine this_op (.store 28 (.tmp 6) (.tmp 46)) ?_); refine wpList_store_row rfl 28 (.tmp 6) (.tmp 46) rfl (w.heap.size + 1) _ rfl rfl 28 _ HC5.out tm_size rfl (by simp [Value.oneCell']) ?_))
   refine bodyPost_ret (results_cell_row rfl _ _ (w.heap.size + 1) 28 #[.int .i64 N.k, .int .i64 (min n (9223372036854775807 - by_) + by_), .string N.nm, (.int .i64 x2), (.int .i64 y2), (.slice B2 m2 d2), .slice A2 N.ls.length c2, .slice A2' N.ks.length c2'] (0, 0) _ rfl (HC5.out.row _) Tryz.underlying28 rfl tm_size) rfl ?_
   exact ⟨_, rfl, fin'⟩
 rw [if_neg hby] at hx
 have e4 : (0 < by_) = False := eq_false hby
 have w2_ : wrap64 (n + by_) = n + by_ := by have := hn.2; unfold wrap64; omega
 have fin' := fin _ (by have := hn.2; unfold InI; omega) hx
 clear fin hA hk1 hby
 have r5 : rowAt (W3.setCell ⟨w2.heap.size, 1, none⟩ (.int .i64 (max i (n + by_)))) ⟨w2.heap.size, 0, none⟩ #[.int .i64 N.k, .int .i64 (max i (n + by_)), .string N.nm, (.int .i64 x2), (.int .i64 y2), (.slice B2 m2 d2), .slice A2 N.ls.length c2, .slice A2' N.ks.length c2'] := (HG3.out.set 1 _).rowAt
 have HC5 := Lib.hid (HC1.out.far (p := ⟨w2.heap.size, 1, none⟩) (u := .int .i64 (max i (n + by_))) (by have : w.heap.size + 1 < w2.heap.size := Nat.lt_of_lt_of_le lt1 hu2.size; show w.heap.size + 1 ≠ w2.heap.size; omega))
 go_wp2_with (first
  | ((with_reducible refine this_op (.load 28 (.tmp 7)) ?_); refine wpList_at rfl 28 (.tmp 7) rfl ⟨w2.heap.size, 0, none⟩ rfl _ _ r5 Tryz.underlying28 rfl tm_size ?_)
  | ((with_reducible refine this_op (.store 28 (.tmp 6) (.tmp 46)) ?_); refine wpList_store_row rfl 28 (.tmp 6) (.tmp 46) rfl (w.heap.size + 1) _ rfl rfl 28 _ HC5.out tm_size rfl (by simp [Value.oneCell']) ?_))
 refine bodyPost_ret (results_cell_row rfl _ _ (w.heap.size + 1) 28 #[.int .i64 N.k, .int .i64 (max i (n + by_)), .string N.nm, (.int .i64 x2), (.int .i64 y2), (.slice B2 m2 d2), .slice A2 N.ls.length c2, .slice A2' N.ks.length c2'] (0, 0) _ rfl (HC5.out.row _) Tryz.underlying28 rfl tm_size) rfl ?_
 exact ⟨_, rfl, fin'⟩
end Go.Proofs.YtiampoebdmflgaaGreat
/- term.lift, Lift, ownTerm. -/
namespace Go.Proofs.YtiampoebdmflgaaGreat
open Go.RowKit
set_option linter.unusedVariables false
set_option maxRecDepth 100000
set_option maxHeartbeats 4000000
set_option linter.unusedSimpArgs false
theorem lift_visit (D : Nat → Prop) (from_ by_ : Int) (g1 g2 : Nat) (hb1 : -1048576 ≤ by_) (hb2 : by_ ≤ 4611686018427387904) :
    RVisit Tryz.prog 152 #[.pointer (some ⟨g1, 0, none⟩), .pointer (some ⟨g2, 0, none⟩)] D (fun W => Blk W g1 3 #[.int .i64 from_] ∧ Blk W g2 3 #[.int .i64 by_]) (liftF from_ by_) where
 enter := fun _ _ => by go_simp
 keep := fun _ _ h hu => ⟨h.1.upd hu (fun f => f), h.2.upd hu (fun f => f)⟩
 call := fun t cs i w _ hl hR hD h0 hi => lift1_any t cs i from_ by_ g1 g2 D w hD hl hR.1 hR.2 h0 hi hb1 hb2
theorem tlift_any (t : Tm) (cs : Array Value) (from_ by_ : Int) (D : Nat → Prop) (w : World) (hD : Within D w) (hl : TmIs D w t cs) (hv : t.vh ≤ 1000000) (hb1 : -1048576 ≤ by_) (hb2 : by_ ≤ 4611686018427387904) :
    Calls Tryz.prog 126 #[.agg cs, .int .i64 from_, .int .i64 by_] w fun e w' => ∃ cs', e = .returned (.agg cs') ∧ TmIs (grow D w w') w' (tlift t from_ by_) cs' ∧ Below w.heap.size w w' := by
 have hz := tm_zero
 have hs := hl.oneCell
 have hsi : (Tryz.prog.info? 28).map (·.size) = some cs.size := by rw [hs.1]; exact tm_size
 obtain ⟨X, hX⟩ : ∃ X, tlift t from_ by_ = X := ⟨_, rfl⟩
 unfold tlift at hX
 rw [tlift, hX]
 obtain ⟨W1, hW1⟩ : ∃ W1, (((w.alloc (.cells cs 28)).alloc (.cells #[.int .i64 from_] 3)).alloc (.cells #[.int .i64 by_] 3)).alloc (.cells #[.int .i64 0, .int .i64 0, .string ByteArray.empty, .int .i64 0, .int .i64 0, .slice none 0 0, .slice none 0 0, .slice none 0 0] 28) = W1 := ⟨_, rfl⟩
 have huW1 : Upd nob w W1 := by rw [← hW1]; exact ((((Upd.refl nob w).alloc _).alloc _).alloc _).alloc _
 have hsW1 : W1.heap.size = w.heap.size + 4 := by rw [← hW1]; simp
 have b0 : Blk W1 (w.heap.size) 28 cs := by
  rw [← hW1]
  have h := Blk.new (w) 28 cs
  exact ((h.alloc _).alloc _).alloc _
 have b1 : Blk W1 (w.heap.size + 1) 3 #[.int .i64 from_] := by
  rw [← hW1]
  have h := Blk.new (w.alloc (.cells cs 28)) 3 #[.int .i64 from_]
  rw [World.size_alloc] at h
  exact (h.alloc _).alloc _
 have b2 : Blk W1 (w.heap.size + 1 + 1) 3 #[.int .i64 by_] := by
  rw [← hW1]
  have h := Blk.new ((w.alloc (.cells cs 28)).alloc (.cells #[.int .i64 from_] 3)) 3 #[.int .i64 by_]
  rw [World.size_alloc, World.size_alloc] at h
  exact h.alloc _
 have b3 : Blk W1 (w.heap.size + 1 + 1 + 1) 28 #[.int .i64 0, .int .i64 0, .string ByteArray.empty, .int .i64 0, .int .i64 0, .slice none 0 0, .slice none 0 0, .slice none 0 0] := by
  rw [← hW1]
  have h := Blk.new (((w.alloc (.cells cs 28)).alloc (.cells #[.int .i64 from_] 3)).alloc (.cells #[.int .i64 by_] 3)) 28 #[.int .i64 0, .int .i64 0, .string ByteArray.empty, .int .i64 0, .int .i64 0, .slice none 0 0, .slice none 0 0, .slice none 0 0]
  rw [World.size_alloc, World.size_alloc, World.size_alloc] at h
  exact h
 have HW1 := Lib.hid hW1
 have r0 := b0.rowAt
 have hp := treb_any (lift_visit D from_ by_ (w.heap.size + 1) (w.heap.size + 1 + 1) hb1 hb2) t cs 0 W1 (hl.old (hD.old huW1) (fun _ h => h)) ⟨b1, b2⟩ (hD.up huW1) (by omega) (by omega)
 rw [hX] at hp
 have HB3 := Lib.hid b3
 clear hW1 b0 b1 b2 b3 hX
 go_enter Tryz.func126, Tryz.ntmps126
 rw [← HW1.out] at r0
 go_wp2_with (first
  | ((with_reducible refine this_op (.load 28 (.tmp 3)) ?_); refine wpList_at rfl 28 (.tmp 3) rfl ⟨w.heap.size, 0, none⟩ rfl _ _ r0 Tryz.underlying28 rfl hsi ?_))
 rw [HW1.out]
 refine hp.mono ?_
 rintro e w2 ⟨cs2, rfl, hl2, hb2⟩
 have hu2 : Upd nob W1 w2 := Upd.of_below hb2
 have C3 := HB3.out.upd hu2 (fun f => f)
 have hs2 := hl2.oneCell
 have hsi2 : (Tryz.prog.info? 28).map (·.size) = some cs2.size := by rw [hs2.1]; exact tm_size
 clear r0
 go_wp2_with (first
  | ((with_reducible refine this_op (.store 28 (.tmp 6) (.tmp 9)) ?_); refine wpList_store_row rfl 28 (.tmp 6) (.tmp 9) rfl (w.heap.size + 1 + 1 + 1) _ rfl rfl 28 _ C3 hsi2 (by rw [hs2.1]; rfl) hs2.2 ?_))
 refine bodyPost_ret (results_cell_row rfl _ _ (w.heap.size + 1 + 1 + 1) 28 cs2 (0, 0) _ rfl (C3.row _) Tryz.underlying28 rfl hsi2) rfl ?_
 exact ⟨cs2, rfl, res_tm hD huW1 hu2 (by omega) (by omega) hl2⟩
theorem tLift_any (t : Tm) (cs : Array Value) (from_ by_ : Int) (D : Nat → Prop) (w : World) (hD : Within D w) (hl : TmIs D w t cs) :
    Calls Tryz.prog 93 #[.agg cs, .int .i64 from_, .int .i64 by_] w fun e w' => ∃ cs', e = .returned (.agg cs') ∧ TmIs (grow D w w') w' (tLift t from_ by_) cs' ∧ Below w.heap.size w w' := by
 have hz := tm_zero
 have hs := hl.oneCell
 have hsi : (Tryz.prog.info? 28).map (·.size) = some cs.size := by rw [hs.1]; exact tm_size
 obtain ⟨X, hX⟩ : ∃ X, tLift t from_ by_ = X := ⟨_, rfl⟩
 rw [hX]
 have HX := Lib.hid hX; clear hX
 obtain ⟨W1, hW1⟩ : ∃ W1, (w.alloc (.cells cs 28)).alloc (.cells #[.int .i64 0, .int .i64 0, .string ByteArray.empty, .int .i64 0, .int .i64 0, .slice none 0 0, .slice none 0 0, .slice none 0 0] 28) = W1 := ⟨_, rfl⟩
 have huW1 : Upd nob w W1 := by rw [← hW1]; exact ((Upd.refl nob w).alloc _).alloc _
 have hsW1 : W1.heap.size = w.heap.size + 2 := by rw [← hW1]; simp
 have b0 : Blk W1 (w.heap.size) 28 cs := by
  rw [← hW1]
  have h := Blk.new (w) 28 cs
  exact h.alloc _
 have b1 : Blk W1 (w.heap.size + 1) 28 #[.int .i64 0, .int .i64 0, .string ByteArray.empty, .int .i64 0, .int .i64 0, .slice none 0 0, .slice none 0 0, .slice none 0 0] := by
  rw [← hW1]
  have h := Blk.new (w.alloc (.cells cs 28)) 28 #[.int .i64 0, .int .i64 0, .string ByteArray.empty, .int .i64 0, .int .i64 0, .slice none 0 0, .slice none 0 0, .slice none 0 0]
  rw [World.size_alloc] at h
  exact h
 have HW1 := Lib.hid hW1
 have r0 := b0.rowAt
 have B0 := Lib.hid b0
 have B1 := Lib.hid b1
 have hl1 := hl.old (hD.old huW1) (fun _ h => h)
 have hD1 := hD.up huW1
 clear hW1 b0 b1
 go_enter Tryz.func93, Tryz.ntmps93
 rw [← HW1.out] at r0
 go_wp2_with (first
  | ((with_reducible refine this_op (.load 28 (.tmp 3)) ?_); refine wpList_at rfl 28 (.tmp 3) rfl ⟨w.heap.size, 0, none⟩ rfl _ _ r0 Tryz.underlying28 rfl hsi ?_))
 rw [HW1.out]
 refine (tgreat_any t cs D W1 hD1 hl1).mono ?_
 rintro e w2 ⟨rfl, hb2⟩
 have hu2 : Upd nob W1 w2 := Upd.of_below hb2
 have r2 := (B0.out.upd hu2 (fun f => f)).rowAt
 have C1 := B1.out.upd hu2 (fun f => f)
 have hl2 := hl1.old (hD1.old hu2) (fun _ h => h)
 clear r0
 cases hg : tgreat t with
 | true =>
  have HG := Lib.hid hg; clear hg
  go_wp2_with (first
   | ((with_reducible refine this_op (.store 28 (.tmp 6) (.tmp 9)) ?_); refine wpList_store_row rfl 28 (.tmp 6) (.tmp 9) rfl (w.heap.size + 1) _ rfl rfl 28 _ C1 tm_size rfl (by simp [Value.oneCell']) ?_))
  refine bodyPost_ret (results_cell_row rfl _ _ (w.heap.size + 1) 28 #[.int .i64 0, .int .i64 0, .string ByteArray.empty, .int .i64 0, .int .i64 0, .slice none 0 0, .slice none 0 0, .slice none 0 0] (0, 0) _ rfl (C1.row _) Tryz.underlying28 rfl tm_size) rfl ?_
  have hx : X = tmz := by rw [← HX.out, tLift, if_pos HG.out]
  rw [hx]
  exact ⟨_, rfl, res_tm hD huW1 hu2 (by omega) (by omega) (TmIs.short _ _ (by unfold InI; omega) (by unfold InI; omega))⟩
 | false =>
  have HG := Lib.hid hg; clear hg
  go_wp2_with (first
   | ((with_reducible refine this_op (.load 28 (.tmp 3)) ?_); refine wpList_at rfl 28 (.tmp 3) rfl ⟨w.heap.size, 0, none⟩ rfl _ _ r2 Tryz.underlying28 rfl hsi ?_))
  refine (tlift_any t cs (max 0 from_) (max (-1048576) (min by_ 1048576)) D w2 (hD1.up hu2) hl2 (by have := great_vh HG.out; omega) (by omega) (by omega)).mono ?_
  rintro e w3 ⟨cs3, rfl, hl3, hb3⟩
  have hu3 : Upd nob w2 w3 := Upd.of_below hb3
  have hs3 := hl3.oneCell
  have hsi3 : (Tryz.prog.info? 28).map (·.size) = some cs3.size := by rw [hs3.1]; exact tm_size
  have C3 := C1.upd hu3 (fun f => f)
  clear C1 r2
  go_wp2_with (first
   | ((with_reducible refine this_op (.store 28 (.tmp 6) (.tmp 16)) ?_); refine wpList_store_row rfl 28 (.tmp 6) (.tmp 16) rfl (w.heap.size + 1) _ rfl rfl 28 _ C3 hsi3 (by rw [hs3.1]; rfl) hs3.2 ?_))
  refine bodyPost_ret (results_cell_row rfl _ _ (w.heap.size + 1) 28 cs3 (0, 0) _ rfl (C3.row _) Tryz.underlying28 rfl hsi3) rfl ?_
  have hx : X = tlift t (max 0 from_) (max (-1048576) (min by_ 1048576)) := by rw [← HX.out, tLift, if_neg (by rw [HG.out]; decide)]
  rw [hx]
  have hsz2 := hu2.size
  exact ⟨cs3, rfl, res_tm hD (huW1.trans hu2) hu3 (by omega) (by omega) hl3⟩
theorem wown_any (t : Tm) (cs : Array Value) (D : Nat → Prop) (w : World) (hD : Within D w) (hl : TmIs D w t cs) :
    Calls Tryz.prog 59 #[.agg cs] w fun e w' => ∃ cs', e = .returned (.agg cs') ∧ TmIs (grow D w w') w' (wown t) cs' ∧ Below w.heap.size w w' := by
 have hz := tm_zero
 have hs := hl.oneCell
 have hsi : (Tryz.prog.info? 28).map (·.size) = some cs.size := by rw [hs.1]; exact tm_size
 obtain ⟨X, hX⟩ : ∃ X, wown t = X := ⟨_, rfl⟩
 rw [hX]
 have HX := Lib.hid hX; clear hX
 obtain ⟨W1, hW1⟩ : ∃ W1, (w.alloc (.cells cs 28)).alloc (.cells #[.int .i64 0, .int .i64 0, .string ByteArray.empty, .int .i64 0, .int .i64 0, .slice none 0 0, .slice none 0 0, .slice none 0 0] 28) = W1 := ⟨_, rfl⟩
 have huW1 : Upd nob w W1 := by rw [← hW1]; exact ((Upd.refl nob w).alloc _).alloc _
 have hsW1 : W1.heap.size = w.heap.size + 2 := by rw [← hW1]; simp
 have b0 : Blk W1 (w.heap.size) 28 cs := by
  rw [← hW1]
  have h := Blk.new (w) 28 cs
  exact h.alloc _
 have b1 : Blk W1 (w.heap.size + 1) 28 #[.int .i64 0, .int .i64 0, .string ByteArray.empty, .int .i64 0, .int .i64 0, .slice none 0 0, .slice none 0 0, .slice none 0 0] := by
  rw [← hW1]
  have h := Blk.new (w.alloc (.cells cs 28)) 28 #[.int .i64 0, .int .i64 0, .string ByteArray.empty, .int .i64 0, .int .i64 0, .slice none 0 0, .slice none 0 0, .slice none 0 0]
  rw [World.size_alloc] at h
  exact h
 have HW1 := Lib.hid hW1
 have r0 := b0.rowAt
 have B0 := Lib.hid b0
 have B1 := Lib.hid b1
 have hl1 := hl.old (hD.old huW1) (fun _ h => h)
 have hD1 := hD.up huW1
 clear hW1 b0 b1
 go_enter Tryz.func59, Tryz.ntmps59
 rw [← HW1.out] at r0
 go_wp2_with (first
  | ((with_reducible refine this_op (.load 28 (.tmp 1)) ?_); refine wpList_at rfl 28 (.tmp 1) rfl ⟨w.heap.size, 0, none⟩ rfl _ _ r0 Tryz.underlying28 rfl hsi ?_))
 rw [HW1.out]
 refine (tsize_any t cs D W1 hD1 hl1).mono ?_
 rintro e w2 ⟨rfl, hb2⟩
 have hu2 : Upd nob W1 w2 := Upd.of_below hb2
 have r2 := (B0.out.upd hu2 (fun f => f)).rowAt
 have C1 := B1.out.upd hu2 (fun f => f)
 have hl2 := hl1.old (hD1.old hu2) (fun _ h => h)
 clear r0
 by_cases hg : tsize t = 0
 · have e1 : (tsize t == 0) = true := by simp [hg]
   have HG := Lib.hid hg; clear hg
   go_wp2_with (first
    | ((with_reducible refine this_op (.load 28 (.tmp 1)) ?_); refine wpList_at rfl 28 (.tmp 1) rfl ⟨w.heap.size, 0, none⟩ rfl _ _ r2 Tryz.underlying28 rfl hsi ?_)
    | ((with_reducible refine this_op (.store 28 (.tmp 2) (.tmp 6)) ?_); refine wpList_store_row rfl 28 (.tmp 2) (.tmp 6) rfl (w.heap.size + 1) _ rfl rfl 28 _ C1 hsi (by rw [hs.1]; rfl) hs.2 ?_))
   refine bodyPost_ret (results_cell_row rfl _ _ (w.heap.size + 1) 28 cs (0, 0) _ rfl (C1.row _) Tryz.underlying28 rfl hsi) rfl ?_
   have hx : X = t := by rw [← HX.out, wown, if_pos HG.out]
   rw [hx]
   exact ⟨cs, rfl, res_tm hD huW1 hu2 (by omega) (by omega) (hl2.old (Old.refl _ _) (fun _ h => .inl h))⟩
 have e1 : (tsize t == 0) = false := by simp [hg]
 have HG := Lib.hid hg; clear hg
 go_wp2_with (first
  | ((with_reducible refine this_op (.load 28 (.tmp 1)) ?_); refine wpList_at rfl 28 (.tmp 1) rfl ⟨w.heap.size, 0, none⟩ rfl _ _ r2 Tryz.underlying28 rfl hsi ?_))
 refine (tLift_any t cs 0 0 D w2 (hD1.up hu2) hl2).mono ?_
 rintro e w3 ⟨cs3, rfl, hl3, hb3⟩
 have hu3 : Upd nob w2 w3 := Upd.of_below hb3
 have hs3 := hl3.oneCell
 have hsi3 : (Tryz.prog.info? 28).map (·.size) = some cs3.size := by rw [hs3.1]; exact tm_size
 have C3 := C1.upd hu3 (fun f => f)
 clear C1 r2
 go_wp2_with (first
  | ((with_reducible refine this_op (.store 28 (.tmp 2) (.tmp 8)) ?_); refine wpList_store_row rfl 28 (.tmp 2) (.tmp 8) rfl (w.heap.size + 1) _ rfl rfl 28 _ C3 hsi3 (by rw [hs3.1]; rfl) hs3.2 ?_))
 refine bodyPost_ret (results_cell_row rfl _ _ (w.heap.size + 1) 28 cs3 (0, 0) _ rfl (C3.row _) Tryz.underlying28 rfl hsi3) rfl ?_
 have hx : X = tLift t 0 0 := by rw [← HX.out, wown, if_neg HG.out]
 rw [hx]
 have hsz2 := hu2.size
 exact ⟨cs3, rfl, res_tm hD (huW1.trans hu2) hu3 (by omega) (by omega) hl3⟩
end Go.Proofs.YtiampoebdmflgaaGreat
/- term.Inst: its visitors. -/
namespace Go.Proofs.YtiampoebdmflgaaGreat
open Go.RowKit
set_option linter.unusedVariables false
set_option maxRecDepth 100000
set_option maxHeartbeats 4000000
set_option linter.unusedSimpArgs false
def pSt (size : Int) (s : Int) (t : Tm) (_ b : Int) : Bool × Int := (decide (0 < size), if t.k = 1 ∧ t.n = b then wrap64 (s + 1) else s)
def putF (v : Tm) (t : Tm) (i : Int) : Tm :=
 if t.k = 1 ∧ t.n = i then tlift v 0 i else if t.k = 1 ∧ i < t.n then .mk 1 (t.n - 1) ByteArray.empty lzero' [] [] else tnode t
theorem places1_any (t : Tm) (cs : Array Value) (d b size s : Int) (g1 g2 : Nat) (D : Nat → Prop) (w : World) (hl : TmIs D w t cs) (h1 : Blk w g1 3 #[.int .i64 s]) (h2 : Blk w g2 3 #[.int .i64 size]) (hne : g1 ≠ g2) :
    Calls Tryz.prog 147 #[.agg cs, .int .i64 d, .int .i64 b, .pointer (some ⟨g1, 0, none⟩), .pointer (some ⟨g2, 0, none⟩)] w fun e w' =>
     e = .returned (.bool (pSt size s t d b).1) ∧ (Blk w' g1 3 #[.int .i64 (pSt size s t d b).2] ∧ Blk w' g2 3 #[.int .i64 size]) ∧ Upd (fun q => q = g1 ∨ q = g2) w w' := by
 obtain ⟨x, y, z, A, c, A', c', rfl, _⟩ := hl.lit
 simp only [pSt]
 obtain ⟨k, hk0⟩ : ∃ k, t.k = k := ⟨_, rfl⟩
 obtain ⟨n, hn0⟩ : ∃ n, t.n = n := ⟨_, rfl⟩
 obtain ⟨nm, hnm0⟩ : ∃ nm, t.nm = nm := ⟨_, rfl⟩
 obtain ⟨ls, hls0⟩ : ∃ ls, t.ls = ls := ⟨_, rfl⟩
 obtain ⟨ks, hks0⟩ : ∃ ks, t.ks = ks := ⟨_, rfl⟩
 rw [hk0, hn0, hnm0, hls0, hks0]
 clear hk0 hn0 hnm0 hls0 hks0 hl
 have p2 : w.cell? ⟨g1, 0, none⟩ = some (.int .i64 s) := h1.cell 0
 have f2 := h1.frozen 0
 have p3 : w.cell? ⟨g2, 0, none⟩ = some (.int .i64 size) := h2.cell 0
 have lt1 := h1.lt
 have lt2 := h2.lt
 have hne2 : g2 ≠ g1 := fun h => hne h.symm
 have fin0 : ∀ o, (Blk (w.alloc o) g1 3 #[.int .i64 s] ∧ Blk (w.alloc o) g2 3 #[.int .i64 size]) ∧ Upd (fun q => q = g1 ∨ q = g2) w (w.alloc o) := fun o => ⟨⟨h1.alloc _, h2.alloc _⟩, (Upd.refl _ w).alloc _⟩
 have fin1 : ∀ (m : Int) o, (Blk ((w.setCell ⟨g1, 0, none⟩ (.int .i64 m)).alloc o) g1 3 #[.int .i64 m] ∧ Blk ((w.setCell ⟨g1, 0, none⟩ (.int .i64 m)).alloc o) g2 3 #[.int .i64 size]) ∧ Upd (fun q => q = g1 ∨ q = g2) w ((w.setCell ⟨g1, 0, none⟩ (.int .i64 m)).alloc o) := fun m o =>
  ⟨⟨(h1.set 0 _).alloc _, (h2.far (p := ⟨g1, 0, none⟩) (fun h => hne h.symm) _).alloc _⟩, ((Upd.refl (fun q => q = g1 ∨ q = g2) w).setCell (p := ⟨g1, 0, none⟩) (.inl (.inl rfl)) _).alloc _⟩
 have F0 := Lib.hid fin0
 have F1 := Lib.hid fin1
 clear fin0 fin1 h1 h2
 by_cases h1 : k = 1
 · have e1 : (k == 1) = true := by simp [h1]
   by_cases h2 : n = b
   · have e2 : (n == b) = true := by simp [h2]
     rw [if_pos ⟨h1, h2⟩]
     clear h1 h2
     go_enter Tryz.func147, Tryz.ntmps147
     go_wp2_with fail
     go_ret
     exact ⟨by first | rfl | simp, F1.out _ _⟩
   have e2 : (n == b) = false := by simp [h2]
   rw [if_neg (fun h => h2 h.2)]
   clear h1 h2
   go_enter Tryz.func147, Tryz.ntmps147
   go_wp2_with fail
   go_ret
   exact ⟨by first | rfl | simp, F0.out _⟩
 have e1 : (k == 1) = false := by simp [h1]
 rw [if_neg (fun h => h1 h.1)]
 clear h1
 go_enter Tryz.func147, Tryz.ntmps147
 go_wp2_with fail
 go_ret
 exact ⟨by first | rfl | simp, F0.out _⟩
theorem places_visit (D : Nat → Prop) (size : Int) (g1 g2 : Nat) (hne : g1 ≠ g2) (hd1 : ¬ D g1) (hd2 : ¬ D g2) :
    TVisit Tryz.prog 147 #[.pointer (some ⟨g1, 0, none⟩), .pointer (some ⟨g2, 0, none⟩)] D (fun q => q = g1 ∨ q = g2) (fun s W => Blk W g1 3 #[.int .i64 s] ∧ Blk W g2 3 #[.int .i64 size]) (pSt size) where
 enter := fun _ _ => by go_simp
 stab := fun s W W' h hk => ⟨(hk g1 (.inl rfl)).trans h.1, (hk g2 (.inr rfl)).trans h.2⟩
 ge := fun k hk e => e.elim (fun e => hd1 (e ▸ hk)) (fun e => hd2 (e ▸ hk))
 lt := fun s W h k e => e.elim (fun e => e ▸ h.1.lt) (fun e => e ▸ h.2.lt)
 call := fun t cs d b s W hl hr _ _ _ _ _ => places1_any t cs d b size s g1 g2 D W hl hr.1 hr.2 hne
theorem put1_any (t v : Tm) (cs csv : Array Value) (i : Int) (g : Nat) (D : Nat → Prop) (w : World) (hD : Within D w) (hl : TmIs D w t cs) (hgb : Blk w g 28 csv) (hv : TmIs D w v csv) (hvh : v.vh ≤ 1000000) (hi : 0 ≤ i) (hi2 : i ≤ 4611686018427387904) :
    Calls Tryz.prog 148 #[.agg cs, .int .i64 i, .pointer (some ⟨g, 0, none⟩)] w fun e w' =>
     ∃ cs', e = .returned (.agg cs') ∧ TmIs (grow D w w') w' (putF v t i) cs' ∧ Below w.heap.size w w' := by
 have hz := tm_zero
 obtain ⟨x, y, z, A, c, A', c', rfl, hk, hn, _, _, _, _, _, _⟩ := hl.lit
 obtain ⟨X, hX⟩ : ∃ X, putF v t i = X := ⟨_, rfl⟩
 rw [hX]
 have HX := Lib.hid hX; clear hX
 obtain ⟨k, hk0⟩ : ∃ k, t.k = k := ⟨_, rfl⟩
 obtain ⟨n, hn0⟩ : ∃ n, t.n = n := ⟨_, rfl⟩
 obtain ⟨nm, hnm0⟩ : ∃ nm, t.nm = nm := ⟨_, rfl⟩
 obtain ⟨ls, hls0⟩ : ∃ ls, t.ls = ls := ⟨_, rfl⟩
 obtain ⟨ks, hks0⟩ : ∃ ks, t.ks = ks := ⟨_, rfl⟩
 rw [hk0, hn0, hnm0, hls0, hks0] at hl
 rw [hk0, hn0, hnm0, hls0, hks0]
 rw [hk0] at hk
 rw [hn0] at hn
 have HK0 := Lib.hid hk0
 have HN0 := Lib.hid hn0
 clear hk0 hn0 hnm0 hls0 hks0
 have hcsv := hv.oneCell
 have hsiv : (Tryz.prog.info? 28).map (·.size) = some csv.size := by rw [hcsv.1]; exact tm_size
 obtain ⟨W1, hW1⟩ : ∃ W1, (w.alloc (.cells #[.int .i64 k, .int .i64 n, .string nm, x, y, z, .slice A ls.length c, .slice A' ks.length c'] 28)).alloc (.cells #[.int .i64 0, .int .i64 0, .string ByteArray.empty, .int .i64 0, .int .i64 0, .slice none 0 0, .slice none 0 0, .slice none 0 0] 28) = W1 := ⟨_, rfl⟩
 have huW1 : Upd nob w W1 := by rw [← hW1]; exact ((Upd.refl nob w).alloc _).alloc _
 have hsW1 : W1.heap.size = w.heap.size + 2 := by rw [← hW1]; simp
 have b0 : Blk W1 (w.heap.size) 28 #[.int .i64 k, .int .i64 n, .string nm, x, y, z, .slice A ls.length c, .slice A' ks.length c'] := by
  rw [← hW1]
  have h := Blk.new (w) 28 #[.int .i64 k, .int .i64 n, .string nm, x, y, z, .slice A ls.length c, .slice A' ks.length c']
  exact h.alloc _
 have b1 : Blk W1 (w.heap.size + 1) 28 #[.int .i64 0, .int .i64 0, .string ByteArray.empty, .int .i64 0, .int .i64 0, .slice none 0 0, .slice none 0 0, .slice none 0 0] := by
  rw [← hW1]
  have h := Blk.new (w.alloc (.cells #[.int .i64 k, .int .i64 n, .string nm, x, y, z, .slice A ls.length c, .slice A' ks.length c'] 28)) 28 #[.int .i64 0, .int .i64 0, .string ByteArray.empty, .int .i64 0, .int .i64 0, .slice none 0 0, .slice none 0 0, .slice none 0 0]
  rw [World.size_alloc] at h
  exact h
 have HW1 := Lib.hid hW1
 have p0 : W1.cell? ⟨w.heap.size, 0, none⟩ = some (.int .i64 k) := b0.cell 0
 have p1 : W1.cell? ⟨w.heap.size, 1, none⟩ = some (.int .i64 n) := b0.cell 1
 have r0 := b0.rowAt
 have rg := (hgb.upd huW1 (fun f => f)).rowAt
 have HB1 := Lib.hid b1
 have hD1 := hD.up huW1
 have HL1 := Lib.hid (hl.old (hD.old huW1) (fun _ h => h))
 have HV1 := Lib.hid (hv.old (hD.old huW1) (fun _ h => h))
 have hx : X = if k = 1 ∧ n = i then tlift v 0 i else if k = 1 ∧ i < n then .mk 1 (n - 1) ByteArray.empty lzero' [] [] else tnode t := by
  rw [← HX.out]; unfold putF; rw [HK0.out, HN0.out]
 have HX2 := Lib.hid hx
 clear hW1 b0 b1 hgb hv hx
 by_cases h1 : k = 1
 · have e1 : (k == 1) = true := by simp [h1]
   by_cases h2 : n = i
   · have e2 : (n == i) = true := by simp [h2]
     have HA := Lib.hid (show X = tlift v 0 i by rw [HX2.out, if_pos ⟨h1, h2⟩])
     clear h1 h2
     go_enter Tryz.func148, Tryz.ntmps148
     rw [← HW1.out] at p0 p1 r0 rg
     go_wp2_with (first
      | ((with_reducible refine this_op (.load 28 (.tmp 2)) ?_); refine wpList_at rfl 28 (.tmp 2) rfl ⟨g, 0, none⟩ rfl _ _ rg Tryz.underlying28 rfl hsiv ?_))
     rw [HW1.out]
     refine (tlift_any v csv 0 i D W1 hD1 HV1.out hvh (by omega) hi2).mono ?_
     rintro e w2 ⟨cs2, rfl, hl2, hb2⟩
     have hu2 : Upd nob W1 w2 := Upd.of_below hb2
     have C2 := HB1.out.upd hu2 (fun f => f)
     have hs2 := hl2.oneCell
     have hsi2 : (Tryz.prog.info? 28).map (·.size) = some cs2.size := by rw [hs2.1]; exact tm_size
     clear p0 p1 r0 rg
     go_wp2_with (first
      | ((with_reducible refine this_op (.store 28 (.tmp 5) (.tmp 18)) ?_); refine wpList_store_row rfl 28 (.tmp 5) (.tmp 18) rfl (w.heap.size + 1) _ rfl rfl 28 _ C2 hsi2 (by rw [hs2.1]; rfl) hs2.2 ?_))
     refine bodyPost_ret (results_cell_row rfl _ _ (w.heap.size + 1) 28 cs2 (0, 0) _ rfl (C2.row _) Tryz.underlying28 rfl hsi2) rfl ?_
     rw [HA.out]
     exact ⟨cs2, rfl, res_tm hD huW1 hu2 (by omega) (by omega) hl2⟩
   have e2 : (n == i) = false := by simp [h2]
   by_cases h3 : i < n
   · have e3 : (i < n) = True := eq_true h3
     have hw : wrap64 (n - 1) = n - 1 := by have := hn.2; unfold wrap64; omega
     have hin : InI (n - 1) := by have := hn.2; unfold InI; omega
     have HA := Lib.hid (show X = .mk 1 (n - 1) ByteArray.empty lzero' [] [] by rw [HX2.out, if_neg (fun h => h2 h.2), if_pos ⟨h1, h3⟩])
     clear h1 h2 h3
     go_enter Tryz.func148, Tryz.ntmps148
     rw [← HW1.out] at p0 p1 r0 rg
     go_wp2_with fail
     rw [HW1.out]
     refine (tvar_any (n - 1) hin W1).mono ?_
     rintro e w2 ⟨cs2, rfl, hl2, hb2⟩
     have hu2 : Upd nob W1 w2 := Upd.of_below hb2
     have C2 := HB1.out.upd hu2 (fun f => f)
     have hs2 := hl2.oneCell
     have hsi2 : (Tryz.prog.info? 28).map (·.size) = some cs2.size := by rw [hs2.1]; exact tm_size
     clear p0 p1 r0 rg
     go_wp2_with (first
      | ((with_reducible refine this_op (.store 28 (.tmp 5) (.tmp 32)) ?_); refine wpList_store_row rfl 28 (.tmp 5) (.tmp 32) rfl (w.heap.size + 1) _ rfl rfl 28 _ C2 hsi2 (by rw [hs2.1]; rfl) hs2.2 ?_))
     refine bodyPost_ret (results_cell_row rfl _ _ (w.heap.size + 1) 28 cs2 (0, 0) _ rfl (C2.row _) Tryz.underlying28 rfl hsi2) rfl ?_
     rw [HA.out]
     exact ⟨cs2, rfl, res_tm hD huW1 hu2 (by omega) (by omega) (hl2.old (Old.refl _ _) (fun _ f => f.elim))⟩
   have e3 : (i < n) = False := eq_false h3
   have HA := Lib.hid (show X = tnode t by rw [HX2.out, if_neg (fun h => h2 h.2), if_neg (fun h => h3 h.2)])
   clear h1 h2 h3
   go_enter Tryz.func148, Tryz.ntmps148
   rw [← HW1.out] at p0 p1 r0 rg
   go_wp2_with (first
    | ((with_reducible refine this_op (.load 28 (.tmp 3)) ?_); refine wpList_at rfl 28 (.tmp 3) rfl ⟨w.heap.size, 0, none⟩ rfl _ _ r0 Tryz.underlying28 rfl tm_size ?_))
   rw [HW1.out]
   refine (tnode_any t _ D W1 hD1 HL1.out).mono ?_
   rintro e w2 ⟨cs2, rfl, hl2, hb2⟩
   have hu2 : Upd nob W1 w2 := Upd.of_below hb2
   have C2 := HB1.out.upd hu2 (fun f => f)
   have hs2 := hl2.oneCell
   have hsi2 : (Tryz.prog.info? 28).map (·.size) = some cs2.size := by rw [hs2.1]; exact tm_size
   clear p0 p1 r0 rg
   go_wp2_with (first
    | ((with_reducible refine this_op (.store 28 (.tmp 5) (.tmp 34)) ?_); refine wpList_store_row rfl 28 (.tmp 5) (.tmp 34) rfl (w.heap.size + 1) _ rfl rfl 28 _ C2 hsi2 (by rw [hs2.1]; rfl) hs2.2 ?_))
   refine bodyPost_ret (results_cell_row rfl _ _ (w.heap.size + 1) 28 cs2 (0, 0) _ rfl (C2.row _) Tryz.underlying28 rfl hsi2) rfl ?_
   rw [HA.out]
   exact ⟨cs2, rfl, res_tm hD huW1 hu2 (by omega) (by omega) hl2⟩
 have e1 : (k == 1) = false := by simp [h1]
 have HA := Lib.hid (show X = tnode t by rw [HX2.out, if_neg (fun h => h1 h.1), if_neg (fun h => h1 h.1)])
 clear h1
 go_enter Tryz.func148, Tryz.ntmps148
 rw [← HW1.out] at p0 p1 r0 rg
 go_wp2_with (first
  | ((with_reducible refine this_op (.load 28 (.tmp 3)) ?_); refine wpList_at rfl 28 (.tmp 3) rfl ⟨w.heap.size, 0, none⟩ rfl _ _ r0 Tryz.underlying28 rfl tm_size ?_))
 rw [HW1.out]
 refine (tnode_any t _ D W1 hD1 HL1.out).mono ?_
 rintro e w2 ⟨cs2, rfl, hl2, hb2⟩
 have hu2 : Upd nob W1 w2 := Upd.of_below hb2
 have C2 := HB1.out.upd hu2 (fun f => f)
 have hs2 := hl2.oneCell
 have hsi2 : (Tryz.prog.info? 28).map (·.size) = some cs2.size := by rw [hs2.1]; exact tm_size
 clear p0 p1 r0 rg
 go_wp2_with (first
  | ((with_reducible refine this_op (.store 28 (.tmp 5) (.tmp 34)) ?_); refine wpList_store_row rfl 28 (.tmp 5) (.tmp 34) rfl (w.heap.size + 1) _ rfl rfl 28 _ C2 hsi2 (by rw [hs2.1]; rfl) hs2.2 ?_))
 refine bodyPost_ret (results_cell_row rfl _ _ (w.heap.size + 1) 28 cs2 (0, 0) _ rfl (C2.row _) Tryz.underlying28 rfl hsi2) rfl ?_
 rw [HA.out]
 exact ⟨cs2, rfl, res_tm hD huW1 hu2 (by omega) (by omega) hl2⟩
theorem put_visit (D : Nat → Prop) (v : Tm) (csv : Array Value) (g : Nat) (hvh : v.vh ≤ 1000000) :
    RVisit Tryz.prog 148 #[.pointer (some ⟨g, 0, none⟩)] D (fun W => Blk W g 28 csv ∧ TmIs D W v csv ∧ Within D W) (putF v) where
 enter := fun _ _ => by go_simp
 keep := fun _ _ h hu => ⟨h.1.upd hu (fun f => f), h.2.1.old (h.2.2.old hu) (fun _ h => h), h.2.2.up hu⟩
 call := fun t cs i w _ hl hR hD h0 hi => put1_any t v cs csv i g D w hD hl hR.1 hR.2.1 hvh h0 hi
end Go.Proofs.YtiampoebdmflgaaGreat
/- term.Inst. -/
namespace Go.Proofs.YtiampoebdmflgaaGreat
open Go.RowKit
set_option linter.unusedVariables false
set_option maxRecDepth 100000
set_option maxHeartbeats 4000000
set_option linter.unusedSimpArgs false
def tplaces (t : Tm) : Int := (tfold (pSt (tsize t)) t 1 0 0).2
def tput (t v : Tm) : Tm := treb (putF v) t 0
def tInst (t v : Tm) : Tm :=
 if tsize t = 0 ∨ tsize v = 0 ∨ 20000 < wrap64 (tsize t + wrap64 (tplaces t * wrap64 (tsize v - 1))) then tmz
 else if tgreat (tput t v) = true then tmz else tput t v
theorem fin_row {B g : Nat} {w w' : World} (h : Below B w w') (hg : B ≤ g) (cs : Array Value) : Below B w (w'.setRow g cs) :=
 have hu := (Upd.refl (fun q => q = g) w').setRow (g := g) (.inl rfl) cs
 h.trans ⟨hu.os, hu.tape, hu.output, hu.size, fun k hk => setRow_other w' g k cs (by omega)⟩
theorem tInst_any (t v : Tm) (cs csv : Array Value) (D : Nat → Prop) (w : World) (hD : Within D w) (hl : TmIs D w t cs) (hv : TmIs D w v csv) :
    Calls Tryz.prog 118 #[.agg cs, .agg csv] w fun e w' => ∃ cs', e = .returned (.agg cs') ∧ TmIs (grow D w w') w' (tInst t v) cs' ∧ Below w.heap.size w w' := by
 have hz := tm_zero
 have hs := hl.oneCell
 have hsi : (Tryz.prog.info? 28).map (·.size) = some cs.size := by rw [hs.1]; exact tm_size
 have hsv := hv.oneCell
 have hsiv : (Tryz.prog.info? 28).map (·.size) = some csv.size := by rw [hsv.1]; exact tm_size
 obtain ⟨X, hX⟩ : ∃ X, tInst t v = X := ⟨_, rfl⟩
 rw [hX]
 unfold tInst at hX
 obtain ⟨⟨size, d1⟩, hm1⟩ : ∃ r, tmeas t = r := ⟨_, rfl⟩
 obtain ⟨⟨more, d2⟩, hm2⟩ : ∃ r, tmeas v = r := ⟨_, rfl⟩
 have hs1 : tsize t = size := by unfold tsize; rw [hm1]
 have hs2 : tsize v = more := by unfold tsize; rw [hm2]
 obtain ⟨pl, hpl⟩ : ∃ p, tplaces t = p := ⟨_, rfl⟩
 rw [hs1, hs2, hpl] at hX
 have HX := Lib.hid hX; clear hX
 have HM1 := Lib.hid hm1
 have HM2 := Lib.hid hm2
 have HS1 := Lib.hid hs1
 have HS2 := Lib.hid hs2
 have hpl2 : (tfold (pSt size) t 1 0 0).2 = pl := by rw [← hpl, tplaces, hs1]
 have HPL := Lib.hid hpl2
 clear hm1 hm2 hs1 hs2 hpl hpl2
 obtain ⟨W1, hW1⟩ : ∃ W1, ((w.alloc (.cells cs 28)).alloc (.cells csv 28)).alloc (.cells #[.int .i64 0, .int .i64 0, .string ByteArray.empty, .int .i64 0, .int .i64 0, .slice none 0 0, .slice none 0 0, .slice none 0 0] 28) = W1 := ⟨_, rfl⟩
 have huW1 : Upd nob w W1 := by rw [← hW1]; exact (((Upd.refl nob w).alloc _).alloc _).alloc _
 have hsW1 : W1.heap.size = w.heap.size + 3 := by rw [← hW1]; simp
 have b0 : Blk W1 (w.heap.size) 28 cs := by
  rw [← hW1]
  have h := Blk.new (w) 28 cs
  exact (h.alloc _).alloc _
 have b1 : Blk W1 (w.heap.size + 1) 28 csv := by
  rw [← hW1]
  have h := Blk.new (w.alloc (.cells cs 28)) 28 csv
  rw [World.size_alloc] at h
  exact h.alloc _
 have b2 : Blk W1 (w.heap.size + 1 + 1) 28 #[.int .i64 0, .int .i64 0, .string ByteArray.empty, .int .i64 0, .int .i64 0, .slice none 0 0, .slice none 0 0, .slice none 0 0] := by
  rw [← hW1]
  have h := Blk.new ((w.alloc (.cells cs 28)).alloc (.cells csv 28)) 28 #[.int .i64 0, .int .i64 0, .string ByteArray.empty, .int .i64 0, .int .i64 0, .slice none 0 0, .slice none 0 0, .slice none 0 0]
  rw [World.size_alloc, World.size_alloc] at h
  exact h
 have HW1 := Lib.hid hW1
 have r0 := b0.rowAt
 have B0 := Lib.hid b0
 have B1 := Lib.hid b1
 have B2 := Lib.hid b2
 have hD1 := hD.up huW1
 have HL1 := Lib.hid (hl.old (hD.old huW1) (fun _ h => h))
 have HV1 := Lib.hid (hv.old (hD.old huW1) (fun _ h => h))
 clear hW1 b0 b1 b2 hl hv
 go_enter Tryz.func118, Tryz.ntmps118
 rw [← HW1.out] at r0
 go_wp2_with (first
  | ((with_reducible refine this_op (.load 28 (.tmp 2)) ?_); refine wpList_at rfl 28 (.tmp 2) rfl ⟨w.heap.size, 0, none⟩ rfl _ _ r0 Tryz.underlying28 rfl hsi ?_))
 rw [HW1.out]
 clear r0
 refine (tmeas_any t cs D W1 hD1 HL1.out).mono ?_
 rintro e w2 ⟨rfl, hb2⟩
 rw [HM1.out]
 have hu2 : Upd nob W1 w2 := Upd.of_below hb2
 obtain ⟨W3, hW3⟩ : ∃ W3, w2.alloc (.cells #[.int .i64 size] 3) = W3 := ⟨_, rfl⟩
 have hu3 : Upd nob w2 W3 := by rw [← hW3]; exact (Upd.refl nob w2).alloc _
 have hs3 : W3.heap.size = w2.heap.size + 1 := by rw [← hW3]; simp
 have HG5 := Lib.hid (show Blk W3 w2.heap.size 3 #[.int .i64 size] by rw [← hW3]; exact Blk.new w2 _ _)
 have hu13 := hu2.trans hu3
 have r3 := (B1.out.upd hu13 (fun f => f)).rowAt
 have HS3 := Lib.hid hs3
 clear hs3
 simp only
 go_wp2_with (first
  | ((with_reducible refine this_op (.load 28 (.tmp 3)) ?_); refine wpList_at rfl 28 (.tmp 3) rfl ⟨w.heap.size + 1, 0, none⟩ rfl _ _ r3 Tryz.underlying28 rfl hsiv ?_))
 have HW3 := Lib.hid hW3
 clear hW3 r3 hb2
 refine (tmeas_any v csv D W3 (hD1.up hu13) (HV1.out.old (hD1.old hu13) (fun _ h => h))).mono ?_
 rintro e w4 ⟨rfl, hb4⟩
 rw [HM2.out]
 have hu4 : Upd nob W3 w4 := Upd.of_below hb4
 obtain ⟨W5, hW5⟩ : ∃ W5, w4.alloc (.cells #[.int .i64 0] 3) = W5 := ⟨_, rfl⟩
 have hu5 : Upd nob w4 W5 := by rw [← hW5]; exact (Upd.refl nob w4).alloc _
 have hs5 : W5.heap.size = w4.heap.size + 1 := by rw [← hW5]; simp
 have HG9 := Lib.hid (show Blk W5 w4.heap.size 3 #[.int .i64 0] by rw [← hW5]; exact Blk.new w4 _ _)
 have hu35 := hu4.trans hu5
 have hu15 := hu13.trans hu35
 have r5 := (B0.out.upd hu15 (fun f => f)).rowAt
 have HS5 := Lib.hid hs5
 have HW5 := Lib.hid hW5
 rw [← hW5] at r5
 clear hs5 hb4 hW5
 simp only
 go_wp2_with (first
  | ((with_reducible refine this_op (.load 28 (.tmp 2)) ?_); refine wpList_at rfl 28 (.tmp 2) rfl ⟨w.heap.size, 0, none⟩ rfl _ _ r5 Tryz.underlying28 rfl hsi ?_))
 rw [HW5.out]
 clear r5
 have hs3 := HS3.out
 have hs5 := HS5.out
 have hz2 := hu2.size
 have hz4 := hu4.size
 have hD5 := hD1.up hu15
 have hHL5 := HL1.out.old (hD1.old hu15) (fun _ h => h)
 have hcall := tfold_any (places_visit D size w4.heap.size w2.heap.size (by omega) (fun h => by have := hD1.up hu2 _ h; omega) (fun h => by have := (hD1.up hu2) _ h; omega)) t cs 1 0 0 W5 hHL5 ⟨HG9.out, HG5.out.upd hu35 (fun f => f)⟩ hD5 (by omega) (by omega) (by omega) (by
  by_cases h0 : size = 0
  · right
    refine ⟨by omega, fun s t d b _ => ?_⟩
    subst h0
    simp [pSt]
  left
  have hg : tgreat t = false := by unfold tgreat; rw [HM1.out]; simp [h0]
  have := great_vh hg
  omega)
 rw [HPL.out] at hcall
 refine hcall.mono ?_
 rintro e w6 ⟨rfl, ⟨hR1, hR2⟩, hu6⟩
 have HR1 := Lib.hid hR1
 have HR2 := Lib.hid hR2
 have hu26 : Upd (fun q => q = w4.heap.size ∨ q = w2.heap.size) w2 w6 := ((hu3.trans hu35).mono (fun _ f => f.elim)).trans hu6
 have hu06 : Upd (fun q => q = w4.heap.size ∨ q = w2.heap.size) w w6 := ((huW1.trans hu2).mono (fun _ f => f.elim)).trans hu26
 have hB06 : Below w.heap.size w w6 := ((huW1.trans hu2).trans' hu26 (fun q hq h => by rcases h with h | h <;> (subst h; omega))).below
 have c0 := (B0.out.upd hu2 (fun f => f)).upd hu26 (fun h => by rcases h with h | h <;> omega)
 have c1 := (B1.out.upd hu2 (fun f => f)).upd hu26 (fun h => by rcases h with h | h <;> omega)
 have c2 := (B2.out.upd hu2 (fun f => f)).upd hu26 (fun h => by rcases h with h | h <;> omega)
 have hold26 : Old D w2 w6 := Old.of_upd hu26 (fun q hq => ⟨fun h => by have := hD _ hq; rcases h with h | h <;> omega, (hD1.up hu2) q hq⟩)
 have hD6 : Within D w6 := (hD1.up hu2).up hu26
 have HL6 := Lib.hid ((HL1.out.old (hD1.old hu2) (fun _ h => h)).old hold26 (fun _ h => h))
 have HV6 := Lib.hid ((HV1.out.old (hD1.old hu2) (fun _ h => h)).old hold26 (fun _ h => h))
 have p5 : w6.cell? ⟨w2.heap.size, 0, none⟩ = some (.int .i64 size) := hR2.cell 0
 have p9 : w6.cell? ⟨w4.heap.size, 0, none⟩ = some (.int .i64 pl) := hR1.cell 0
 have lt5 := hR2.lt
 have lt9 := hR1.lt
 have hz6 := hu26.size
 have C2 := Lib.hid c2
 have C1 := Lib.hid c1
 have r6 := c0.rowAt
 have hu06' := hu06.size
 clear hR1 hR2 c0 c1 c2 hcall HW5 HW3 hHL5
 by_cases hb : size = 0 ∨ more = 0 ∨ 20000 < wrap64 (size + wrap64 (pl * wrap64 (more - 1)))
 · have HA := Lib.hid (show X = tmz by rw [← HX.out, if_pos hb])
   by_cases h1 : size = 0
   · have e1 : (size == 0) = true := by simp [h1]
     clear h1 hb
     go_wp2_with (first
      | ((with_reducible refine this_op (.store 28 (.tmp 4) (.tmp 39)) ?_); refine wpList_store_row rfl 28 (.tmp 4) (.tmp 39) rfl (w.heap.size + 1 + 1) _ rfl rfl 28 _ C2.out tm_size rfl (by simp [Value.oneCell']) ?_))
     refine bodyPost_ret (results_cell_row rfl _ _ (w.heap.size + 1 + 1) 28 #[.int .i64 0, .int .i64 0, .string ByteArray.empty, .int .i64 0, .int .i64 0, .slice none 0 0, .slice none 0 0, .slice none 0 0] (0, 0) _ rfl (C2.out.row _) Tryz.underlying28 rfl tm_size) rfl ?_
     rw [HA.out]
     exact ⟨_, rfl, TmIs.short _ _ (by unfold InI; omega) (by unfold InI; omega), fin_row hB06 (by omega) _⟩
   have e1 : (size == 0) = false := by simp [h1]
   by_cases h2 : more = 0
   · have e2 : (more == 0) = true := by simp [h2]
     clear h1 h2 hb
     go_wp2_with (first
      | ((with_reducible refine this_op (.store 28 (.tmp 4) (.tmp 39)) ?_); refine wpList_store_row rfl 28 (.tmp 4) (.tmp 39) rfl (w.heap.size + 1 + 1) _ rfl rfl 28 _ C2.out tm_size rfl (by simp [Value.oneCell']) ?_))
     refine bodyPost_ret (results_cell_row rfl _ _ (w.heap.size + 1 + 1) 28 #[.int .i64 0, .int .i64 0, .string ByteArray.empty, .int .i64 0, .int .i64 0, .slice none 0 0, .slice none 0 0, .slice none 0 0] (0, 0) _ rfl (C2.out.row _) Tryz.underlying28 rfl tm_size) rfl ?_
     rw [HA.out]
     exact ⟨_, rfl, TmIs.short _ _ (by unfold InI; omega) (by unfold InI; omega), fin_row hB06 (by omega) _⟩
   have e2 : (more == 0) = false := by simp [h2]
   have e3 : (20000 < wrap64 (size + wrap64 (pl * wrap64 (more - 1)))) = True := eq_true ((hb.resolve_left h1).resolve_left h2)
   clear h1 h2 hb
   go_wp2_with (first
    | ((with_reducible refine this_op (.store 28 (.tmp 4) (.tmp 39)) ?_); refine wpList_store_row rfl 28 (.tmp 4) (.tmp 39) rfl (w.heap.size + 1 + 1) _ rfl rfl 28 _ C2.out tm_size rfl (by simp [Value.oneCell']) ?_))
   refine bodyPost_ret (results_cell_row rfl _ _ (w.heap.size + 1 + 1) 28 #[.int .i64 0, .int .i64 0, .string ByteArray.empty, .int .i64 0, .int .i64 0, .slice none 0 0, .slice none 0 0, .slice none 0 0] (0, 0) _ rfl (C2.out.row _) Tryz.underlying28 rfl tm_size) rfl ?_
   rw [HA.out]
   exact ⟨_, rfl, TmIs.short _ _ (by unfold InI; omega) (by unfold InI; omega), fin_row hB06 (by omega) _⟩
 have h1 : ¬ size = 0 := fun h => hb (.inl h)
 have h2 : ¬ more = 0 := fun h => hb (.inr (.inl h))
 have e1 : (size == 0) = false := by simp [h1]
 have e2 : (more == 0) = false := by simp [h2]
 have e3 : (20000 < wrap64 (size + wrap64 (pl * wrap64 (more - 1)))) = False := eq_false (fun h => hb (.inr (.inr h)))
 have hgt : tgreat t = false := by unfold tgreat; rw [HM1.out]; simp [h1]
 have hgv : tgreat v = false := by unfold tgreat; rw [HM2.out]; simp [h2]
 have hvt := great_vh hgt
 have hvv := great_vh hgv
 have HX2 := Lib.hid (show (if tgreat (tput t v) = true then tmz else tput t v) = X by rw [← HX.out, if_neg hb])
 clear h1 h2 hb
 go_wp2_with (first
  | ((with_reducible refine this_op (.load 28 (.tmp 2)) ?_); refine wpList_at rfl 28 (.tmp 2) rfl ⟨w.heap.size, 0, none⟩ rfl _ _ r6 Tryz.underlying28 rfl hsi ?_))
 refine (treb_any (put_visit D v csv (w.heap.size + 1) (by omega)) t cs 0 w6 HL6.out ⟨C1.out, HV6.out, hD6⟩ hD6 (by omega) (by omega)).mono ?_
 rintro e w7 ⟨cs7, rfl, hl7, hb7⟩
 have hu7 : Upd nob w6 w7 := Upd.of_below hb7
 have hs7 := hl7.oneCell
 have hsi7 : (Tryz.prog.info? 28).map (·.size) = some cs7.size := by rw [hs7.1]; exact tm_size
 obtain ⟨W8, hW8⟩ : ∃ W8, (w7.alloc (.cells #[.int .i64 0, .int .i64 0, .string ByteArray.empty, .int .i64 0, .int .i64 0, .slice none 0 0, .slice none 0 0, .slice none 0 0] 28)).setRow w7.heap.size cs7 = W8 := ⟨_, rfl⟩
 have hu8 : Upd nob w7 W8 := by rw [← hW8]; exact ((Upd.refl nob w7).alloc _).setRow (.inr (Nat.le_refl _)) _
 have hs8 : W8.heap.size = w7.heap.size + 1 := by rw [← hW8]; simp
 have HG8 := Lib.hid (show Blk W8 w7.heap.size 28 cs7 by rw [← hW8]; exact (Blk.new w7 _ _).row _)
 have r8 := HG8.out.rowAt
 have hx7 : treb (putF v) t 0 = tput t v := rfl
 rw [hx7] at hl7
 have hl8 := hl7.old (D' := grow D w6 w7) (Within.old (hD6.grow hu7.size) hu8) (fun _ h => h)
 have HL8 := Lib.hid hl8
 have hD8 : Within (grow D w6 w7) W8 := Within.up (hD6.grow hu7.size) hu8
 have HW8 := Lib.hid hW8
 clear hl7 hx7 hl8 p5 p9 r6 hW8
 go_wp2_with (first
  | ((with_reducible refine this_op (.store 28 (.tmp 10) (.tmp 42)) ?_); refine wpList_store_row rfl 28 (.tmp 10) (.tmp 42) rfl w7.heap.size _ rfl rfl 28 _ (Blk.new w7 _ _) hsi7 (by rw [hs7.1]; rfl) hs7.2 ?_
     rw [HW8.out])
  | ((with_reducible refine this_op (.load 28 (.tmp 10)) ?_); refine wpList_at rfl 28 (.tmp 10) rfl ⟨w7.heap.size, 0, none⟩ rfl _ _ r8 Tryz.underlying28 rfl hsi7 ?_))
 refine (tgreat_any (tput t v) cs7 (grow D w6 w7) W8 hD8 HL8.out).mono ?_
 rintro e w9 ⟨rfl, hb9⟩
 have hu9 : Upd nob W8 w9 := Upd.of_below hb9
 have hu69 := (hu7.trans hu8).trans hu9
 have C9 := C2.out.upd hu69 (fun f => f)
 have hB09 : Below w.heap.size w w9 := hB06.trans (hu69.below.mono (by omega))
 have r9 := (HG8.out.upd hu9 (fun f => f)).rowAt
 have hz7 := hu7.size
 have hz9 := hu9.size
 clear r8
 cases hg : tgreat (tput t v) with
 | true =>
  have HG := Lib.hid hg; clear hg
  go_wp2_with (first
   | ((with_reducible refine this_op (.store 28 (.tmp 4) (.tmp 45)) ?_); refine wpList_store_row rfl 28 (.tmp 4) (.tmp 45) rfl (w.heap.size + 1 + 1) _ rfl rfl 28 _ C9 tm_size rfl (by simp [Value.oneCell']) ?_))
  refine bodyPost_ret (results_cell_row rfl _ _ (w.heap.size + 1 + 1) 28 #[.int .i64 0, .int .i64 0, .string ByteArray.empty, .int .i64 0, .int .i64 0, .slice none 0 0, .slice none 0 0, .slice none 0 0] (0, 0) _ rfl (C9.row _) Tryz.underlying28 rfl tm_size) rfl ?_
  have hx : X = tmz := by rw [← HX2.out, if_pos HG.out]
  rw [hx]
  exact ⟨_, rfl, TmIs.short _ _ (by unfold InI; omega) (by unfold InI; omega), fin_row hB09 (by omega) _⟩
 | false =>
  have HG := Lib.hid hg; clear hg
  go_wp2_with (first
   | ((with_reducible refine this_op (.load 28 (.tmp 10)) ?_); refine wpList_at rfl 28 (.tmp 10) rfl ⟨w7.heap.size, 0, none⟩ rfl _ _ r9 Tryz.underlying28 rfl hsi7 ?_)
   | ((with_reducible refine this_op (.store 28 (.tmp 4) (.tmp 46)) ?_); refine wpList_store_row rfl 28 (.tmp 4) (.tmp 46) rfl (w.heap.size + 1 + 1) _ rfl rfl 28 _ C9 hsi7 (by rw [hs7.1]; rfl) hs7.2 ?_))
  refine bodyPost_ret (results_cell_row rfl _ _ (w.heap.size + 1 + 1) 28 cs7 (0, 0) _ rfl (C9.row _) Tryz.underlying28 rfl hsi7) rfl ?_
  have hx : X = tput t v := by rw [← HX2.out, if_neg (by rw [HG.out]; decide)]
  rw [hx]
  have hfin : Upd (fun q => q = w.heap.size + 1 + 1) w9 (w9.setRow (w.heap.size + 1 + 1) cs7) := (Upd.refl (fun q => q = w.heap.size + 1 + 1) w9).setRow (.inl rfl) _
  have hs10 : (w9.setRow (w.heap.size + 1 + 1) cs7).heap.size = w9.heap.size := by simp
  refine ⟨cs7, rfl, (HL8.out.old (D' := grow D w6 w7) (hD8.old hu9) (fun _ h => h)).old (Old.of_upd hfin fun q hq => ?_) (fun q hq => ?_), fin_row hB09 (by omega) _⟩
  · rcases hq with hq | hq
    · have := hD q hq; exact ⟨fun h => by have : q = w.heap.size + 1 + 1 := h; omega, by omega⟩
    have := hq.1; have := hq.2; exact ⟨fun h => by have : q = w.heap.size + 1 + 1 := h; omega, by omega⟩
  rcases hq with hq | hq
  · exact .inl hq
  have := hq.1; have := hq.2; exact .inr ⟨by omega, by omega⟩
end Go.Proofs.YtiampoebdmflgaaGreat
/- Slices of slices. -/
namespace Go.Proofs.YtiampoebdmflgaaGreat
open Go.RowKit
set_option linter.unusedVariables false
set_option maxRecDepth 100000
set_option maxHeartbeats 1000000
theorem run_slice_h8 {P : Program} {o : Oper} {a : Act} {w : World} (ty : TypeId) (x y : Operand) (ho : o.op = .slice ty x none (some y) none) (A : Option Addr) (n c : Nat)
    (hx : a.eval x = .slice A n c) (j : Nat) (hy : a.eval y = .int .i64 j) (hj : j ≤ c) (hu : P.underlying ty = some (.slice (P.elem ty))) (sz : Nat) (hs : (P.info? (P.elem ty)).map (·.size) = some sz) :
    (execOp a.eval o).run P w = .ok (.value (.slice A j c)) w := by
 cases hq : P.info? (P.elem ty) with
 | none => simp [hq] at hs
 | some i =>
  have hsz : i.size = sz := by simpa [hq] using hs
  have h0 : sliced A 0 j c sz = .slice A j c := by
   unfold sliced
   split
   · rfl
   cases A with
   | none => rfl
   | some a => simp [Addr.add]
  unfold execOp
  simp only [ho, hx, hy, Option.map]
  have h1 := run_slice_h (P := P) (w := w) ty A n c hu .i64 (j : Int) (by omega) (by omega)
  simp [run_sliceAt_slice w ty _ _ _ _ hu, h1, sizeOf, typeInfo, hq, hsz, h0]
theorem run_slice_l8 {P : Program} {o : Oper} {a : Act} {w : World} (ty : TypeId) (x y : Operand) (ho : o.op = .slice ty x (some y) none none) (A : Option Addr) (n c : Nat)
    (hx : a.eval x = .slice A n c) (j : Nat) (hy : a.eval y = .int .i64 j) (hj : j ≤ n) (hu : P.underlying ty = some (.slice (P.elem ty))) (sz : Nat) (hs : (P.info? (P.elem ty)).map (·.size) = some sz) :
    (execOp a.eval o).run P w = .ok (.value (.slice (if c = j then A else A.map (·.add (j * sz))) (n - j) (c - j))) w := by
 cases hq : P.info? (P.elem ty) with
 | none => simp [hq] at hs
 | some i =>
  have hsz : i.size = sz := by simpa [hq] using hs
  unfold execOp
  simp only [ho, hx, hy, Option.map]
  have h1 := run_slice_l (P := P) (w := w) ty A n c hu .i64 (j : Int) (by omega) (by omega)
  cases A <;> simp [run_sliceAt_slice w ty _ _ _ _ hu, h1, sizeOf, typeInfo, hq, hsz, sliced]
theorem elem_tms : Tryz.prog.elem 26 = 28 := by kernel_rfl
theorem und_tms : Tryz.prog.underlying 26 = some (.slice (Tryz.prog.elem 26)) := by rw [elem_tms]; exact Tryz.underlying26
theorem sz_tms : (Tryz.prog.info? (Tryz.prog.elem 26)).map (·.size) = some 8 := by rw [elem_tms]; exact tm_size
theorem TmsAt.drop {D : Nat → Prop} {w : World} {ts : List Tm} {A : Option Addr} (h : TmsAt D w ts A 0) (p c : Nat) (hc : ts.length ≤ c) : TmsAt D w (ts.drop p) (if c = p then A else A.map (·.add (p * 8))) 0 :=
 TmsAt.mk fun j l hj => by
  rw [List.getElem?_drop] at hj
  obtain ⟨a, cs, hA, hab, hrow, hl⟩ := h.at_ hj
  have hlt := (List.getElem?_eq_some_iff.1 hj).1
  have hne : c ≠ p := by omega
  refine ⟨a.add (p * 8), cs, by rw [if_neg hne, hA]; rfl, by rw [Addr_add_block]; exact hab, ?_, hl⟩
  rw [Addr_add_add]
  have e : p * 8 + (0 + j) * 8 = (0 + (p + j)) * 8 := by omega
  rw [e]; exact hrow
theorem TmsAt.take {D : Nat → Prop} {w : World} {ts : List Tm} {A : Option Addr} (h : TmsAt D w ts A 0) (p : Nat) : TmsAt D w (ts.take p) A 0 :=
 TmsAt.mk fun j l hj => by
  rw [List.getElem?_take] at hj
  split at hj
  · exact h.at_ hj
  cases hj
theorem elem_lvs : Tryz.prog.elem 23 = 25 := by kernel_rfl
theorem und_lvs : Tryz.prog.underlying 23 = some (.slice (Tryz.prog.elem 23)) := by rw [elem_lvs]; exact Tryz.underlying23
theorem sz_lvs : (Tryz.prog.info? (Tryz.prog.elem 23)).map (·.size) = some 3 := by rw [elem_lvs]; exact lv_size
def There (w : World) : Nat → Prop := fun q => q < w.heap.size
theorem There_in (w : World) : Within (There w) w := fun _ h => h
theorem cell_there {w : World} {a : Addr} {v : Value} (h : w.cell? a = some v) : There w a.block := by
 unfold There
 apply Decidable.byContradiction
 intro hn
 have : w.heap[a.block]? = none := Array.getElem?_eq_none (by omega)
 simp [World.cell?, this] at h
end Go.Proofs.YtiampoebdmflgaaGreat
