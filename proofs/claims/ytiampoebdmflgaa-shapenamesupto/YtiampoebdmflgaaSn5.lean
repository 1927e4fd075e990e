/- Texts put one behind the other: Treb, Town, Trev, Spine, Row, Self, Zvars, Prep. -/
import Derived.Test.YtiampoebdmflgaaSn2
import Derived.Test.YtiampoebdmflgaaSn4
import Derived.Deep.LoopGhost
import Derived.Deep.Upon
/- term.rebuild: over whatever makes leaves anew. -/
namespace Go.Proofs.Ytiampoebdmflgaa
open Go.RowKit
set_option linter.unusedVariables false
attribute [local go_sem] Oper.semAt_some
set_option maxRecDepth 100000
set_option maxHeartbeats 4000000
set_option linter.unusedSimpArgs false
mutual
def treb (F : Tm → Int → Tm) : Tm → Int → Tm
 | .mk k n nm lv ls ks, i => if (Tm.mk k n nm lv ls ks).leaf = true then F (.mk k n nm lv ls ks) i else .mk k 0 ByteArray.empty lzero' [] (trebs F k (nk k ks.length) ks 0 i)
def trebs (F : Tm → Int → Tm) (k : Int) (N : Nat) : List Tm → Nat → Int → List Tm
 | [], _, _ => []
 | t :: ts, j, i => if j < N then treb F t (i + bnd k j) :: trebs F k N ts (j + 1) i else []
end
def rb (F : Tm → Int → Tm) (k : Int) (ks : List Tm) (i : Int) (q : Nat) : List Tm := (ks.take q).mapIdx fun j t => treb F t (i + bnd k j)
theorem trebs_eq (F : Tm → Int → Tm) (k : Int) (N : Nat) (i : Int) : ∀ (ks : List Tm) (j : Nat), trebs F k N ks j i = (ks.take (N - j)).mapIdx fun q t => treb F t (i + bnd k (j + q))
 | [], j => by simp [trebs]
 | t :: ts, j => by
  simp only [trebs]
  split
  · rename_i h
    obtain ⟨m, hm⟩ : ∃ m, N - j = m + 1 := ⟨N - j - 1, by omega⟩
    have := trebs_eq F k N i ts (j + 1)
    rw [hm, List.take_succ_cons, List.mapIdx_cons, this, show N - (j + 1) = m by omega]
    simp [Nat.add_assoc, Nat.add_comm 1]
  rename_i h
  rw [show N - j = 0 by omega]; simp
theorem trebs_rb (F : Tm → Int → Tm) (k : Int) (N : Nat) (ks : List Tm) (i : Int) : trebs F k N ks 0 i = rb F k ks i N := by
 rw [trebs_eq]; simp [rb]
theorem rb_succ (F : Tm → Int → Tm) (k : Int) (ks : List Tm) (i : Int) (q : Nat) (hq : q < ks.length) : rb F k ks i (q + 1) = rb F k ks i q ++ [treb F ks[q] (i + bnd k q)] := by
 unfold rb
 rw [List.take_add_one, List.getElem?_eq_getElem hq, Option.toList_some, List.mapIdx_append]
 have hl : (ks.take q).length = q := by simp; omega
 simp [hl]
theorem rb_len (F : Tm → Int → Tm) (k : Int) (ks : List Tm) (i : Int) (q : Nat) (hq : q ≤ ks.length) : (rb F k ks i q).length = q := by simp [rb]; omega
theorem meas_vh (t : Tm) : ∀ (d b : Int) (s : Int × Int), (tfold mStep t d b s).1 = true → d + t.vh ≤ 2001 := by
 induction t using Tm.ind with
 | h k n nm lv ls ks ih =>
  intro d b s h
  have hd : d ≤ 2000 := by
   simp only [tfold] at h
   split at h
   · rename_i hs; simp [mStep] at hs; exact hs.2
   simp at h
  have hl : ∀ (ts : List Tm), (∀ t ∈ ts, t ∈ ks) → ∀ (N j : Nat) (s : Int × Int), (tfolds mStep k N ts j (d + 1) b s).1 = true → d + 1 + Tm.vhs N ts j ≤ 2001 := by
   intro ts
   induction ts with
   | nil => intro _ N j s _; simp only [Tm.vhs]; omega
   | cons t ts iht =>
    intro hm N j s hf
    have h2 := fun s' hf' => iht (fun q hq => hm q (by simp [hq])) N (j + 1) s' hf'
    simp only [tfolds] at hf
    simp only [Tm.vhs]
    split at hf
    · rename_i hjN
      rw [if_pos hjN]
      split at hf
      · rename_i h1
        have h3 := ih t (hm t (by simp)) _ _ _ h1
        have h4 := h2 _ hf
        omega
      simp at hf
    rename_i hjN
    rw [if_neg hjN]
    have h5 : ∀ (ts : List Tm) (j : Nat), ¬ j < N → Tm.vhs N ts j = 0 := by
     intro ts
     induction ts with
     | nil => intro j _; simp only [Tm.vhs]
     | cons q qs iq => intro j hj; simp only [Tm.vhs]; rw [if_neg hj, iq (j + 1) (by omega)]; rfl
    rw [h5 ts (j + 1) (by omega)]
    omega
  simp only [tfold] at h
  split at h
  · have := hl ks (fun _ h => h) _ 0 _ h
    simp only [Tm.vh]; omega
  simp at h
theorem great_vh {t : Tm} (h : tgreat t = false) : t.vh ≤ 2000 := by
 unfold tgreat tmeas at h
 split at h
 · rename_i h1
   have := meas_vh t 1 0 (0, 0) h1
   omega
 simp at h
structure RVisit (P : Program) (vf : FuncId) (lb : Array Value) (D : Nat → Prop) (R : World → Prop) (F : Tm → Int → Tm) : Prop where
 enter : ∀ args w, (callFunc vf args).run P w = .ok (.enter vf args) w
 keep : ∀ W W', R W → Upd nob W W' → R W'
 call : ∀ t cs i W, t.leaf = true → TmIs D W t cs → R W → Within D W → 0 ≤ i → i ≤ 4611686018427387904 → Calls P vf (#[.agg cs, .int .i64 i] ++ lb) W fun e W' =>
  ∃ cs', e = .returned (.agg cs') ∧ TmIs (grow D W W') W' (F t i) cs' ∧ Below W.heap.size W W'
theorem treb_any {vf : FuncId} {lb : Array Value} {D : Nat → Prop} {R : World → Prop} {F : Tm → Int → Tm} (V : RVisit Try.prog vf lb D R F) (t : Tm) :
    ∀ (cs : Array Value) (i : Int) (w : World), TmIs D w t cs → R w → Within D w → 0 ≤ i → i + t.vh ≤ 4611686018427387904 →
     Calls Try.prog 130 #[.agg cs, .int .i64 i, .func (.func vf) #[] lb] w fun e w' =>
      ∃ cs', e = .returned (.agg cs') ∧ TmIs (grow D w w') w' (treb F t i) cs' ∧ Below w.heap.size w w' := by
 induction t using Tm.ind with
 | h k n nm lv ls ks ih =>
  intro cs i w hl hR hB h0 hi
  have hl0 := Lib.hid hl
  obtain ⟨x, y, z, A, c, A', c', rfl, hk, hn, hnm, hlv, hls1, hls, hks1, hks⟩ := hl.lit
  simp only [Tm.k, Tm.n, Tm.nm, Tm.lv, Tm.ls, Tm.ks] at hl0 hk hn hnm hlv hls1 hls hks1 hks ⊢
  have he := V.enter
  have hz := tm_zero
  obtain ⟨X, hX⟩ : ∃ X, treb F (.mk k n nm lv ls ks) i = X := ⟨_, rfl⟩
  rw [hX]
  have HX := Lib.hid hX; clear hX hl
  obtain ⟨W1, hW1⟩ : ∃ W1, (((w.alloc (.cells #[.int .i64 k, .int .i64 n, .string nm, x, y, z, .slice A ls.length c, .slice A' ks.length c'] 27)).alloc (.cells #[.int .i64 i] 3)).alloc (.cells #[.func (.func vf) #[] lb] 137)).alloc (.cells #[.int .i64 0, .int .i64 0, .string ByteArray.empty, .int .i64 0, .int .i64 0, .slice none 0 0, .slice none 0 0, .slice none 0 0] 27) = W1 := ⟨_, rfl⟩
  have huW1 : Upd nob w W1 := by rw [← hW1]; exact ((((Upd.refl nob w).alloc _).alloc _).alloc _).alloc _
  have hsW1 : W1.heap.size = w.heap.size + 4 := by rw [← hW1]; simp
  have b0 : Blk W1 (w.heap.size) 27 #[.int .i64 k, .int .i64 n, .string nm, x, y, z, .slice A ls.length c, .slice A' ks.length c'] := by
   rw [← hW1]
   have h := Blk.new (w) 27 #[.int .i64 k, .int .i64 n, .string nm, x, y, z, .slice A ls.length c, .slice A' ks.length c']
   exact ((h.alloc _).alloc _).alloc _
  have b1 : Blk W1 (w.heap.size + 1) 3 #[.int .i64 i] := by
   rw [← hW1]
   have h := Blk.new (w.alloc (.cells #[.int .i64 k, .int .i64 n, .string nm, x, y, z, .slice A ls.length c, .slice A' ks.length c'] 27)) 3 #[.int .i64 i]
   rw [World.size_alloc] at h
   exact (h.alloc _).alloc _
  have b2 : Blk W1 (w.heap.size + 1 + 1) 137 #[.func (.func vf) #[] lb] := by
   rw [← hW1]
   have h := Blk.new ((w.alloc (.cells #[.int .i64 k, .int .i64 n, .string nm, x, y, z, .slice A ls.length c, .slice A' ks.length c'] 27)).alloc (.cells #[.int .i64 i] 3)) 137 #[.func (.func vf) #[] lb]
   rw [World.size_alloc, World.size_alloc] at h
   exact h.alloc _
  have b3 : Blk W1 (w.heap.size + 1 + 1 + 1) 27 #[.int .i64 0, .int .i64 0, .string ByteArray.empty, .int .i64 0, .int .i64 0, .slice none 0 0, .slice none 0 0, .slice none 0 0] := by
   rw [← hW1]
   have h := Blk.new (((w.alloc (.cells #[.int .i64 k, .int .i64 n, .string nm, x, y, z, .slice A ls.length c, .slice A' ks.length c'] 27)).alloc (.cells #[.int .i64 i] 3)).alloc (.cells #[.func (.func vf) #[] lb] 137)) 27 #[.int .i64 0, .int .i64 0, .string ByteArray.empty, .int .i64 0, .int .i64 0, .slice none 0 0, .slice none 0 0, .slice none 0 0]
   rw [World.size_alloc, World.size_alloc, World.size_alloc] at h
   exact h
  have HW1 := Lib.hid hW1
  have r0 := b0.rowAt
  have B0 := Lib.hid b0
  have B1 := Lib.hid b1
  have B2 := Lib.hid b2
  have B3 := Lib.hid b3
  clear b0 b1 b2 b3 hW1
  refine callsIn_wide (n := 0).1 ?_
  refine callsIn_of_wp_marks Try.func130 rfl trivial ?_ rfl
  simp only [Try.ntmps130, List.size_toArray, List.length_cons, List.length_nil, Nat.reduceAdd, Nat.reduceSub, Array.replicate_succ, Array.replicate_zero, List.push_toArray, List.append_toArray, List.nil_append, List.cons_append]
  rw [← HW1.out] at r0
  gi_wp2_with (first
          | ((with_reducible refine this_opIn (.load 27 (.tmp 3)) ?_); refine wpListIn_at .out rfl 27 (.tmp 3) rfl ⟨w.heap.size, 0, none⟩ rfl _ _ r0 Try.underlying27 rfl tm_size ?_))
  rw [HW1.out]
  refine viaCalls (tleaf_any (.mk k n nm lv ls ks) _ D W1 (hl0.out.old (hB.old huW1) (fun _ h => h))) ?_
  rintro e w2 ⟨rfl, hb2⟩
  have hu2 : Upd nob W1 w2 := Upd.of_below hb2
  have u0 := (B0.out.upd hu2 (fun f => f)).rowAt
  have u1 := (B1.out.upd hu2 (fun f => f)).cell 0
  have u2 := (B2.out.upd hu2 (fun f => f)).cell 0
  have hDw2 := (hB.up huW1).up hu2
  have hlw2 := (hl0.out.old (hB.old huW1) (fun _ h => h)).old ((hB.up huW1).old hu2) (fun _ h => h)
  have hRw2 := V.keep _ _ (V.keep _ _ hR huW1) hu2
  have q1 : w2.cell? ⟨w.heap.size + 1, 0, none⟩ = some (.int .i64 i) := u1
  have q2 : w2.cell? ⟨w.heap.size + 1 + 1, 0, none⟩ = some (.func (.func vf) #[] lb) := u2
  clear u1 u2
  cases hlf : (Tm.mk k n nm lv ls ks).leaf with
  | true =>
   have HL := Lib.hid hlf; clear hlf
   gi_wp2_with (first
             | ((with_reducible refine this_opIn (.load 27 (.tmp 3)) ?_); refine wpListIn_at .out rfl 27 (.tmp 3) rfl ⟨w.heap.size, 0, none⟩ rfl _ _ u0 Try.underlying27 rfl tm_size ?_))
   refine viaCalls (V.call (.mk k n nm lv ls ks) _ i w2 HL.out hlw2 hRw2 hDw2 h0 (by have := hi; omega)) ?_
   rintro e w3 ⟨cs3, rfl, hl3, hb3⟩
   have hu3 : Upd nob w2 w3 := Upd.of_below hb3
   have hs3 := hl3.oneCell
   have hsi3 : (Try.prog.info? 27).map (·.size) = some cs3.size := by rw [hs3.1]; exact tm_size
   have C3 := (B3.out.upd hu2 (fun f => f)).upd hu3 (fun f => f)
   clear u0 q1 q2
   gi_wp2_with (first
             | ((with_reducible refine this_opIn (.store 27 (.tmp 6) (.tmp 15)) ?_); refine wpListIn_store_blk .out rfl 27 (.tmp 6) (.tmp 15) rfl rfl (w.heap.size + 1 + 1 + 1) cs3 rfl rfl 27 _ C3 hsi3 (by rw [hs3.1]; rfl) hs3.2 ?_))
   have hfin : Upd (fun q => q = w.heap.size + 1 + 1 + 1) w3 (w3.setRow (w.heap.size + 1 + 1 + 1) cs3) := (Upd.refl (fun q => q = w.heap.size + 1 + 1 + 1) w3).setRow (.inl rfl) _
   have hs9 : (w3.setRow (w.heap.size + 1 + 1 + 1) cs3).heap.size = w3.heap.size := by simp
   have hs2 := hu2.size
   have hs33 := hu3.size
   refine ⟨.agg cs3, results_cell_row rfl _ _ (w.heap.size + 1 + 1 + 1) 27 cs3 (0, 0) _ rfl (C3.row _) Try.underlying27 rfl hsi3, cs3, rfl, ?_, ((huW1.trans (hu2.trans hu3)).trans' hfin (fun q hq h => by omega)).below⟩
   have hX2 : X = F (.mk k n nm lv ls ks) i := by rw [← HX.out, treb, if_pos HL.out]
   rw [hX2]
   refine hl3.old (Old.of_upd hfin fun q hq => ?_) (fun q hq => ?_)
   · rcases hq with hq | hq
     · have := hB q hq; exact ⟨by omega, by omega⟩
     exact ⟨by omega, hq.2⟩
   rcases hq with hq | hq
   · exact .inl hq
   exact .inr ⟨by omega, by omega⟩
  | false =>
   have HL := Lib.hid hlf; clear hlf
   have q0 : w2.cell? ⟨w.heap.size, 0, none⟩ = some (.int .i64 k) := (B0.out.upd hu2 (fun f => f)).cell 0
   have hlb : w.heap.size < w2.heap.size := by have := hu2.size; omega
   have u4 := ((B0.out.upd hu2 (fun f => f)).alloc (.cells #[.int .i64 k, .int .i64 0, .string ByteArray.empty, .int .i64 0, .int .i64 0, .slice none 0 0, .slice none 0 0, .slice none 0 0] 27)).rowAt
   clear q1 q2 u0
   gi_wp2_with (first
             | ((with_reducible refine this_opIn (.load 27 (.tmp 3)) ?_); refine wpListIn_at .out rfl 27 (.tmp 3) rfl ⟨w.heap.size, 0, none⟩ rfl _ _ u4 Try.underlying27 rfl tm_size ?_))
   obtain ⟨W4, hW4⟩ : ∃ W4, w2.alloc (.cells #[.int .i64 k, .int .i64 0, .string ByteArray.empty, .int .i64 0, .int .i64 0, .slice none 0 0, .slice none 0 0, .slice none 0 0] 27) = W4 := ⟨_, rfl⟩
   rw [hW4]
   have hu4 : Upd nob w2 W4 := by rw [← hW4]; exact (Upd.refl nob w2).alloc _
   have hs4 : W4.heap.size = w2.heap.size + 1 := by rw [← hW4]; simp
   have hb4 : Blk W4 w2.heap.size 27 #[.int .i64 k, .int .i64 0, .string ByteArray.empty, .int .i64 0, .int .i64 0, .slice none 0 0, .slice none 0 0, .slice none 0 0] := by rw [← hW4]; exact Blk.new _ _ _
   clear hW4
   refine viaCalls (tkids_any (.mk k n nm lv ls ks) _ D W4 (hlw2.old (hDw2.old hu4) (fun _ h => h))) ?_
   rintro e w3 ⟨rfl, rfl⟩
   gi_wp2_with fail
   obtain ⟨css, hcl, hcs⟩ := hks.cells
   obtain ⟨W5, hW5⟩ : ∃ W5, W4.alloc (.cells #[.int .i64 k, .int .i64 n, .string nm, x, y, z, .slice A ls.length c, .slice A' ks.length c'] 27) = W5 := ⟨_, rfl⟩
   have hu5 : Upd nob W4 W5 := by rw [← hW5]; exact (Upd.refl nob W4).alloc _
   have hs5 : W5.heap.size = w2.heap.size + 2 := by rw [← hW5]; simp [hs4]
   have hb5 : Blk W5 (w2.heap.size + 1) 27 #[.int .i64 k, .int .i64 n, .string nm, x, y, z, .slice A ls.length c, .slice A' ks.length c'] := by rw [← hW5, ← hs4]; exact Blk.new _ _ _
   have hs2 := hu2.size
   have hu25 : Upd nob w2 W5 := hu4.trans hu5
   have huw5 : Upd nob w W5 := huW1.trans (hu2.trans hu25)
   have hoD : Old D w W5 := hB.old huw5
   have hD5 : Within D W5 := hB.up huw5
   have hR5 := V.keep _ _ hRw2 hu25
   have b7 : Blk W5 w2.heap.size 27 #[Value.int .i64 k, .int .i64 0, .string ByteArray.empty, .int .i64 0, .int .i64 0, .slice none 0 0, .slice none 0 0, .slice none 0 0] := hb4.upd hu5 (fun f => f)
   rw [hW5]
   clear hW5
   obtain ⟨xs, hxs⟩ : ∃ xs, xs = kx k (css.take (nk k ks.length)) := ⟨_, rfl⟩
   have hit := kids_spec (.mk k n nm lv ls ks) css x y z A c A' c' D (w2.heap.size + 1) W5 hD5 hb5 hcl hks1.1 (fun i ci hi => by
    obtain ⟨a, l, e1, e2, e3, e4, e5⟩ := hcs i ci hi
    exact ⟨a, l, e1, e2, e3, e4.old hoD (by rw [Addr_add_block]; exact e3), e5.old hoD (fun _ h => h)⟩) xs hxs
   have HXS := Lib.hid hxs; clear hxs
   obtain ⟨N, hN⟩ : ∃ N, nk k ks.length = N := ⟨_, rfl⟩
   have hNk : N ≤ ks.length := by rw [← hN]; exact nk_le _ _
   have hxl : xs.length = N := by rw [HXS.out, kx_len, List.length_take, hcl, hN]; omega
   have hxg : ∀ (j : Nat) v, xs[j]? = some v → ∃ cj, css[j]? = some cj ∧ v = #[.int .i64 (bnd k j), .agg cj] ∧ j < N := fun j v hv => by
    have hjl : j < N := by rw [← hxl]; exact (List.getElem?_eq_some_iff.1 hv).1
    rw [HXS.out] at hv
    obtain ⟨cj, h1, h2⟩ := kx_get hv
    rw [List.getElem?_take_of_lt (by omega)] at h1
    exact ⟨cj, h1, h2, hjl⟩
   have hX2 : X = .mk k 0 ByteArray.empty lzero' [] (rb F k ks i N) := by rw [← HX.out, treb, if_neg (by rw [HL.out]; decide), hN, trebs_rb]
   have HRES := Lib.hid hX2
   have hvk : ∀ (j : Nat) (hj : j < ks.length), j < N → (ks[j]).vh + 1 ≤ (Tm.mk k n nm lv ls ks).vh := fun j hj h => Tm.vh_kid j hj (by rw [hN]; exact h)
   clear hX2 hN
   obtain ⟨base, hbase⟩ : ∃ base, base = W5.heap.size := ⟨_, rfl⟩
   have hDb : ∀ q, D q → q < w2.heap.size := fun q hq => by have := hB q hq; omega
   obtain ⟨t7, ht7⟩ : ∃ t7, t7 = w2.heap.size := ⟨_, rfl⟩
   have hSt : ∀ (I : Nat → Prop) (W W' : World) sv j, (Blk W t7 27 #[Value.int .i64 k, .int .i64 0, .string ByteArray.empty, .int .i64 0, .int .i64 0, .slice none 0 0, .slice none 0 0, sv] ∧ MC D I base W sv (rb F k ks i j) ∧ Upd (fun q => q = t7) W5 W ∧ (∀ q, I q → base ≤ q)) → Upd I W W' →
       (Blk W' t7 27 #[Value.int .i64 k, .int .i64 0, .string ByteArray.empty, .int .i64 0, .int .i64 0, .slice none 0 0, .slice none 0 0, sv] ∧ MC D (grow I W W') base W' sv (rb F k ks i j) ∧ Upd (fun q => q = t7) W5 W' ∧ (∀ q, grow I W W' q → base ≤ q)) := by
    rintro I W W' sv j ⟨h1, h2, h3, h4⟩ hu
    have hsz := h3.size
    refine ⟨h1.upd hu (fun hh => by have := h4 _ hh; omega), h2.upd hu (fun q hq => .inl hq) (fun q hq => ⟨by have := hDb q hq; omega, fun hh => by have := h4 _ hh; have := hDb q hq; omega⟩) (by omega) (fun q hq => hq.imp id (fun h => h.1)),
     h3.trans' hu (fun q hq hI => by have := h4 q hI; omega), fun q hq => ?_⟩
    rcases hq with hq | hq
    · exact h4 q hq
    have := hq.1; omega
   refine wpIn_range hit rfl (fun args w => by go_simp) ?_ (Keeps.refl _ _) (by rw [HXS.out]; exact kx_size)
    (fun j I W => ∃ sv, Blk W t7 27 #[Value.int .i64 k, .int .i64 0, .string ByteArray.empty, .int .i64 0, .int .i64 0, .slice none 0 0, .slice none 0 0, sv] ∧ MC D I base W sv (rb F k ks i j) ∧ Upd (fun q => q = t7) W5 W ∧ ∀ q, I q → base ≤ q)
    (fun _ _ _ => False)
    ?sJ (fun _ _ _ _ h _ => h) nob (fun _ f => f.elim) ?j0
    (fun j v a₁ I W => ∃ sv cj g, (css[j]? = some cj ∧ v = #[.int .i64 (bnd k j), .agg cj] ∧ j < N ∧ a₁ = { tmps := #[.agg #[.int .i64 k, .int .i64 n, .string nm, x, y, z, .slice A ls.length c, .slice A' ks.length c'], .int .i64 i, .func (.func vf) #[] lb, .pointer (some ⟨w.heap.size, 0, none⟩), .pointer (some ⟨w.heap.size + 1, 0, none⟩), .pointer (some ⟨w.heap.size + 1 + 1, 0, none⟩), .pointer (some ⟨w.heap.size + 1 + 1 + 1, 0, none⟩), .pointer (some ⟨w2.heap.size, 0, none⟩), .int .i64 (bnd k j), .pointer (some ⟨g, 0, none⟩), .agg #[.int .i64 k, .int .i64 n, .string nm, x, y, z, .slice A ls.length c, .slice A' ks.length c'], .bool false, undef, undef, undef, undef, .pointer (some ⟨w.heap.size, 0, none⟩), .int .i64 k, .agg #[Value.int .i64 k, .int .i64 0, .string ByteArray.empty, .int .i64 0, .int .i64 0, .slice none 0 0, .slice none 0 0, .slice none 0 0], .agg #[.int .i64 k, .int .i64 n, .string nm, x, y, z, .slice A ls.length c, .slice A' ks.length c'], .func (.func 132) #[] #[.pointer (some ⟨w2.heap.size + 1, 0, none⟩)], .int .i64 (bnd k j), .agg cj, undef, undef, undef, undef, undef, undef, undef, undef, undef, undef, undef, undef, undef, undef], defers := [] } ∧ Blk W g 27 cj ∧ ¬ I g ∧ base ≤ g ∧ g < W.heap.size) ∧ Blk W t7 27 #[Value.int .i64 k, .int .i64 0, .string ByteArray.empty, .int .i64 0, .int .i64 0, .slice none 0 0, .slice none 0 0, sv] ∧ MC D I base W sv (rb F k ks i j) ∧ Upd (fun q => q = t7) W5 W ∧ ∀ q, I q → base ≤ q)
    ?sM ?assign ?body ?done (fun _ _ _ _ h _ _ _ _ _ => h.elim)
   · intro q hq
     rcases hq with rfl | hq
     · omega
     exact hD5 q hq
   case sJ =>
    rintro j I W W' ⟨sv, h⟩ hu
    exact ⟨sv, hSt I W W' sv j h hu⟩
   case j0 => exact ⟨_, by rw [ht7]; exact b7, MC.nil_, Upd.refl _ _, fun _ f => f.elim⟩
   case sM =>
    rintro j v a₁ I W W' ⟨sv, cj, g, ⟨e1, e2, e3, e4, hb, hg, hgb, hgl⟩, h⟩ hu
    refine ⟨sv, cj, g, ⟨e1, e2, e3, e4, hb.upd hu hg, fun hh => ?_, hgb, Nat.lt_of_lt_of_le hgl hu.size⟩, hSt I W W' sv j h hu⟩
    rcases hh with hh | hh
    · exact hg hh
    have := hh.1; omega
   case assign =>
    intro l j v I W hv hJ hIl
    obtain ⟨cj, hc1, rfl, hjN⟩ := hxg j v hv
    obtain ⟨sv, h7, hmc, hu, hI⟩ := hJ
    obtain ⟨a, l', g1, g2, g3, g4, g5⟩ := hcs j cj hc1
    have hsz := g5.oneCell
    have hsi : (Try.prog.info? 27).map (·.size) = some cj.size := by rw [hsz.1]; exact tm_size
    clear g2
    gi_wp2_with (first
     | ((with_reducible refine this_opIn (.store 27 (.tmp 9) (.tmp 22)) ?_); refine wpListIn_store_blk (.within _) rfl 27 (.tmp 9) (.tmp 22) rfl rfl W.heap.size cj rfl rfl 27 _ (Blk.new W _ _) hsi (by rw [hsz.1]; rfl) hsz.2 ?_))
    have husz := hu.size
    have hua : Upd nob W ((W.alloc (.cells #[.int .i64 0, .int .i64 0, .string ByteArray.empty, .int .i64 0, .int .i64 0, .slice none 0 0, .slice none 0 0, .slice none 0 0] 27)).setRow W.heap.size cj) := ((Upd.refl nob W).alloc _).setRow (.inr (Nat.le_refl _)) _
    refine ⟨hua.keeps fun q hq => ⟨fun f => f, ?_⟩, sv, cj, W.heap.size, ⟨hc1, rfl, hjN, rfl, (Blk.new W _ _).row _, fun h => by have := hIl _ h; omega, by omega, by simp⟩, h7.upd hua (fun f => f), ?_, hu.trans' hua (fun _ _ f => f.elim), hI⟩
    · rcases hq with hq | hq | hq
      · exact hIl q hq
      · omega
      have := hD5 q hq; omega
    exact hmc.upd hua (fun _ f => f.elim) (fun q hq => ⟨by have := hDb q hq; omega, fun hh => by have := hI _ hh; have := hDb q hq; omega⟩) (by omega) (fun q hq => .inl hq)
   case body =>
    rintro l j v I W a₁ hv ⟨sv, cj, g, ⟨e1, e2, e3, rfl, hbg, hng, hgb, hgl⟩, h7, hmc, hu, hI⟩ hIl _
    obtain ⟨a, l', g1, g2, g3, g4, g5⟩ := hcs j cj e1
    have hjk := (List.getElem?_eq_some_iff.1 g1).1
    obtain rfl : ks[j] = l' := (List.getElem?_eq_some_iff.1 g1).2
    have hmem : ks[j] ∈ ks := List.getElem_mem hjk
    have husz := hu.size
    have hoW : Old D w W := hoD.trans (Old.of_upd hu fun q hq => ⟨fun h => by have := hDb q hq; omega, hD5 q hq⟩)
    have hDW : Within D W := hD5.up hu
    have g6 := g5.old hoW (fun _ h => h)
    have hsi : (Try.prog.info? 27).map (·.size) = some cj.size := by rw [g5.oneCell.1]; exact tm_size
    have v1 : W.cell? ⟨w.heap.size + 1, 0, none⟩ = some (.int .i64 i) := (((B1.out.upd hu2 (fun f => f)).upd hu25 (fun f => f)).upd hu (fun h => by omega)).cell 0
    have v2 : W.cell? ⟨w.heap.size + 1 + 1, 0, none⟩ = some (.func (.func vf) #[] lb) := (((B2.out.upd hu2 (fun f => f)).upd hu25 (fun f => f)).upd hu (fun h => by omega)).cell 0
    obtain ⟨sA, sc, rfl, hcp⟩ := hmc.form
    have hlen := rb_len F k ks i j (by omega)
    rw [hlen] at h7 hmc hcp
    rw [ht7] at h7
    have v7 : W.cell? ⟨w2.heap.size, 7, none⟩ = some (.slice sA j sc) := h7.cell 7
    have hbl := bnd_le k j
    have hrs := rb_succ F k ks i j hjk
    obtain ⟨bb, hbb⟩ : ∃ bb, bnd k j = bb := ⟨_, rfl⟩
    rw [hbb] at hbl hrs
    obtain ⟨hbl0, hbl1⟩ := hbl
    have hht : i + bb + ks[j].vh ≤ 4611686018427387904 := by
     have hh := hvk j hjk e3
     omega
    have hib : IntKind.i64.wrap (i + bb) = i + bb := IntWalk.i64_in _ (by omega)
    have hRW : R W := V.keep _ _ hRw2 (hu25.trans' hu (fun q hq h => by omega))
    have H7 := Lib.hid h7
    have HRS := Lib.hid hrs
    clear e1 g1 g2 h7 hrs
    rw [hbb]
    clear hbb
    gi_wp2_with fail
    refine wpIn_region_P (ro := some l) (by kernel_rfl) (fun _ _ h => h) (by kernel_rfl) ?_
    refine wpAny_of_E (fun X : World => ∀ p : Addr, p.block < W.heap.size → X.cell? p = W.cell? p) 10 _ _ _ _ ?_
    have hS : ∀ p : Addr, p.block < W.heap.size → W.drew.cell? p = W.cell? p := fun _ _ => rfl
    refine eT 0 ?_ [] rfl (by kernel_rfl) (by rfl) ?_ hS ?_
    rotate_left; · intro wx hx; clear hx; go_simp; with_reducible rfl
    try simp only [tl]
    refine eT 1 ?_ [] rfl (by kernel_rfl) (by rfl) ?_ hS ?_
    rotate_left
    · intro wx hx
      have q0 := (hx ⟨w2.heap.size, 7, none⟩ (by show w2.heap.size < _; omega)).trans v7
      clear hx
      go_simp
      with_reducible rfl
    try simp only [tl]
    refine eT 2 (.agg cj) [] rfl (by kernel_rfl) (by rfl) ?_ hS ?_
    · intro wx hx
      exact run_load_at 27 (.tmp 9) rfl ⟨g, 0, none⟩ rfl cj _ (row_on hbg.rowAt (by show g < _; omega) hx) Try.underlying27 rfl hsi
    try simp only [tl]
    refine eT 3 ?_ [] rfl (by kernel_rfl) (by rfl) ?_ hS ?_
    rotate_left
    · intro wx hx
      have q0 := (hx ⟨w.heap.size + 1, 0, none⟩ (by show w.heap.size + 1 < _; omega)).trans v1
      clear hx
      go_simp
      with_reducible rfl
    try simp only [tl]
    refine eT 4 ?_ [] rfl (by kernel_rfl) (by rfl) ?_ hS ?_
    rotate_left; · intro wx hx; clear hx; go_simp; with_reducible rfl
    try simp only [tl]
    refine eT 5 ?_ [] rfl (by kernel_rfl) (by rfl) ?_ hS ?_
    rotate_left; · intro wx hx; clear hx; go_simp; with_reducible rfl
    try simp only [tl]
    refine eT 6 ?_ [] rfl (by kernel_rfl) (by rfl) ?_ hS ?_
    rotate_left
    · intro wx hx
      have q0 := (hx ⟨w.heap.size + 1 + 1, 0, none⟩ (by show w.heap.size + 1 + 1 < _; omega)).trans v2
      clear hx
      go_simp
      with_reducible rfl
    try simp only [tl]
    refine eT 8 ?_ [] rfl (by kernel_rfl) (by rfl) ?_ hS ?_
    rotate_left; · intro wx hx; clear hx; go_simp; with_reducible rfl
    try simp only [tl]
    refine wpAnyE_two (i := 7) (j := 9) (fun v u X => ∃ cs5 g5, v = .agg cs5 ∧ u = .slice (some ⟨g5, 0, none⟩) 1 1 ∧ TmIs (grow D W X) X (treb F ks[j] (i + bb)) cs5 ∧ Blk X g5 27 #[.int .i64 0, .int .i64 0, .string ByteArray.empty, .int .i64 0, .int .i64 0, .slice none 0 0, .slice none 0 0, .slice none 0 0] ∧ W.heap.size ≤ g5 ∧ Upd nob W X) (by kernel_rfl) (by kernel_rfl) (by kernel_rfl) rfl rfl rfl rfl rfl (fun _ => rfl) (fun _ => rfl) (fun _ _ => rfl) ?_ ?_ ?_
    · intro K hK
      go_simp
      refine (ih ks[j] hmem cj (i + bb) W.drew g6.drew (V.keep _ _ hRW ((Upd.refl nob W).drew)) hDW.drew (by omega) hht).mono ?_
      rintro e w5 ⟨cs5, rfl, hl5, hb5⟩
      have hu4 : Upd nob W w5 := ((Upd.refl nob W).drew).trans (Upd.of_below hb5)
      have hu4s := hu4.size
      refine hK (.agg cs5) w5 (cells_of_upd hu4) ?_
      intro K' hK'
      have hu6 : Upd nob W (w5.alloc (.cells #[.int .i64 0, .int .i64 0, .string ByteArray.empty, .int .i64 0, .int .i64 0, .slice none 0 0, .slice none 0 0, .slice none 0 0] 27)) := hu4.alloc _
      refine owp_build1 25 27 _ rfl _ 8 120 Try.underlying25 tm_info (by decide) (by decide) #[.int .i64 0, .int .i64 0, .string ByteArray.empty, .int .i64 0, .int .i64 0, .slice none 0 0, .slice none 0 0, .slice none 0 0] (by rfl) rfl ?_
      have hin5 : Within (grow D W.drew w5) w5 := fun x hx => hx.elim (fun h => by have := hDW x h; omega) (fun h => h.2)
      exact hK' _ _ (cells_of_upd hu6) ⟨cs5, w5.heap.size, rfl, rfl, hl5.old (hin5.old ((Upd.refl nob w5).alloc _)) (fun q hq => hq.imp id fun h => ⟨h.1, by have := h.2; simp; omega⟩), Blk.new _ _ _, hu4s, hu6⟩
    · intro K hK
      refine owp_build1 25 27 _ rfl _ 8 120 Try.underlying25 tm_info (by decide) (by decide) #[.int .i64 0, .int .i64 0, .string ByteArray.empty, .int .i64 0, .int .i64 0, .slice none 0 0, .slice none 0 0, .slice none 0 0] (by rfl) rfl ?_
      have hu3 : Upd nob W (W.drew.alloc (.cells #[.int .i64 0, .int .i64 0, .string ByteArray.empty, .int .i64 0, .int .i64 0, .slice none 0 0, .slice none 0 0, .slice none 0 0] 27)) := ((Upd.refl nob W).drew).alloc _
      refine hK _ _ (cells_of_upd hu3) ?_
      intro K' hK'
      go_simp
      refine (ih ks[j] hmem cj (i + bb) (W.drew.alloc (.cells #[.int .i64 0, .int .i64 0, .string ByteArray.empty, .int .i64 0, .int .i64 0, .slice none 0 0, .slice none 0 0, .slice none 0 0] 27)) (g6.old (hDW.old hu3) (fun _ h => h)) (V.keep _ _ hRW hu3) (hDW.up hu3) (by omega) hht).mono ?_
      rintro e w5 ⟨cs5, rfl, hl5, hb5⟩
      have hu4' : Upd nob (W.drew.alloc (.cells #[.int .i64 0, .int .i64 0, .string ByteArray.empty, .int .i64 0, .int .i64 0, .slice none 0 0, .slice none 0 0, .slice none 0 0] 27)) w5 := Upd.of_below hb5
      have hu4 : Upd nob W w5 := hu3.trans hu4'
      have hs3 : (W.drew.alloc (.cells #[.int .i64 0, .int .i64 0, .string ByteArray.empty, .int .i64 0, .int .i64 0, .slice none 0 0, .slice none 0 0, .slice none 0 0] 27)).heap.size = W.heap.size + 1 := by simp
      exact hK' (.agg cs5) w5 (cells_of_upd hu4) ⟨cs5, W.heap.size, rfl, rfl, hl5.old (Old.refl _ _) (fun q hq => hq.imp id fun h => ⟨by have := h.1; omega, h.2⟩), (Blk.new W.drew 27 #[.int .i64 0, .int .i64 0, .string ByteArray.empty, .int .i64 0, .int .i64 0, .slice none 0 0, .slice none 0 0, .slice none 0 0]).upd hu4' (fun f => f), Nat.le_refl _, hu4⟩
    rintro v u Xw hSX ⟨cs5, g5, rfl, rfl, hl5, hg5, hg5b, huX⟩
    try simp only [tl]
    obtain ⟨E, rows, q1, q2, q3, q4⟩ := hmc.out
    have hrl : rows.length = j := by rw [q4.1, hlen]
    have hszX := huX.size
    refine wpAnyE_z (by kernel_rfl) rfl (by rfl) fun K hK => ?_
    refine owp_append1 (.tmp 24) (.tmp 32) 25 rfl base 27 _ 8 120 Try.underlying25 tm_info (by kernel_rfl) (by decide) (.slice sA j sc) rows rfl (q2.upd huX (fun _ _ f => f)) g5 #[.int .i64 0, .int .i64 0, .string ByteArray.empty, .int .i64 0, .int .i64 0, .slice none 0 0, .slice none 0 0, .slice none 0 0] (by rfl) hg5 rfl (by simp [Value.oneCell']) (by rw [hrl]; omega) (by rw [hrl]; omega) (by omega) ?_
    intro v9 W7 hr7 hu7 hat7
    obtain ⟨g7, cap7, cur7, rfl, hb7, hg7b, hsz7, hlast⟩ := hr7.last
    rw [hrl] at hsz7 hlast ⊢
    refine hK _ _ ?_
    clear hK K; try simp only [tl]
    have h7 := H7.out
    have hown : ∀ q, (Value.slice sA j sc).ownBlock = some q → base ≤ q ∧ q < W.heap.size ∧ ¬ I q ∧ ¬ E q := fun q hq => ⟨(hmc.lt hq).1, (hmc.lt hq).2.1, (hmc.lt hq).2.2, (q3 q hq).2⟩
    have hG : (Value.slice sA j sc).ownBlock = some g7 ∨ g7 = Xw.heap.size := by
     rcases hat7 with h | h
     · left; rw [← h]; rfl
     right; simpa [Value.ownBlock] using h
    have hg7t : g7 ≠ w2.heap.size := by
     rcases hG with h | h
     · have := (hown _ h).1; omega
     omega
    have hb7t : Blk W7 w2.heap.size 27 #[Value.int .i64 k, .int .i64 0, .string ByteArray.empty, .int .i64 0, .int .i64 0, .slice none 0 0, .slice none 0 0, .slice sA j sc] := (h7.upd huX (fun f => f)).upd hu7 (fun h => by have := (hown _ h).1; omega)
    have hadd : Addr.add ⟨g7, 0, none⟩ (j * 8) = ⟨g7, j * 8, none⟩ := by unfold Addr.add; split <;> simp_all
    have hs5c := hl5.oneCell
    have hsi5 : (Try.prog.info? 27).map (·.size) = some cs5.size := by rw [hs5c.1]; exact tm_size
    obtain ⟨new, hnew⟩ : ∃ new, new = (cur7.toList.take (j * 8) ++ cs5.toList ++ cur7.toList.drop (j * 8 + cs5.size)).toArray := ⟨_, rfl⟩
    have HNEW := Lib.hid hnew
    clear hnew
    have fin : ∀ Wf, Blk Wf w2.heap.size 27 #[Value.int .i64 k, .int .i64 0, .string ByteArray.empty, .int .i64 0, .int .i64 0, .slice none 0 0, .slice none 0 0, .slice (some ⟨g7, 0, none⟩) (j + 1) cap7] → Blk Wf g7 27 new → Upd (fun q => q = g7 ∨ q = w2.heap.size) W7 Wf →
        (Keeps (fun k_1 => I k_1 ∨ (k_1 = w2.heap.size + 1 ∨ D k_1)) W Wf ∧ ∃ sv, Blk Wf t7 27 #[Value.int .i64 k, .int .i64 0, .string ByteArray.empty, .int .i64 0, .int .i64 0, .slice none 0 0, .slice none 0 0, sv] ∧ MC D I base Wf sv (rb F k ks i (j + 1)) ∧ Upd (fun q => q = t7) W5 Wf ∧ ∀ q, I q → base ≤ q) := by
     intro Wf k7 kg ku
     rw [HNEW.out] at kg
     have hr9 := hlast cs5 hs5c.1 Wf kg
     have hs7 := hu7.size
     have hsf := ku.size
     have hW : Upd (fun q => q = w2.heap.size ∨ (Value.slice sA j sc).ownBlock = some q) W Wf := by
      refine ((huX.mono (fun _ f => f.elim)).trans (hu7.mono fun _ h => .inr h)).trans' ku (fun q hq h => ?_)
      rcases h with rfl | h
      · rcases hG with h | h
        · exact .inr h
        omega
      exact .inl h
     refine ⟨hW.keeps fun q hq => ?_, .slice (some ⟨g7, 0, none⟩) (j + 1) cap7, by rw [ht7]; exact k7, ⟨fun q => E q ∨ D q ∨ (W.heap.size ≤ q ∧ q < Xw.heap.size), rows ++ [cs5], ?_, hr9, ?_, ?_⟩, ?_, hI⟩
     · rcases hq with hq | rfl | hq
       · refine ⟨fun h => ?_, hIl q hq⟩
         rcases h with h | h
         · have := hI q hq; omega
         exact (hown q h).2.2.1 hq
       · refine ⟨fun h => ?_, by omega⟩
         rcases h with h | h
         · omega
         have := (hown _ h).1; omega
       have h9 := hDb q hq
       refine ⟨fun h => ?_, by omega⟩
       rcases h with h | h
       · omega
       have := (hown _ h).1; omega
     · intro q hq
       rcases hq with hq | hq | hq
       · exact (q1 q hq).imp id fun h => ⟨h.1, by omega, h.2.2⟩
       · exact .inl hq
       exact .inr ⟨by omega, by omega, fun h => by have := hIl q h; omega⟩
     · intro q hq
       obtain rfl : g7 = q := by simpa [Value.ownBlock] using hq
       rcases hG with h | h
       · obtain ⟨o1, o2, o3, o4⟩ := hown _ h
         exact ⟨o3, fun hh => by rcases hh with hh | hh | hh; exact o4 hh; (have := hDb _ hh; omega); omega⟩
       refine ⟨fun hh => by have := hIl _ hh; omega, fun hh => ?_⟩
       rcases hh with hh | hh | hh
       · rcases q1 _ hh with h9 | h9
         · have := hDb _ h9; omega
         have := h9.2.1; omega
       · have := hDb _ hh; omega
       omega
     · rw [HRS.out]
       refine (q4.old (fun q hq => ?_) (fun q hq => .inl hq)).push (hl5.old (fun q hq => ?_) (fun q hq => ?_))
       · have hql : q < W.heap.size ∧ q ≠ w2.heap.size := by
           rcases q1 q hq with h9 | h9
           · have := hDb q h9; omega
           omega
         refine hW.block q hql.1 (fun h => ?_)
         rcases h with h | h
         · exact hql.2 h
         exact (hown q h).2.2.2 hq
       · have hqx : q < Xw.heap.size ∧ q ≠ w2.heap.size ∧ (Value.slice sA j sc).ownBlock ≠ some q := by
           rcases hq with hq | hq
           · have h9 := hDb q hq
             exact ⟨by omega, by omega, fun h => by have := (hown q h).1; omega⟩
           exact ⟨hq.2, by have := hq.1; omega, fun h => by have := (hown q h).2.1; have := hq.1; omega⟩
         refine (ku.block q (by omega) (fun h => ?_)).trans (hu7.block q hqx.1 hqx.2.2)
         rcases h with h | h
         · rcases hG with h9 | h9
           · rw [← h] at h9; exact hqx.2.2 h9
           omega
         exact hqx.2.1 h
       · rcases hq with hq | hq
         · exact .inr (.inl hq)
         exact .inr (.inr hq)
     exact hu.trans' hW (fun q hq h => h.elim (fun h => by omega) (fun h => by have := (hown q h).1; omega))
    refine wpAny_of_held (S := fun _ => True) _ _ _ _ ?_
    have hS : True := trivial
    refine hT 11 (.pointer (some (Addr.add ⟨g7, 0, none⟩ (j * 8)))) rfl (by kernel_rfl) (by rfl) ?_ hS ?_
    · intro wx hx
      exact run_index_at 25 (.tmp 33) (.tmp 31) rfl _ ⟨g7, 0, none⟩ _ _ rfl rfl j rfl (by omega) 27 Try.underlying25 8 tm_size
    rw [hadd]
    try simp only [tl]
    refine hT 13 ?_ rfl (by kernel_rfl) (by rfl) ?_ hS ?_
    rotate_left
    · intro wx hx
      go_simp
      with_reducible rfl
    try simp only [tl]
    refine wpAnyH_last2 (i := 12) (j := 14) (by kernel_rfl) (by kernel_rfl) (by kernel_rfl) (by kernel_rfl) (by kernel_rfl) rfl rfl (fun _ => rfl) (fun _ => rfl) ?_ ?_
    · intro K hK
      refine owp_store_part 27 (.tmp 34) (.tmp 30) rfl g7 (j * 8) cs5 (by rfl) (by rfl) 27 cur7 new hb7 hsi5 (by omega) hs5c.2 HNEW.out ?_
      refine hK _ _ ?_
      intro K' hK'
      have hb9 : Blk (W7.setRow g7 new) w2.heap.size 27 #[Value.int .i64 k, .int .i64 0, .string ByteArray.empty, .int .i64 0, .int .i64 0, .slice none 0 0, .slice none 0 0, .slice sA j sc] := hb7t.rowFar (Ne.symm hg7t) _
      have c9 : (W7.setRow g7 new).cell? ⟨w2.heap.size, 7, none⟩ = some (.slice sA j sc) := hb9.cell 7
      have f9 := hb9.frozen 7
      have HB9 := Lib.hid hb9
      clear hb9
      go_simp
      refine hK' _ _ ?_
      exact fin _ (HB9.out.set 7 _) ((hb7.row _).far (p := ⟨w2.heap.size, 7, none⟩) (by exact hg7t) _) (((Upd.refl (fun q => q = g7 ∨ q = w2.heap.size) W7).setRow (.inl (.inl rfl)) _).setCell (p := ⟨w2.heap.size, 7, none⟩) (.inl (.inr rfl)) _)
    intro K hK
    have c9 : W7.cell? ⟨w2.heap.size, 7, none⟩ = some (.slice sA j sc) := hb7t.cell 7
    have f9 := hb7t.frozen 7
    have HB9 := Lib.hid hb7t
    go_simp
    refine hK _ _ ?_
    intro K' hK'
    refine owp_store_part 27 (.tmp 34) (.tmp 30) rfl g7 (j * 8) cs5 (by rfl) (by rfl) 27 cur7 new (hb7.far (p := ⟨w2.heap.size, 7, none⟩) (by exact hg7t) _) hsi5 (by omega) hs5c.2 HNEW.out ?_
    refine hK' _ _ ?_
    exact fin _ ((HB9.out.set 7 _).rowFar (Ne.symm hg7t) _) ((hb7.far (p := ⟨w2.heap.size, 7, none⟩) (by exact hg7t) _).row _) (((Upd.refl (fun q => q = g7 ∨ q = w2.heap.size) W7).setCell (p := ⟨w2.heap.size, 7, none⟩) (.inl (.inr rfl)) _).setRow (.inl (.inl rfl)) _)
   case done =>
    rintro dd I W ⟨sv, h7, hmc, hu, hI⟩ hdd hle hkd _ _
    rw [hxl] at hmc
    have r7 := h7.rowAt
    have husz := hu.size
    have x6 : Blk W (w.heap.size + 1 + 1 + 1) 27 #[.int .i64 0, .int .i64 0, .string ByteArray.empty, .int .i64 0, .int .i64 0, .slice none 0 0, .slice none 0 0, .slice none 0 0] := ((B3.out.upd hu2 (fun f => f)).upd hu25 (fun f => f)).upd hu (fun h => by omega)
    rw [ht7] at r7
    have hone : #[Value.int .i64 k, .int .i64 0, .string ByteArray.empty, .int .i64 0, .int .i64 0, .slice none 0 0, .slice none 0 0, sv].all (·.oneCell') = true := by obtain ⟨A9, c9, rfl, _⟩ := hmc.form; simp [Value.oneCell']
    gi_wp2_with (first
     | ((with_reducible refine this_opIn (.load 27 (.tmp 7)) ?_); refine wpListIn_at .out rfl 27 (.tmp 7) rfl ⟨w2.heap.size, 0, none⟩ rfl _ _ r7 Try.underlying27 rfl tm_size ?_)
     | ((with_reducible refine this_opIn (.store 27 (.tmp 6) (.tmp 36)) ?_); refine wpListIn_store_blk .out rfl 27 (.tmp 6) (.tmp 36) rfl rfl (w.heap.size + 1 + 1 + 1) #[Value.int .i64 k, .int .i64 0, .string ByteArray.empty, .int .i64 0, .int .i64 0, .slice none 0 0, .slice none 0 0, sv] rfl rfl 27 _ x6 tm_size rfl hone ?_))
    have hkk : (W.setRow (w.heap.size + 1 + 1 + 1) #[Value.int .i64 k, .int .i64 0, .string ByteArray.empty, .int .i64 0, .int .i64 0, .slice none 0 0, .slice none 0 0, sv]).heap[dd]? = some (.deferred (some [])) := (setRow_other _ _ _ _ (by omega)).trans hkd
    refine ⟨by simp, .inl ⟨_, _, rfl, run_takeDeferred hkk, ?_⟩⟩
    have hfin : Upd (fun q => q = w.heap.size + 1 + 1 + 1 ∨ q = dd) W ((W.setRow (w.heap.size + 1 + 1 + 1) #[Value.int .i64 k, .int .i64 0, .string ByteArray.empty, .int .i64 0, .int .i64 0, .slice none 0 0, .slice none 0 0, sv]).putObj dd (.deferred none)) :=
     ((Upd.refl (fun q => q = w.heap.size + 1 + 1 + 1 ∨ q = dd) W).setRow (.inl (.inl rfl)) _).putObj (.inl (.inr rfl)) _
    have hc9 : Blk ((W.setRow (w.heap.size + 1 + 1 + 1) #[Value.int .i64 k, .int .i64 0, .string ByteArray.empty, .int .i64 0, .int .i64 0, .slice none 0 0, .slice none 0 0, sv]).putObj dd (.deferred none)) (w.heap.size + 1 + 1 + 1) 27 #[Value.int .i64 k, .int .i64 0, .string ByteArray.empty, .int .i64 0, .int .i64 0, .slice none 0 0, .slice none 0 0, sv] :=
     (World.putObj_heap_other (by show w.heap.size + 1 + 1 + 1 ≠ dd; omega)).trans (x6.row _)
    have hfs := hfin.size
    refine ⟨.agg #[Value.int .i64 k, .int .i64 0, .string ByteArray.empty, .int .i64 0, .int .i64 0, .slice none 0 0, .slice none 0 0, sv], results_cell_row rfl _ _ (w.heap.size + 1 + 1 + 1) 27 #[Value.int .i64 k, .int .i64 0, .string ByteArray.empty, .int .i64 0, .int .i64 0, .slice none 0 0, .slice none 0 0, sv] (0, 0) _ rfl hc9 Try.underlying27 rfl tm_size, _, rfl, ?_, ((huw5.trans' hu (fun q hq h => by omega)).trans' hfin (fun q hq h => by omega)).below⟩
    rw [HRES.out]
    have hmc9 := hmc.upd (I' := I) hfin (fun q hq => ?_) (fun q hq => ⟨by have := hDb q hq; omega, fun hh => by have := hI _ hh; have := hDb q hq; omega⟩) (by omega) (fun q hq => .inl hq)
    · have hDD : ∀ q, D q ∨ (base ≤ q ∧ q < ((W.setRow (w.heap.size + 1 + 1 + 1) #[Value.int .i64 k, .int .i64 0, .string ByteArray.empty, .int .i64 0, .int .i64 0, .slice none 0 0, .slice none 0 0, sv]).putObj dd (.deferred none)).heap.size) → grow D w ((W.setRow (w.heap.size + 1 + 1 + 1) #[Value.int .i64 k, .int .i64 0, .string ByteArray.empty, .int .i64 0, .int .i64 0, .slice none 0 0, .slice none 0 0, sv]).putObj dd (.deferred none)) q := fun q hq => by
        rcases hq with hq | ⟨hq, hq'⟩
        · exact .inl hq
        exact .inr ⟨by omega, hq'⟩
      obtain ⟨A9, c9, rfl, hcp9, hat⟩ := hmc9.tms hDD
      have hlen := rb_len F k ks i N hNk
      simp only [TmIs]
      exact ⟨_, _, _, none, 0, _, _, rfl, hk, by unfold InI; omega, by simp, lzero_is _ _, ⟨by simp, Nat.zero_le _⟩, by simp only [LvsAt], ⟨by rw [hlen]; omega, hcp9⟩, hat⟩
    · rcases hq with hq | hq
      · right; subst hq; refine ⟨by omega, fun hd => by have := hB _ hd; omega⟩
      left; rw [hq]; exact hdd
theorem own1_visit (D : Nat → Prop) : RVisit Try.prog 131 #[] D (fun _ => True) (fun t _ => tnode t) where
 enter := fun _ _ => by go_simp
 keep := fun _ _ _ _ => trivial
 call := by
  intro t cs i w _ hl _ hD _ _
  have hz := tm_zero
  have hs := hl.oneCell
  have hsi : (Try.prog.info? 27).map (·.size) = some cs.size := by rw [hs.1]; exact tm_size
  obtain ⟨W1, hW1⟩ : ∃ W1, (w.alloc (.cells cs 27)).alloc (.cells #[.int .i64 0, .int .i64 0, .string ByteArray.empty, .int .i64 0, .int .i64 0, .slice none 0 0, .slice none 0 0, .slice none 0 0] 27) = W1 := ⟨_, rfl⟩
  have huW1 : Upd nob w W1 := by rw [← hW1]; exact ((Upd.refl nob w).alloc _).alloc _
  have hsW1 : W1.heap.size = w.heap.size + 2 := by rw [← hW1]; simp
  have b0 : Blk W1 (w.heap.size) 27 cs := by
   rw [← hW1]
   have h := Blk.new (w) 27 cs
   exact h.alloc _
  have b1 : Blk W1 (w.heap.size + 1) 27 #[.int .i64 0, .int .i64 0, .string ByteArray.empty, .int .i64 0, .int .i64 0, .slice none 0 0, .slice none 0 0, .slice none 0 0] := by
   rw [← hW1]
   have h := Blk.new (w.alloc (.cells cs 27)) 27 #[.int .i64 0, .int .i64 0, .string ByteArray.empty, .int .i64 0, .int .i64 0, .slice none 0 0, .slice none 0 0, .slice none 0 0]
   rw [World.size_alloc] at h
   exact h
  have HW1 := Lib.hid hW1
  have r0 := b0.rowAt
  have hp := tnode_any t cs D W1 (hD.up huW1) (hl.old (hD.old huW1) (fun _ h => h))
  clear hW1 b0
  show Calls Try.prog 131 #[.agg cs, .int .i64 i] w _
  go_enter Try.func131, Try.ntmps131
  rw [← HW1.out] at r0
  go_wp2_with (first
          | ((with_reducible refine this_op (.load 27 (.tmp 2)) ?_); refine wpList_at rfl 27 (.tmp 2) rfl ⟨w.heap.size, 0, none⟩ rfl _ _ r0 Try.underlying27 rfl hsi ?_))
  rw [HW1.out]
  refine hp.mono ?_
  rintro e w2 ⟨cs2, rfl, hl2, hb2⟩
  have hu2 : Upd nob W1 w2 := Upd.of_below hb2
  have C1 := b1.upd hu2 (fun f => f)
  have hs2 := hl2.oneCell
  have hsi2 : (Try.prog.info? 27).map (·.size) = some cs2.size := by rw [hs2.1]; exact tm_size
  go_wp2_with (first
          | ((with_reducible refine this_op (.store 27 (.tmp 4) (.tmp 6)) ?_); refine wpList_store_row rfl 27 (.tmp 4) (.tmp 6) rfl (w.heap.size + 1) _ rfl rfl 27 _ C1 hsi2 (by rw [hs2.1]; rfl) hs2.2 ?_))
  refine bodyPost_ret (results_cell_row rfl _ _ (w.heap.size + 1) 27 cs2 (0, 0) _ rfl (C1.row _) Try.underlying27 rfl hsi2) rfl ?_
  have hfin : Upd (fun q => q = w.heap.size + 1) w2 (w2.setRow (w.heap.size + 1) cs2) := (Upd.refl (fun q => q = w.heap.size + 1) w2).setRow (.inl rfl) _
  have hs9 : (w2.setRow (w.heap.size + 1) cs2).heap.size = w2.heap.size := by simp
  have hs3 := hu2.size
  refine ⟨cs2, rfl, hl2.old (Old.of_upd hfin fun q hq => ?_) (fun q hq => ?_), ((huW1.trans hu2).trans' hfin (fun q hq h => by omega)).below⟩
  · rcases hq with hq | hq
    · have := hD q hq; exact ⟨by omega, by omega⟩
    exact ⟨by omega, hq.2⟩
  rcases hq with hq | hq
  · exact .inl hq
  exact .inr ⟨by omega, by omega⟩
end Go.Proofs.Ytiampoebdmflgaa
/- term.own, Var, Const. -/
namespace Go.Proofs.Ytiampoebdmflgaa
open Go.RowKit
set_option linter.unusedVariables false
set_option maxRecDepth 100000
set_option maxHeartbeats 4000000
set_option linter.unusedSimpArgs false
def town (t : Tm) : Tm := if tgreat t = true then t else treb (fun t _ => tnode t) t 0
theorem res_tm {D : Nat → Prop} {w W1 w2 : World} {t : Tm} {cs : Array Value} {g : Nat} (hD : Within D w) (h1 : Upd nob w W1) (h2 : Upd nob W1 w2) (hg : w.heap.size ≤ g) (hg2 : g < W1.heap.size) (hl : TmIs (grow D W1 w2) w2 t cs) :
    TmIs (grow D w (w2.setRow g cs)) (w2.setRow g cs) t cs ∧ Below w.heap.size w (w2.setRow g cs) := by
 have hfin : Upd (fun q => q = g) w2 (w2.setRow g cs) := (Upd.refl (fun q => q = g) w2).setRow (.inl rfl) _
 have hs9 : (w2.setRow g cs).heap.size = w2.heap.size := by simp
 have hs3 := h2.size
 have hs1 := h1.size
 refine ⟨hl.old (Old.of_upd hfin fun q hq => ?_) (fun q hq => ?_), ((h1.trans h2).trans' hfin (fun q hq h => by omega)).below⟩
 · rcases hq with hq | hq
   · have := hD q hq; exact ⟨by omega, by omega⟩
   have := hq.1; exact ⟨by omega, hq.2⟩
 rcases hq with hq | hq
 · exact .inl hq
 have := hq.1; have := hq.2; exact .inr ⟨by omega, by omega⟩
theorem town_any (t : Tm) (cs : Array Value) (D : Nat → Prop) (w : World) (hD : Within D w) (hl : TmIs D w t cs) :
    Calls Try.prog 110 #[.agg cs] w fun e w' => ∃ cs', e = .returned (.agg cs') ∧ TmIs (grow D w w') w' (town t) cs' ∧ Below w.heap.size w w' := by
 have hz := tm_zero
 have hs := hl.oneCell
 have hsi : (Try.prog.info? 27).map (·.size) = some cs.size := by rw [hs.1]; exact tm_size
 obtain ⟨X, hX⟩ : ∃ X, town t = X := ⟨_, rfl⟩
 rw [hX]
 have HX := Lib.hid hX; clear hX
 obtain ⟨W1, hW1⟩ : ∃ W1, (w.alloc (.cells cs 27)).alloc (.cells #[.int .i64 0, .int .i64 0, .string ByteArray.empty, .int .i64 0, .int .i64 0, .slice none 0 0, .slice none 0 0, .slice none 0 0] 27) = W1 := ⟨_, rfl⟩
 have huW1 : Upd nob w W1 := by rw [← hW1]; exact ((Upd.refl nob w).alloc _).alloc _
 have hsW1 : W1.heap.size = w.heap.size + 2 := by rw [← hW1]; simp
 have b0 : Blk W1 (w.heap.size) 27 cs := by
  rw [← hW1]
  have h := Blk.new (w) 27 cs
  exact h.alloc _
 have b1 : Blk W1 (w.heap.size + 1) 27 #[.int .i64 0, .int .i64 0, .string ByteArray.empty, .int .i64 0, .int .i64 0, .slice none 0 0, .slice none 0 0, .slice none 0 0] := by
  rw [← hW1]
  have h := Blk.new (w.alloc (.cells cs 27)) 27 #[.int .i64 0, .int .i64 0, .string ByteArray.empty, .int .i64 0, .int .i64 0, .slice none 0 0, .slice none 0 0, .slice none 0 0]
  rw [World.size_alloc] at h
  exact h
 have HW1 := Lib.hid hW1
 have r0 := b0.rowAt
 have B0 := Lib.hid b0
 have B1 := Lib.hid b1
 have hl1 := hl.old (hD.old huW1) (fun _ h => h)
 have hD1 := hD.up huW1
 clear hW1 b0 b1
 go_enter Try.func110, Try.ntmps110
 rw [← HW1.out] at r0
 go_wp2_with (first
       | ((with_reducible refine this_op (.load 27 (.tmp 1)) ?_); refine wpList_at rfl 27 (.tmp 1) rfl ⟨w.heap.size, 0, none⟩ rfl _ _ r0 Try.underlying27 rfl hsi ?_))
 rw [HW1.out]
 refine (tgreat_any t cs D W1 hD1 hl1).mono ?_
 rintro e w2 ⟨rfl, hb2⟩
 have hu2 : Upd nob W1 w2 := Upd.of_below hb2
 have r2 := (B0.out.upd hu2 (fun f => f)).rowAt
 have C1 := B1.out.upd hu2 (fun f => f)
 have hl2 := hl1.old (hD1.old hu2) (fun _ h => h)
 clear r0
 cases hg : tgreat t with
 | true =>
  have HG := Lib.hid hg; clear hg
  go_wp2_with (first
          | ((with_reducible refine this_op (.load 27 (.tmp 1)) ?_); refine wpList_at rfl 27 (.tmp 1) rfl ⟨w.heap.size, 0, none⟩ rfl _ _ r2 Try.underlying27 rfl hsi ?_)
          | ((with_reducible refine this_op (.store 27 (.tmp 2) (.tmp 5)) ?_); refine wpList_store_row rfl 27 (.tmp 2) (.tmp 5) rfl (w.heap.size + 1) _ rfl rfl 27 _ C1 hsi (by rw [hs.1]; rfl) hs.2 ?_))
  refine bodyPost_ret (results_cell_row rfl _ _ (w.heap.size + 1) 27 cs (0, 0) _ rfl (C1.row _) Try.underlying27 rfl hsi) rfl ?_
  have hx : X = t := by rw [← HX.out, town, if_pos HG.out]
  rw [hx]
  exact ⟨cs, rfl, res_tm hD huW1 hu2 (by omega) (by omega) (hl2.old (Old.refl _ _) (fun _ h => .inl h))⟩
 | false =>
  have HG := Lib.hid hg; clear hg
  go_wp2_with (first
          | ((with_reducible refine this_op (.load 27 (.tmp 1)) ?_); refine wpList_at rfl 27 (.tmp 1) rfl ⟨w.heap.size, 0, none⟩ rfl _ _ r2 Try.underlying27 rfl hsi ?_))
  refine (treb_any (own1_visit D) t cs 0 w2 hl2 trivial (hD1.up hu2) (by omega) (by have := great_vh HG.out; omega)).mono ?_
  rintro e w3 ⟨cs3, rfl, hl3, hb3⟩
  have hu3 : Upd nob w2 w3 := Upd.of_below hb3
  have hs3 := hl3.oneCell
  have hsi3 : (Try.prog.info? 27).map (·.size) = some cs3.size := by rw [hs3.1]; exact tm_size
  have C3 := C1.upd hu3 (fun f => f)
  clear C1 r2
  go_wp2_with (first
          | ((with_reducible refine this_op (.store 27 (.tmp 2) (.tmp 7)) ?_); refine wpList_store_row rfl 27 (.tmp 2) (.tmp 7) rfl (w.heap.size + 1) _ rfl rfl 27 _ C3 hsi3 (by rw [hs3.1]; rfl) hs3.2 ?_))
  refine bodyPost_ret (results_cell_row rfl _ _ (w.heap.size + 1) 27 cs3 (0, 0) _ rfl (C3.row _) Try.underlying27 rfl hsi3) rfl ?_
  have hx : X = treb (fun t _ => tnode t) t 0 := by rw [← HX.out, town, if_neg (by rw [HG.out]; decide)]
  rw [hx]
  have hsz2 := hu2.size
  exact ⟨cs3, rfl, res_tm hD (huW1.trans hu2) hu3 (by omega) (by omega) hl3⟩
theorem tvar_any (n : Int) (hn : InI n) (w : World) : Calls Try.prog 83 #[.int .i64 n] w fun e w' => ∃ cs', e = .returned (.agg cs') ∧ TmIs nob w' (.mk 1 n ByteArray.empty lzero' [] []) cs' ∧ Below w.heap.size w w' := by
 have hz := tm_zero
 go_enter Try.func83, Try.ntmps83
 go_wp2
 refine bodyPost_ret (results_cell_row rfl _ _ w.heap.size 27 #[.int .i64 1, .int .i64 n, .string ByteArray.empty, .int .i64 0, .int .i64 0, .slice none 0 0, .slice none 0 0, .slice none 0 0] (0, 0) _ rfl (Blk.new _ _ _) Try.underlying27 rfl tm_size) rfl ?_
 refine ⟨_, rfl, TmIs.short _ _ (by unfold InI; omega) hn, ?_⟩
 exact ((Upd.refl nob w).alloc _).below
theorem tconst_any (nm : ByteArray) (hnm : nm.size ≤ 140737488351232) (ls : List Lv) (A : Option Addr) (c : Nat) (D : Nat → Prop) (w : World) (hD : Within D w) (hlen : ls.length * 40 ≤ 140737488351232 ∧ ls.length ≤ c) (hls : LvsAt D w ls A 0) :
    Calls Try.prog 57 #[.string nm, .slice A ls.length c] w fun e w' => ∃ cs', e = .returned (.agg cs') ∧ TmIs (grow D w w') w' (.mk 7 0 nm lzero' (ls.map lown) []) cs' ∧ Below w.heap.size w w' := by
 have hz := tm_zero
 have hX : tnode (.mk 7 0 nm lzero' ls []) = .mk 7 0 nm lzero' (ls.map lown) [] := by simp [tnode, Tm.k, Tm.nm, Tm.ls]
 obtain ⟨X, hX2⟩ : ∃ X, Tm.mk 7 0 nm lzero' (ls.map lown) [] = X := ⟨_, rfl⟩
 rw [hX2] at hX ⊢
 obtain ⟨W1, hW1⟩ : ∃ W1, w.alloc (.cells #[.int .i64 0, .int .i64 0, .string ByteArray.empty, .int .i64 0, .int .i64 0, .slice none 0 0, .slice none 0 0, .slice none 0 0] 27) = W1 := ⟨_, rfl⟩
 have huW1 : Upd nob w W1 := by rw [← hW1]; exact (Upd.refl nob w).alloc _
 have hsW1 : W1.heap.size = w.heap.size + 1 := by rw [← hW1]; simp
 have b0 : Blk W1 (w.heap.size) 27 #[.int .i64 0, .int .i64 0, .string ByteArray.empty, .int .i64 0, .int .i64 0, .slice none 0 0, .slice none 0 0, .slice none 0 0] := by
  rw [← hW1]
  have h := Blk.new (w) 27 #[.int .i64 0, .int .i64 0, .string ByteArray.empty, .int .i64 0, .int .i64 0, .slice none 0 0, .slice none 0 0, .slice none 0 0]
  exact h
 have hl : TmIs D W1 (.mk 7 0 nm lzero' ls []) #[.int .i64 7, .int .i64 0, .string nm, .int .i64 0, .int .i64 0, .slice none 0 0, .slice A ls.length c, .slice none 0 0] := by
  simp only [TmIs]
  exact ⟨_, _, _, _, _, none, 0, rfl, by unfold InI; omega, by unfold InI; omega, hnm, lzero_is _ _, hlen, hls.old (hD.old huW1) (fun _ h => h), ⟨by simp, Nat.zero_le _⟩, by simp only [TmsAt]⟩
 have hp := tnode_any _ _ D W1 (hD.up huW1) hl
 rw [hX] at hp
 have HW1 := Lib.hid hW1
 have HX := Lib.hid hX2
 clear hX hX2 hW1 hl
 go_enter Try.func57, Try.ntmps57
 go_wp2_with fail
 rw [HW1.out]
 refine hp.mono ?_
 rintro e w2 ⟨cs2, rfl, hl2, hb2⟩
 have hu2 : Upd nob W1 w2 := Upd.of_below hb2
 have C1 := b0.upd hu2 (fun f => f)
 have hs2 := hl2.oneCell
 have hsi2 : (Try.prog.info? 27).map (·.size) = some cs2.size := by rw [hs2.1]; exact tm_size
 clear b0
 go_wp2_with (first
       | ((with_reducible refine this_op (.store 27 (.tmp 4) (.tmp 8)) ?_); refine wpList_store_row rfl 27 (.tmp 4) (.tmp 8) rfl w.heap.size _ rfl rfl 27 _ C1 hsi2 (by rw [hs2.1]; rfl) hs2.2 ?_))
 refine bodyPost_ret (results_cell_row rfl _ _ w.heap.size 27 cs2 (0, 0) _ rfl (C1.row _) Try.underlying27 rfl hsi2) rfl ?_
 exact ⟨cs2, rfl, res_tm hD huW1 hu2 (Nat.le_refl _) (by omega) hl2⟩
end Go.Proofs.Ytiampoebdmflgaa
/- slices.Reverse of a row of terms. -/
namespace Go.Proofs.Ytiampoebdmflgaa
open Go.RowKit
set_option linter.unusedVariables false
set_option maxRecDepth 100000
set_option maxHeartbeats 4000000
set_option linter.unusedSimpArgs false
theorem wpAnyE_of_any {P : Program} {md : Region.Mode} {ops : Array Oper} {Q : Exit → Act → World → Prop} {z : Nat} : ∀ {fuel : Nat} {listed : Array Bool} {a : Act} {w : World}, wpAny P md ops Q fuel listed a w → wpAnyE P md ops Q (fun _ => True) z fuel listed a w
 | 0, _, _, _, h => h
 | fuel + 1, _, _, _, h => ⟨h.1, fun i hi => wpOp_mono (fun a' w' h' => ⟨fun _ => ⟨trivial, wpAnyE_of_any h'⟩, fun _ => h'⟩) (h.2 i hi)⟩
theorem owp_run {P : Program} {o : Oper} {a : Act} {w : World} {K : Act → World → Prop} {Q : Exit → Act → World → Prop} {v : Value} (hr : (execOp a.eval o).run P w = .ok (.value v) w) (h : K (a.put o.dst v) w) : o.wp P a w K Q := by
 unfold Oper.wp; rw [hr]; exact h
theorem add_at (g k : Nat) : Addr.add ⟨g, 0, none⟩ k = ⟨g, k, none⟩ := by unfold Addr.add; split <;> simp_all
theorem cat_set : ∀ (rows : List (Array Value)) (n : Nat), (∀ r ∈ rows, r.size = n) → ∀ (i : Nat) (_ : i < rows.length) (r' : Array Value), r'.size = n → cat (rows.set i r') = (cat rows).take (i * n) ++ r'.toList ++ (cat rows).drop (i * n + n)
 | [], _, _, _, hi, _, _ => absurd hi (by simp)
 | r :: rows, n, hs, 0, _, r', hr' => by
  have h1 : r.toList.length = n := by simpa using hs r (by simp)
  simp only [List.set_cons_zero, cat, List.flatMap_cons, Nat.zero_mul, List.take_zero, List.nil_append, Nat.zero_add]
  rw [List.drop_left' h1]
 | r :: rows, n, hs, i + 1, hi, r', hr' => by
  have h1 : r.toList.length = n := by simpa using hs r (by simp)
  have h2 := cat_set rows n (fun q hq => hs q (by simp [hq])) i (by simpa using hi) r' hr'
  have e : (i + 1) * n = n + i * n := by rw [Nat.succ_mul]; omega
  simp only [List.set_cons_succ, cat, List.flatMap_cons] at h2 ⊢
  obtain ⟨X, hX⟩ : ∃ X, List.flatMap (fun x : Array Value => x.toList) rows = X := ⟨_, rfl⟩
  rw [hX] at h2 ⊢
  have e3 : (r.toList ++ X).take (n + i * n) = r.toList ++ X.take (i * n) := by
   rw [List.take_append, List.take_of_length_le (by omega), h1, Nat.add_sub_cancel_left]
  have e4 : (r.toList ++ X).drop (n + i * n + n) = X.drop (i * n + n) := by
   rw [List.drop_append, List.drop_eq_nil_of_le (by omega), h1, List.nil_append]; congr 1; omega
  rw [h2, e, e3, e4]
  simp [List.append_assoc]
theorem Rows.setAt {w : World} {base : Nat} {e : TypeId} {n : Nat} {v : Value} {rows : List (Array Value)} (h : Rows w base e n v rows) {i : Nat} (hi : i < rows.length) :
    ∃ g cap cur, v = .slice (some ⟨g, 0, none⟩) rows.length cap ∧ Blk w g e cur ∧ base ≤ g ∧ i * n + n ≤ cur.size ∧
     ∀ r' : Array Value, r'.size = n → ∀ w', Blk w' g e (cur.toList.take (i * n) ++ r'.toList ++ cur.toList.drop (i * n + r'.size)).toArray → Rows w' base e n v (rows.set i r') := by
 rcases h.own.2 with ⟨_, h0⟩ | ⟨g, cap, cur, hv, hb, hh, h1, h2, h3, h4⟩
 · omega
 have hlen := h.own.1
 have hle : rows.length * n ≤ cap * n := Nat.mul_le_mul_right _ h1
 have hin : i * n + n ≤ rows.length * n := by rw [← Nat.succ_mul]; exact Nat.mul_le_mul_right _ hi
 refine ⟨g, cap, cur, hv, hh, hb, by omega, fun r' hr' w' hb' => ?_⟩
 have hrl' : r'.toList.length = n := by simpa using hr'
 have hcs := cat_set rows n h.sz i hi r' hr'
 refine ⟨⟨?_, .inr ⟨g, cap, _, by rw [List.length_set]; exact hv, hb, hb', by rw [List.length_set]; exact h1, h2, ?_, ?_⟩⟩, ?_⟩
 · rw [hcs, List.length_set, List.length_append, List.length_append, List.length_take, List.length_drop, hrl', hlen]; omega
 · simp only [List.size_toArray, List.length_append, List.length_take, List.length_drop, Array.length_toList, hr']
   omega
 · rw [List.length_set, hcs]
   simp only []
   have hcl : cur.toList.length = cap * n := by simpa using h3
   have hXl : (cur.toList.take (i * n) ++ r'.toList).length = i * n + n := by rw [List.length_append, List.length_take, hrl', Nat.min_eq_left (by omega)]
   rw [← h4, List.take_take, Nat.min_eq_left (by omega), hr', List.drop_take, List.take_append, List.take_of_length_le (by omega), hXl]
 intro q hq
 rcases List.mem_or_eq_of_mem_set hq with hq | rfl
 · exact h.sz q hq
 exact hr'
def RevTo {α : Type} (rows : List α) (q : Nat) (L : List α) : Prop := L.length = rows.length ∧ ∀ i, i < rows.length → L[i]? = if i < q ∨ rows.length ≤ i + q then rows[rows.length - 1 - i]? else rows[i]?
theorem RevTo.zero {α : Type} (rows : List α) : RevTo rows 0 rows := ⟨rfl, fun i hi => by rw [if_neg (by omega)]⟩
theorem RevTo.step {α : Type} {rows L : List α} {q p : Nat} (h : RevTo rows q L) (hp : p = rows.length - 1 - q) (hq : q < p) (h1 : q < L.length) (h2 : p < L.length) : RevTo rows (q + 1) ((L.set q L[p]).set p L[q]) := by
 refine ⟨by simp [h.1], fun i hi => ?_⟩
 have hl := h.1
 have e1 := h.2 q (by omega)
 have e2 := h.2 p (by omega)
 rw [List.getElem?_eq_getElem h1, if_neg (by omega)] at e1
 rw [List.getElem?_eq_getElem h2, if_neg (by omega)] at e2
 rw [List.getElem?_set, List.getElem?_set]
 by_cases hi1 : p = i
 · rw [if_pos hi1, if_pos (by simp; omega), if_pos (by omega), e1]
   congr 1; omega
 rw [if_neg hi1]
 by_cases hi2 : q = i
 · rw [if_pos hi2, if_pos h1, if_pos (by omega), e2]
   congr 1; omega
 rw [if_neg hi2, h.2 i hi]
 by_cases h3 : i < q ∨ rows.length ≤ i + q
 · rw [if_pos h3, if_pos (by omega)]
 rw [if_neg h3, if_neg (by omega)]
theorem RevTo.end_ {α : Type} {rows L : List α} {q : Nat} (h : RevTo rows q L) (hq : rows.length ≤ 2 * q + 1) : L = rows.reverse := by
 apply List.ext_getElem?
 intro i
 rcases Nat.lt_or_ge i rows.length with hi | hi
 · rw [h.2 i hi, List.getElem?_reverse hi]
   split
   · rfl
   congr 1; omega
 rw [List.getElem?_eq_none (by rw [h.1]; exact hi), List.getElem?_eq_none (by simpa using hi)]
theorem trev_any (rows : List (Array Value)) (v : Value) (base : Nat) (w : World) (hr : Rows w base 27 8 v rows) (hone : ∀ r ∈ rows, r.all (·.oneCell') = true) (hlen : rows.length ≤ 140737488355328) :
    Calls Try.prog 111 #[v] w fun e w' => e = .returned (.tuple #[]) ∧ Rows w' base 27 8 v rows.reverse ∧ Upd (fun q => v.ownBlock = some q) w w' := by
 obtain ⟨A, c, rfl, hc⟩ := hr.form
 obtain ⟨m, hm⟩ : ∃ m, rows.length = m := ⟨_, rfl⟩
 rw [hm] at hr hc hlen ⊢
 have hsub : IntKind.i64.wrap ((m : Int) - 1) = (m : Int) - 1 := IntWalk.i64_in _ (by omega)
 have HM := Lib.hid hm; clear hm
 have HR := Lib.hid hr; clear hr
 go_enter Try.func111, Try.ntmps111
 go_wp2_with fail
 go_loopg [2, 3] m (fun k v2 v3 wr => ∃ (q : Nat) (L : List (Array Value)), q + k = m ∧ v2 = .int .i64 q ∧ v3 = .int .i64 ((m : Int) - 1 - q) ∧ Rows wr base 27 8 (.slice A m c) L ∧ RevTo rows q L ∧ (∀ r ∈ L, r.all (·.oneCell') = true) ∧ Upd (fun x => (Value.slice A m c).ownBlock = some x) w wr)
 case atStart => exact ⟨0, rows, by omega, rfl, by simp, HR.out, RevTo.zero _, hone, Upd.refl _ _⟩
 case round =>
  obtain ⟨q, L, hq, rfl, rfl, hL, hrev, honeL, hu⟩ := hrel
  have hLl : L.length = m := by rw [hrev.1, HM.out]
  by_cases hlt : 2 * q + 1 < m
  · obtain ⟨p, hp⟩ : ∃ p : Nat, (m : Int) - 1 - q = p := ⟨m - 1 - q, by omega⟩
    have hp2 : p = m - 1 - q := by omega
    rw [hp]
    have hqp : q < p := by omega
    have hpm : p < m := by omega
    have hqm : q < m := by omega
    have t1 : decide ((q : Int) < p) = true := by simp [hqp]
    obtain ⟨g, cap, hv, hrp⟩ := hL.at_ (j := p) (by omega)
    obtain ⟨g2, cap2, hv2, hrq⟩ := hL.at_ (j := q) (by omega)
    have hA : A = some ⟨g, 0, none⟩ := by injection hv
    have hA2 : A = some ⟨g2, 0, none⟩ := by injection hv2
    have hgg : g = g2 := by rw [hA] at hA2; simpa using hA2
    clear hv hv2 hA2
    subst hgg hA
    have hgl := (hL.lt (g := g) rfl).2
    have hsp0 : (L[p]'(by omega)).size = 8 := hL.sz _ (List.getElem_mem _)
    have hsq0 : (L[q]'(by omega)).size = 8 := hL.sz _ (List.getElem_mem _)
    have hop0 : (L[p]'(by omega)).all (·.oneCell') = true := honeL _ (List.getElem_mem _)
    have hoq0 : (L[q]'(by omega)).all (·.oneCell') = true := honeL _ (List.getElem_mem _)
    have hLp : L[p]? = some (L[p]'(by omega)) := List.getElem?_eq_getElem _
    have hLq : L[q]? = some (L[q]'(by omega)) := List.getElem?_eq_getElem _
    obtain ⟨rp, ep⟩ : ∃ r, L[p]'(by omega) = r := ⟨_, rfl⟩
    obtain ⟨rq, eq⟩ : ∃ r, L[q]'(by omega) = r := ⟨_, rfl⟩
    rw [ep] at hrp hsp0 hop0 hLp
    rw [eq] at hrq hsq0 hoq0 hLq
    clear ep eq
    have hsp : (Try.prog.info? 27).map (·.size) = some rp.size := by rw [hsp0]; exact tm_size
    have hsq : (Try.prog.info? 27).map (·.size) = some rq.size := by rw [hsq0]; exact tm_size
    have hi1 : IntKind.i64.wrap ((q : Int) + 1) = (q : Int) + 1 := IntWalk.i64_in _ (by omega)
    have hi2 : IntKind.i64.wrap ((p : Int) - 1) = (p : Int) - 1 := IntWalk.i64_in _ (by omega)
    have HL := Lib.hid hL
    have HP := Lib.hid hp
    have HP2 := Lib.hid hp2
    have HLL := Lib.hid hLl
    have HREV := Lib.hid hrev
    have HLP := Lib.hid hLp
    have HLQ := Lib.hid hLq
    clear hL hp hp2 hLl hrev hLp hLq
    go_wp2_with fail
    refine wp_region_P (by kernel_rfl) ?_
    refine wpAny_of_E (fun _ => True) 15 _ _ _ _ ?_
    have hS : True := trivial
    refine eT 2 ?_ [] rfl (by kernel_rfl) (by rfl) ?_ hS ?_
    rotate_left; · intro wx hx; clear hx; go_simp; with_reducible rfl
    try simp only [tl]
    refine eT 3 ?_ [] rfl (by kernel_rfl) (by rfl) ?_ hS ?_
    rotate_left; · intro wx hx; clear hx; go_simp; with_reducible rfl
    try simp only [tl]
    refine wpAnyE_of_any ?_
    clear hS
    refine wpAny_of_E (fun X : World => ∀ p : Addr, p.block < wr.heap.size → X.cell? p = wr.cell? p) 13 _ _ _ _ ?_
    have hS : ∀ p : Addr, p.block < wr.heap.size → wr.drew.cell? p = wr.cell? p := fun _ _ => rfl
    refine eT 0 ?_ [] rfl (by kernel_rfl) (by rfl) ?_ hS ?_
    rotate_left; · intro wx hx; clear hx; go_simp; with_reducible rfl
    try simp only [tl]
    refine eT 1 ?_ [] rfl (by kernel_rfl) (by rfl) ?_ hS ?_
    rotate_left; · intro wx hx; clear hx; go_simp; with_reducible rfl
    try simp only [tl]
    refine eT 4 ?_ [] rfl (by kernel_rfl) (by rfl) ?_ hS ?_
    rotate_left; · intro wx hx; clear hx; go_simp; with_reducible rfl
    try simp only [tl]
    refine eT 5 ?_ [] rfl (by kernel_rfl) (by rfl) ?_ hS ?_
    rotate_left; · intro wx hx; clear hx; go_simp; with_reducible rfl
    try simp only [tl]
    refine eT 6 (.pointer (some (Addr.add ⟨g, 0, none⟩ (p * 8)))) [] rfl (by kernel_rfl) (by rfl) ?_ hS ?_
    · intro wx hx
      exact run_index_at 25 (.tmp 18) (.tmp 19) rfl _ ⟨g, 0, none⟩ _ _ rfl rfl p rfl hpm 27 Try.underlying25 8 tm_size
    try simp only [tl]
    refine eT 7 (.agg rp) [] rfl (by kernel_rfl) (by rfl) ?_ hS ?_
    · intro wx hx
      exact run_load_at 27 (.tmp 20) rfl (Addr.add ⟨g, 0, none⟩ (p * 8)) rfl rp _ (row_on hrp (by rw [Addr_add_block]; exact hgl) hx) Try.underlying27 rfl hsp
    try simp only [tl]
    refine eT 8 ?_ [11, 10] rfl (by kernel_rfl) (by rfl) ?_ hS ?_
    rotate_left; · intro wx hx; clear hx; go_simp; with_reducible rfl
    try simp only [tl]
    refine eT 9 ?_ [11, 10] rfl (by kernel_rfl) (by rfl) ?_ hS ?_
    rotate_left; · intro wx hx; clear hx; go_simp; with_reducible rfl
    try simp only [tl]
    refine eT 10 (.pointer (some (Addr.add ⟨g, 0, none⟩ (q * 8)))) [11] rfl (by kernel_rfl) (by rfl) ?_ hS ?_
    · intro wx hx
      exact run_index_at 25 (.tmp 22) (.tmp 23) rfl _ ⟨g, 0, none⟩ _ _ rfl rfl q rfl hqm 27 Try.underlying25 8 tm_size
    try simp only [tl]
    refine eT 11 (.agg rq) [] rfl (by kernel_rfl) (by rfl) ?_ hS ?_
    · intro wx hx
      exact run_load_at 27 (.tmp 24) rfl (Addr.add ⟨g, 0, none⟩ (q * 8)) rfl rq _ (row_on hrq (by rw [Addr_add_block]; exact hgl) hx) Try.underlying27 rfl hsq
    try simp only [tl]
    refine eT 12 (.pointer (some (Addr.add ⟨g, 0, none⟩ (q * 8)))) [] rfl (by kernel_rfl) (by rfl) ?_ hS ?_
    · intro wx hx
      exact run_index_at 25 (.tmp 14) (.tmp 15) rfl _ ⟨g, 0, none⟩ _ _ rfl rfl q rfl hqm 27 Try.underlying25 8 tm_size
    try simp only [tl]
    have haddq : Addr.add ⟨g, 0, none⟩ (q * 8) = ⟨g, q * 8, none⟩ := add_at _ _
    have haddp : Addr.add ⟨g, 0, none⟩ (p * 8) = ⟨g, p * 8, none⟩ := add_at _ _
    rw [haddq, haddp]
    obtain ⟨ga, capa, cura, hva, hba, hga, hsza, hseta⟩ := HL.out.setAt (i := q) (by have := HLL.out; omega)
    obtain rfl : g = ga := by injection hva with h _ _; injection h with h; injection h
    clear hva
    obtain ⟨na, hna⟩ : ∃ na, na = (cura.toList.take (q * 8) ++ rp.toList ++ cura.toList.drop (q * 8 + rp.size)).toArray := ⟨_, rfl⟩
    have hr1 : Rows (wr.drew.setRow g na) base 27 8 (.slice (some ⟨g, 0, none⟩) m c) (L.set q rp) := hseta rp hsp0 _ (by rw [← hna]; exact (show Blk wr.drew g 27 cura from hba).row _)
    obtain ⟨gb, capb, curb, hvb, hbb, hgb, hszb, hsetb⟩ := hr1.setAt (i := p) (by rw [List.length_set]; have := HLL.out; omega)
    obtain rfl : g = gb := by injection hvb with h _ _; injection h with h; injection h
    clear hvb
    obtain ⟨nb, hnb⟩ : ∃ nb, nb = (curb.toList.take (p * 8) ++ rq.toList ++ curb.toList.drop (p * 8 + rq.size)).toArray := ⟨_, rfl⟩
    have hr2 : Rows ((wr.drew.setRow g na).setRow g nb) base 27 8 (.slice (some ⟨g, 0, none⟩) m c) ((L.set q rp).set p rq) := hsetb rq hsq0 _ (by rw [← hnb]; exact hbb.row _)
    have huF : Upd (fun x => (Value.slice (some ⟨g, 0, none⟩) m c).ownBlock = some x) wr ((wr.drew.setRow g na).setRow g nb) := ((Upd.refl (fun x => (Value.slice (some ⟨g, 0, none⟩) m c).ownBlock = some x) wr).drew.setRow (.inl rfl) _).setRow (.inl rfl) _
    have HNA := Lib.hid hna
    have HNB := Lib.hid hnb
    clear hna hnb
    refine wpAnyE_z (by kernel_rfl) rfl (by rfl) fun K hK => ?_
    refine owp_store_part 27 (.tmp 26) (.tmp 21) rfl g (q * 8) rp (by rfl) (by rfl) 27 cura na hba hsp (by omega) hop0 HNA.out ?_
    refine hK _ _ ?_
    clear hK K; try simp only [tl]
    refine wpAny_one (i := 14) (by kernel_rfl) rfl (by rfl) fun K hK => ?_
    refine owp_run (run_index_at 25 (.tmp 16) (.tmp 17) rfl _ ⟨g, 0, none⟩ _ _ rfl rfl p rfl hpm 27 Try.underlying25 8 tm_size) ?_
    rw [haddp]
    refine hK _ _ ?_
    clear hK K; try simp only [tl]
    refine wpAny_one (i := 15) (by kernel_rfl) rfl (by rfl) fun K hK => ?_
    refine owp_store_part 27 (.tmp 27) (.tmp 25) rfl g (p * 8) rq (by rfl) (by rfl) 27 curb nb hbb hsq (by omega) hoq0 HNB.out ?_
    refine hK _ _ ?_
    clear hK K; try simp only [tl]
    refine wpAny_done (by kernel_rfl) ?_ _
    refine NoPanic.normal ?_
    go_wp2_with fail
    go_roundg (gk - 1)
    case measure => omega
    case rel =>
     refine ⟨q + 1, (L.set q rp).set p rq, by omega, by simp, ?_, hr2, ?_, ?_, hu.trans huF⟩
     · have := HP2.out; congr 1; omega
     · have h1 := HLP.out
       have h2 := HLQ.out
       have hql : q < L.length := by have := HLL.out; omega
       have hpl : p < L.length := by have := HLL.out; omega
       have hst := HREV.out.step (p := p) (by have := HP2.out; have := HM.out; omega) hqp hql hpl
       rw [List.getElem?_eq_getElem hpl] at h1
       rw [List.getElem?_eq_getElem hql] at h2
       injection h1 with h1
       injection h2 with h2
       rw [h1, h2] at hst
       exact hst
     intro r hr
     rcases List.mem_or_eq_of_mem_set hr with hr | rfl
     · rcases List.mem_or_eq_of_mem_set hr with hr | rfl
       · exact honeL r hr
       exact hop0
     exact hoq0
  have t1 : decide ((q : Int) < (m : Int) - 1 - q) = false := by simp; omega
  have hend := hrev.end_ (by rw [HM.out]; omega)
  subst hend
  have HL := Lib.hid hL
  clear hL hrev hLl
  go_wp2_with fail
  refine bodyPost_end (results_none rfl _ _ _) rfl ?_
  exact ⟨rfl, HL.out, hu⟩
end Go.Proofs.Ytiampoebdmflgaa
/- term.Spine. -/
namespace Go.Proofs.Ytiampoebdmflgaa
open Go.RowKit
set_option linter.unusedVariables false
set_option maxRecDepth 100000
set_option maxHeartbeats 4000000
set_option linter.unusedSimpArgs false
def spineF : Nat → Tm → List Tm → Tm × List Tm
 | 0, t, acc => (t, acc)
 | n + 1, t, acc => if t.k = 6 ∧ t.leaf = false then (match t.ks with | f :: a :: _ => spineF n f (acc ++ [town a]) | _ => (t, acc)) else (t, acc)
theorem spineF_end {n : Nat} {t : Tm} {acc : List Tm} (h : ¬ (t.k = 6 ∧ t.leaf = false)) : spineF n t acc = (t, acc) := by
 cases n with
 | zero => rfl
 | succ n => rw [spineF, if_neg h]
theorem spineF_step {n : Nat} {t : Tm} {acc : List Tm} (h1 : t.k = 6) (h2 : t.leaf = false) (h3 : 1 < t.ks.length) : spineF (n + 1) t acc = spineF n (t.ks[0]'(by omega)) (acc ++ [town (t.ks[1]'h3)]) := by
 rw [spineF, if_pos ⟨h1, h2⟩]
 obtain ⟨k, nn, nm, lv, ls, ks⟩ := t
 simp only [Tm.ks] at h3 ⊢
 match ks, h3 with
 | f :: a :: r, _ => rfl
def tspine (t : Tm) : Tm × List Tm := if tgreat t = true then (t, []) else (town (spineF t.vh t []).1, (spineF t.vh t []).2.reverse)
theorem results_cell_tmp {P : Program} {fn : Func} {p q : Tmp} {ty : TypeId} (h : fn.results = #[.cell p ty, .tmp q]) (tmps : Array Value) (w : World) (g : Nat) (t : TypeId) (cs : Array Value) (fr : Nat × Nat) (d : TypeDesc) (v : Value)
    (hp : tmps.getD p undef = .pointer (some ⟨g, 0, none⟩)) (hq : tmps.getD q undef = v) (hg : w.heap[g]? = some (.cells cs t fr))
    (hu : P.underlying ty = some d) (hd : (match d with | .struct _ | .array _ _ => true | _ => false) = true) (hi : (P.info? ty).map (·.size) = some cs.size) :
    (results fn tmps).run P w = .ok (.tuple #[.agg cs, v]) w := by
 have hp' : tmps[p]?.getD undef = .pointer (some ⟨g, 0, none⟩) := by simpa using hp
 have hq' : tmps[q]?.getD undef = v := by simpa using hq
 simp [results, h, hp', hq', asAddr, run_loadVar_row w g t ty cs fr d hg hu hd hi]
theorem RRows.rev {α : Type} {n : Nat} {R : Reading α n} {D : Nat → Prop} {w : World} {ls : List α} {rows : List (Array Value)} (h : RRows R D w ls rows) : RRows R D w ls.reverse rows.reverse := by
 refine ⟨by simp [h.1], fun i l r h1 h2 => ?_⟩
 have hi : i < ls.length := by have := (List.getElem?_eq_some_iff.1 h1).1; simpa using this
 rw [List.getElem?_reverse hi] at h1
 rw [List.getElem?_reverse (by rw [h.1]; exact hi), h.1] at h2
 exact h.2 _ l r h1 h2
theorem RRows.one {α : Type} {n : Nat} {R : Reading α n} {D : Nat → Prop} {w : World} {ls : List α} {rows : List (Array Value)} (h : RRows R D w ls rows) : ∀ r ∈ rows, r.all (·.oneCell') = true := by
 intro r hr
 obtain ⟨i, hi, rfl⟩ := List.getElem_of_mem hr
 exact (R.cells (h.2 i _ _ (List.getElem?_eq_getElem (by rw [← h.1]; exact hi)) (List.getElem?_eq_getElem hi))).2
theorem tspine_any (t : Tm) (cs : Array Value) (D : Nat → Prop) (w : World) (hD : Within D w) (hl : TmIs D w t cs) :
    Calls Try.prog 82 #[.agg cs] w fun e w' => ∃ cs' A c, e = .returned (.tuple #[.agg cs', .slice A (tspine t).2.length c]) ∧ TmIs (grow D w w') w' (tspine t).1 cs' ∧
     ((tspine t).2.length * 120 ≤ 140737488351232 ∧ (tspine t).2.length ≤ c) ∧ TmsAt (grow D w w') w' (tspine t).2 A 0 ∧ Below w.heap.size w w' := by
 have hz := tm_zero
 have hs := hl.oneCell
 have hsi : (Try.prog.info? 27).map (·.size) = some cs.size := by rw [hs.1]; exact tm_size
 obtain ⟨⟨X1, X2⟩, hX⟩ : ∃ X, tspine t = X := ⟨_, rfl⟩
 rw [hX]
 have HX := Lib.hid hX; clear hX
 obtain ⟨W1, hW1⟩ : ∃ W1, (w.alloc (.cells cs 27)).alloc (.cells #[.int .i64 0, .int .i64 0, .string ByteArray.empty, .int .i64 0, .int .i64 0, .slice none 0 0, .slice none 0 0, .slice none 0 0] 27) = W1 := ⟨_, rfl⟩
 have huW1 : Upd nob w W1 := by rw [← hW1]; exact ((Upd.refl nob w).alloc _).alloc _
 have hsW1 : W1.heap.size = w.heap.size + 2 := by rw [← hW1]; simp
 have b0 : Blk W1 (w.heap.size) 27 cs := by
  rw [← hW1]
  have h := Blk.new (w) 27 cs
  exact h.alloc _
 have b1 : Blk W1 (w.heap.size + 1) 27 #[.int .i64 0, .int .i64 0, .string ByteArray.empty, .int .i64 0, .int .i64 0, .slice none 0 0, .slice none 0 0, .slice none 0 0] := by
  rw [← hW1]
  have h := Blk.new (w.alloc (.cells cs 27)) 27 #[.int .i64 0, .int .i64 0, .string ByteArray.empty, .int .i64 0, .int .i64 0, .slice none 0 0, .slice none 0 0, .slice none 0 0]
  rw [World.size_alloc] at h
  exact h
 have HW1 := Lib.hid hW1
 have r0 := b0.rowAt
 have B0 := Lib.hid b0
 have B1 := Lib.hid b1
 have hl1 := hl.old (hD.old huW1) (fun _ h => h)
 have hD1 := hD.up huW1
 clear hW1 b0 b1
 go_enter Try.func82, Try.ntmps82
 rw [← HW1.out] at r0
 go_wp2_with (first
       | ((with_reducible refine this_op (.load 27 (.tmp 1)) ?_); refine wpList_at rfl 27 (.tmp 1) rfl ⟨w.heap.size, 0, none⟩ rfl _ _ r0 Try.underlying27 rfl hsi ?_))
 rw [HW1.out]
 refine (tgreat_any t cs D W1 hD1 hl1).mono ?_
 rintro e w2 ⟨rfl, hb2⟩
 have hu2 : Upd nob W1 w2 := Upd.of_below hb2
 have C0 := B0.out.upd hu2 (fun f => f)
 have r2 := C0.rowAt
 have C1 := B1.out.upd hu2 (fun f => f)
 have hl2 := hl1.old (hD1.old hu2) (fun _ h => h)
 have hsz2 := hu2.size
 clear r0
 cases hg : tgreat t with
 | true =>
  have HG := Lib.hid hg; clear hg
  go_wp2_with (first
          | ((with_reducible refine this_op (.load 27 (.tmp 1)) ?_); refine wpList_at rfl 27 (.tmp 1) rfl ⟨w.heap.size, 0, none⟩ rfl _ _ r2 Try.underlying27 rfl hsi ?_)
          | ((with_reducible refine this_op (.store 27 (.tmp 2) (.tmp 7)) ?_); refine wpList_store_row rfl 27 (.tmp 2) (.tmp 7) rfl (w.heap.size + 1) _ rfl rfl 27 _ C1 hsi (by rw [hs.1]; rfl) hs.2 ?_))
  have hx : (X1, X2) = (t, []) := by rw [← HX.out, tspine, if_pos HG.out]
  injection hx with hx1 hx2
  subst hx1 hx2
  refine bodyPost_ret (results_cell_tmp rfl _ _ (w.heap.size + 1) 27 cs (0, 0) _ (.slice none 0 0) rfl rfl (C1.row _) Try.underlying27 rfl hsi) rfl ?_
  have h9 := res_tm (cs := cs) (g := w.heap.size + 1) hD huW1 hu2 (by omega) (by omega) (hl2.old (Old.refl _ _) (fun _ h => .inl h))
  exact ⟨cs, none, 0, rfl, h9.1, ⟨by simp, Nat.zero_le _⟩, by simp only [TmsAt], h9.2⟩
 | false =>
  have hvh := great_vh hg
  obtain ⟨⟨Y1, Y2⟩, hY⟩ : ∃ Y, spineF t.vh t [] = Y := ⟨_, rfl⟩
  have hx : (X1, X2) = (town Y1, Y2.reverse) := by rw [← HX.out, tspine, if_neg (by rw [hg]; decide), hY]
  injection hx with hx1 hx2
  subst hx1 hx2
  have HY := Lib.hid hY
  clear hY hg HX
  go_wp2_with fail
  go_loopg [4] t.vh (fun n v4 wr => ∃ cur ccs acc, Blk wr w.heap.size 27 ccs ∧ TmIs D wr cur ccs ∧ Coll tmR D (w.heap.size + 2) 27 wr v4 acc ∧ Blk wr (w.heap.size + 1) 27 #[.int .i64 0, .int .i64 0, .string ByteArray.empty, .int .i64 0, .int .i64 0, .slice none 0 0, .slice none 0 0, .slice none 0 0] ∧ spineF n cur acc = (Y1, Y2) ∧ cur.vh ≤ n ∧ acc.length + n ≤ 2000 ∧ Upd nob w wr ∧ w.heap.size + 2 ≤ wr.heap.size)
  case atStart => exact ⟨t, cs, [], C0, hl2, Coll.nil_, C1, HY.out, Nat.le_refl _, by simpa using hvh, huW1.trans hu2, by omega⟩
  case round =>
   clear r2 C0 C1 HY hl2 hsz2 hl1 hl hs hsi
   obtain ⟨cur, ccs, acc, c0, hcl, hco, c1, hsp, hcv, hacc, hu, hsz⟩ := hrel
   have hDr := hD.up hu
   have hED : ∀ x, D x → x < w.heap.size + 2 := fun x hx => by have := hD x hx; omega
   obtain ⟨sA, sc, rfl, hscp⟩ := hco.form
   obtain ⟨k, n, nm, lv, ls, ks⟩ := cur
   have hcl0 := Lib.hid hcl
   obtain ⟨x, y, z, A, c, A', c', rfl, hk, hn, hnm, hlv, hls1, hls, hks1, hks⟩ := hcl.lit
   simp only [Tm.k, Tm.n, Tm.nm, Tm.lv, Tm.ls, Tm.ks] at c0 hk hn hnm hlv hls1 hls hks1 hks hcl0
   clear hcl
   have q0 : wr.cell? ⟨w.heap.size, 0, none⟩ = some (.int .i64 k) := c0.cell 0
   have q7 : wr.cell? ⟨w.heap.size, 7, none⟩ = some (.slice A' ks.length c') := c0.cell 7
   have r0 := c0.rowAt
   have C0 := Lib.hid c0
   have C1 := Lib.hid c1
   have HSP := Lib.hid hsp
   have HCO := Lib.hid hco
   clear c0 c1 hsp hco
   by_cases hk6 : k = 6
   · subst hk6
     go_wp2_with (first
                 | ((with_reducible refine this_op (.load 27 (.tmp 1)) ?_); go_big_want; refine owp_load_at 27 (.tmp 1) rfl ⟨w.heap.size, 0, none⟩ rfl _ _ r0 Try.underlying27 rfl tm_size ?_))
     refine (tleaf_any (.mk 6 n nm lv ls ks) _ D wr hcl0.out).mono ?_
     rintro e w3 ⟨rfl, hb3⟩
     have hu3 : Upd nob wr w3 := Upd.of_below hb3
     have hs3 := hu3.size
     have c09 := C0.out.upd hu3 (fun f => f)
     have c19 := C1.out.upd hu3 (fun f => f)
     have hcl9 := hcl0.out.old (hDr.old hu3) (fun _ h => h)
     have hco9 := HCO.out.upd hu3 (fun _ f => f.elim) (fun x h => by have := hED x h; omega)
     have hu9 : Upd nob w w3 := hu.trans hu3
     clear HCO r0 q0 q7
     cases hlf : (Tm.mk 6 n nm lv ls ks).leaf with
     | true =>
      have hend := spineF_end (n := gk) (t := .mk 6 n nm lv ls ks) (acc := acc) (fun h => by rw [hlf] at h; cases h.2)
      rw [HSP.out] at hend
      injection hend with hy1 hy2
      subst hy1 hy2
      have r0 := c09.rowAt
      clear HSP hlf
      go_wp2_with fail
      obtain ⟨rows, hrw, hrr⟩ := hco9.rows
      refine (trev_any rows _ (w.heap.size + 2) w3 hrw hrr.one (by rw [hrr.1]; omega)).mono ?_
      rintro e w5 ⟨rfl, hrw5, hu5⟩
      have hnO : ∀ q, (Value.slice sA Y2.length sc).ownBlock = some q → w.heap.size + 2 ≤ q := fun q h => (hrw.lt h).1
      have hs5 := hu5.size
      have hco5 : Coll tmR D (w.heap.size + 2) 27 w5 (.slice sA Y2.length sc) Y2.reverse :=
       ⟨rows.reverse, hrw5, hrr.rev.old (fun q hq => hu5.block q (hq.1.elim (fun h => by have := hED q h; omega) (fun h => h.2)) hq.2) (fun q hq => ⟨hq.1.imp id (fun h => ⟨h.1, Nat.lt_of_lt_of_le h.2 hs5⟩), hq.2⟩)⟩
      have huw5 : Upd nob w w5 := hu9.trans' hu5 (fun q hq h => by have := hnO q h; omega)
      have r5 := (c09.upd hu5 (fun h => by have := hnO _ h; omega)).rowAt
      have c15 := c19.upd hu5 (fun h => by have := hnO _ h; omega)
      have hcl5 := hcl9.old (Old.of_upd hu5 fun q hq => ⟨fun h => by have := hnO q h; have := hED q hq; omega, (hD.up hu9) q hq⟩) (fun _ h => h)
      clear c09 c19 hcl9 r0
      go_wp2_with (first
                | ((with_reducible refine this_op (.load 27 (.tmp 1)) ?_); refine wpList_at rfl 27 (.tmp 1) rfl ⟨w.heap.size, 0, none⟩ rfl _ _ r5 Try.underlying27 rfl tm_size ?_))
      refine (town_any _ _ D w5 (hD.up huw5) hcl5).mono ?_
      rintro e w6 ⟨cs6, rfl, hl6, hb6⟩
      have hu6 : Upd nob w5 w6 := Upd.of_below hb6
      have C9 := c15.upd hu6 (fun f => f)
      have hs6 := hl6.oneCell
      have hsi6 : (Try.prog.info? 27).map (·.size) = some cs6.size := by rw [hs6.1]; exact tm_size
      have hco6 := hco5.upd hu6 (fun _ f => f.elim) (fun x h => by have := hED x h; omega)
      have hsz6 := hu6.size
      clear r5
      go_wp2_with (first
                | ((with_reducible refine this_op (.store 27 (.tmp 2) (.tmp 31)) ?_); refine wpList_store_row rfl 27 (.tmp 2) (.tmp 31) rfl (w.heap.size + 1) _ rfl rfl 27 _ C9 hsi6 (by rw [hs6.1]; rfl) hs6.2 ?_))
      have hfin : Upd (fun q => q = w.heap.size + 1) w6 (w6.setRow (w.heap.size + 1) cs6) := (Upd.refl (fun q => q = w.heap.size + 1) w6).setRow (.inl rfl) _
      refine bodyPost_ret (results_cell_tmp rfl _ _ (w.heap.size + 1) 27 cs6 (0, 0) _ (.slice sA Y2.length sc) rfl rfl (C9.row _) Try.underlying27 rfl hsi6) rfl ?_
      have h9 := res_tm (cs := cs6) (g := w.heap.size + 1) hD huw5 hu6 (by omega) (by omega) hl6
      have hco7 := hco6.upd hfin (fun x hx => ⟨by omega, fun h => by have := hD x h; omega⟩) (fun x h => by have := hED x h; omega)
      obtain ⟨A9, c9, hv9, hcap9, hat⟩ := hco7.tms (D := grow D w (w6.setRow (w.heap.size + 1) cs6)) (fun q hq => hq.elim .inl fun h => .inr ⟨by omega, h.2⟩)
      injection hv9 with z1 z2 z3
      subst z1 z3
      refine ⟨cs6, sA, sc, by simp only [List.length_reverse], h9.1, ⟨by simp only [List.length_reverse]; omega, hcap9⟩, hat, h9.2⟩
     | false =>
      have hkl : 1 < ks.length := by
       have h9 : (decide (tar 6 < 1) || decide ((ks.length : Int) < tar 6)) = false := hlf
       have h8 : tar 6 = 2 := by decide
       rw [h8] at h9
       simp at h9
       omega
      have HLF := Lib.hid hlf; clear hlf
      have q7 : w3.cell? ⟨w.heap.size, 7, none⟩ = some (.slice A' ks.length c') := c09.cell 7
      have hks3 := hks.old (hDr.old hu3) (fun _ h => h)
      obtain ⟨a1, cs1, hA1, hab1, hrow1, hl1⟩ := hks3.at_ (List.getElem?_eq_getElem hkl)
      obtain ⟨a2, cs2, hA2, hab2, hrow2, hl2⟩ := hks3.at_ (j := 0) (List.getElem?_eq_getElem (by omega))
      have haa : a1 = a2 := by rw [hA1] at hA2; simpa using hA2
      subst haa
      have hs1 := hl1.oneCell
      have hsi1 : (Try.prog.info? 27).map (·.size) = some cs1.size := by rw [hs1.1]; exact tm_size
      have HC0 := Lib.hid c09
      have HC1 := Lib.hid c19
      have HCO := Lib.hid hco9
      have HA1 := Lib.hid hA1
      clear c09 c19 hco9 hA1 hA2
      go_wp2_with (first
                    | ((with_reducible refine this_op (.indexAddr 25 (.tmp 18) (.const (.int .i64 1))) ?_); refine wpList_index_at rfl 25 (.tmp 18) (.const (.int .i64 1)) rfl _ a1 _ _ rfl HA1.out 1 rfl hkl 27 Try.underlying25 8 tm_size ?_)
                    | ((with_reducible refine this_op (.load 27 (.tmp 19)) ?_); refine wpList_at rfl 27 (.tmp 19) rfl (a1.add (1 * 8)) rfl _ _ hrow1 Try.underlying27 rfl hsi1 ?_))
      refine (town_any _ _ D w3 (hD.up hu9) hl1).mono ?_
      rintro e w4 ⟨cs4, rfl, hl4, hb4⟩
      have hu4 : Upd nob w3 w4 := Upd.of_below hb4
      have hs4 := hu4.size
      have hu5 : Upd nob w3 (w4.alloc (.cells cs4 27)) := hu4.alloc _
      have hnO : ∀ q, (Value.slice sA acc.length sc).ownBlock = some q → w.heap.size + 2 ≤ q ∧ q < w3.heap.size := fun q h => HCO.out.lt h
      have hc5 : Coll tmR D (w.heap.size + 2) 27 (w4.alloc (.cells cs4 27)) (.slice sA acc.length sc) acc := HCO.out.upd hu5 (fun _ f => f.elim) (fun x h => by have := hED x h; omega)
      have hin4 : Within (grow D w3 w4) w4 := fun x hx => hx.elim (fun h => by have := hED x h; omega) (fun h => h.2)
      have hl5 : tmR.is (grow D w3 w4) (w4.alloc (.cells cs4 27)) (town ks[1]) cs4 := hl4.old (hin4.old ((Upd.refl nob w4).alloc _)) (fun _ h => h)
      have hD5 : ∀ q, grow D w3 w4 q → cd D (w.heap.size + 2) (w4.alloc (.cells cs4 27)) (.slice sA acc.length sc) q := fun q hq => by
       rcases hq with hq | hq
       · exact ⟨.inl hq, fun h => by have := (hnO q h).1; have := hED q hq; omega⟩
       have h1 := hq.1
       have h2 := hq.2
       exact ⟨.inr ⟨by omega, by simp; omega⟩, fun h => by have := (hnO q h).2; omega⟩
      have hs40 := hl4.oneCell
      have hsi2 : (Try.prog.info? 27).map (·.size) = some cs2.size := by rw [hl2.oneCell.1]; exact tm_size
      have hone2 := hl2.oneCell
      have hk0 : 0 < ks.length := by omega
      have HC5 := Lib.hid hc5
      clear hc5 hrow1 q7
      go_wp2_with (first
                    | ((with_reducible refine this_op (.buildSlice 25 1 #[(0, .tmp 21)]) ?_); refine wpList_build1 rfl 25 27 (.tmp 21) rfl _ 8 120 Try.underlying25 tm_info (by decide) (by decide) cs4 rfl hs40.1 ?_)
                    | (at_builtin; refine wpList_collect rfl (.tmp 16) (.tmp 22) 25 rfl _ 120 Try.underlying25 tm_info (by kernel_rfl) (by decide) rfl HC5.out hED w4.heap.size cs4 rfl (Blk.new _ _ _) (town ks[1]) _ hl5 hD5 acc.length rfl (by omega) (by omega) (by simp; omega) ?_
                       intro sA6 sc6 w6 hc6 hu6 hat6
                       have hu7 : Upd (fun q => (Value.slice sA acc.length sc).ownBlock = some q) w3 w6 := (hu5.mono (fun _ f => f.elim)).trans hu6
                       have b6 := HC0.out.upd hu7 (fun h => by have := (hnO _ h).1; omega)
                       have e7 : w6.cell? ⟨w.heap.size, 7, none⟩ = some (.slice A' ks.length c') := b6.cell 7
                       have b61 := HC1.out.upd hu7 (fun h => by have := (hnO _ h).1; omega)
                       have ho6 : Old D w3 w6 := Old.of_upd hu7 fun q hq => ⟨fun h => by have := (hnO q h).1; have := hED q hq; omega, (hD.up hu9) q hq⟩
                       have hr2 := hrow2.old ho6 (by rw [Addr_add_block]; exact hab1)
                       have hl2' := hl2.old ho6 (fun _ h => h)
                       have HC6 := Lib.hid hc6
                       have HU7 := Lib.hid hu7
                       have HB6 := Lib.hid b6
                       have HB1 := Lib.hid b61
                       have HL2 := Lib.hid hl2'
                       clear hc6 hu6 hu7 b6 b61 hl2')
                    | ((with_reducible refine this_op (.indexAddr 25 (.tmp 25) (.const (.int .i64 0))) ?_); refine wpList_index_at rfl 25 (.tmp 25) (.const (.int .i64 0)) rfl _ a1 _ _ rfl HA1.out 0 rfl hk0 27 Try.underlying25 8 tm_size ?_)
                    | ((with_reducible refine this_op (.load 27 (.tmp 26)) ?_); refine wpList_at rfl 27 (.tmp 26) rfl (a1.add (0 * 8)) rfl _ _ hr2 Try.underlying27 rfl hsi2 ?_)
                    | ((with_reducible refine this_op (.store 27 (.tmp 1) (.tmp 27)) ?_); refine wpList_store_row rfl 27 (.tmp 1) (.tmp 27) rfl w.heap.size _ rfl rfl 27 _ HB6.out hsi2 (by rw [hone2.1]; rfl) hone2.2 ?_))
      have h8 : tar 6 = 2 := by decide
      have hnk : 0 < nk 6 ks.length := by unfold nk; rw [if_neg (by rw [h8]; omega), h8]; decide
      have hv0 := Tm.vh_kid (k := 6) (n := n) (nm := nm) (lv := lv) (ls := ls) 0 hk0 hnk
      obtain ⟨g', rfl⟩ : ∃ g', gk = g' + 1 := ⟨gk - 1, by omega⟩
      have hst := spineF_step (n := g') (t := .mk 6 n nm lv ls ks) (acc := acc) rfl HLF.out hkl
      go_roundg g'
      case measure => omega
      case rel =>
       have hfin : Upd (fun q => q = w.heap.size) w6 (w6.setRow w.heap.size cs2) := (Upd.refl (fun q => q = w.heap.size) w6).setRow (.inl rfl) _
       have hs7 := HU7.out.size
       refine ⟨ks[0]'hk0, cs2, acc ++ [town ks[1]], HB6.out.row _, HL2.out.old (Old.of_upd hfin fun q hq => ⟨fun h => by have := hD q hq; omega, by have := hED q hq; omega⟩) (fun _ h => h), ?_, HB1.out.rowFar (by omega) _, ?_, ?_, ?_, ?_, ?_⟩
       · exact HC6.out.upd hfin (fun q hq => ⟨by omega, fun h => by have := hD q h; omega⟩) (fun q h => by have := hED q h; omega)
       · exact hst.symm.trans HSP.out
       · omega
       · simp only [List.length_append, List.length_singleton]; omega
       · exact (hu9.trans' HU7.out (fun q hq h => by have := (hnO q h).1; omega)).trans' hfin (fun q hq h => by omega)
       have := hfin.size; omega
   have t1 : (k == 6) = false := by simpa using hk6
   have hend := spineF_end (n := gk) (t := .mk k n nm lv ls ks) (acc := acc) (fun h => hk6 h.1)
   rw [HSP.out] at hend
   injection hend with hy1 hy2
   subst hy1 hy2
   clear HSP hk6
   go_wp2_with (first
               | ((with_reducible refine this_op (.load 27 (.tmp 1)) ?_); go_big_want; refine owp_load_at 27 (.tmp 1) rfl ⟨w.heap.size, 0, none⟩ rfl _ _ r0 Try.underlying27 rfl tm_size ?_))
   have hco9 := HCO.out
   have hu9 := hu
   have c09 := C0.out
   have c19 := C1.out
   have hcl9 := hcl0.out
   clear HCO
   obtain ⟨rows, hrw, hrr⟩ := hco9.rows
   refine (trev_any rows _ (w.heap.size + 2) wr hrw hrr.one (by rw [hrr.1]; omega)).mono ?_
   rintro e w5 ⟨rfl, hrw5, hu5⟩
   have hnO : ∀ q, (Value.slice sA Y2.length sc).ownBlock = some q → w.heap.size + 2 ≤ q := fun q h => (hrw.lt h).1
   have hs5 := hu5.size
   have hco5 : Coll tmR D (w.heap.size + 2) 27 w5 (.slice sA Y2.length sc) Y2.reverse :=
    ⟨rows.reverse, hrw5, hrr.rev.old (fun q hq => hu5.block q (hq.1.elim (fun h => by have := hED q h; omega) (fun h => h.2)) hq.2) (fun q hq => ⟨hq.1.imp id (fun h => ⟨h.1, Nat.lt_of_lt_of_le h.2 hs5⟩), hq.2⟩)⟩
   have huw5 : Upd nob w w5 := hu9.trans' hu5 (fun q hq h => by have := hnO q h; omega)
   have r5 := (c09.upd hu5 (fun h => by have := hnO _ h; omega)).rowAt
   have c15 := c19.upd hu5 (fun h => by have := hnO _ h; omega)
   have hcl5 := hcl9.old (Old.of_upd hu5 fun q hq => ⟨fun h => by have := hnO q h; have := hED q hq; omega, (hD.up hu9) q hq⟩) (fun _ h => h)
   clear c09 c19 hcl9 r0
   go_wp2_with (first
             | ((with_reducible refine this_op (.load 27 (.tmp 1)) ?_); refine wpList_at rfl 27 (.tmp 1) rfl ⟨w.heap.size, 0, none⟩ rfl _ _ r5 Try.underlying27 rfl tm_size ?_))
   refine (town_any _ _ D w5 (hD.up huw5) hcl5).mono ?_
   rintro e w6 ⟨cs6, rfl, hl6, hb6⟩
   have hu6 : Upd nob w5 w6 := Upd.of_below hb6
   have C9 := c15.upd hu6 (fun f => f)
   have hs6 := hl6.oneCell
   have hsi6 : (Try.prog.info? 27).map (·.size) = some cs6.size := by rw [hs6.1]; exact tm_size
   have hco6 := hco5.upd hu6 (fun _ f => f.elim) (fun x h => by have := hED x h; omega)
   have hsz6 := hu6.size
   clear r5
   go_wp2_with (first
             | ((with_reducible refine this_op (.store 27 (.tmp 2) (.tmp 31)) ?_); refine wpList_store_row rfl 27 (.tmp 2) (.tmp 31) rfl (w.heap.size + 1) _ rfl rfl 27 _ C9 hsi6 (by rw [hs6.1]; rfl) hs6.2 ?_))
   have hfin : Upd (fun q => q = w.heap.size + 1) w6 (w6.setRow (w.heap.size + 1) cs6) := (Upd.refl (fun q => q = w.heap.size + 1) w6).setRow (.inl rfl) _
   refine bodyPost_ret (results_cell_tmp rfl _ _ (w.heap.size + 1) 27 cs6 (0, 0) _ (.slice sA Y2.length sc) rfl rfl (C9.row _) Try.underlying27 rfl hsi6) rfl ?_
   have h9 := res_tm (cs := cs6) (g := w.heap.size + 1) hD huw5 hu6 (by omega) (by omega) hl6
   have hco7 := hco6.upd hfin (fun x hx => ⟨by omega, fun h => by have := hD x h; omega⟩) (fun x h => by have := hED x h; omega)
   obtain ⟨A9, c9, hv9, hcap9, hat⟩ := hco7.tms (D := grow D w (w6.setRow (w.heap.size + 1) cs6)) (fun q hq => hq.elim .inl fun h => .inr ⟨by omega, h.2⟩)
   injection hv9 with z1 z2 z3
   subst z1 z3
   refine ⟨cs6, sA, sc, by simp only [List.length_reverse], h9.1, ⟨by simp only [List.length_reverse]; omega, hcap9⟩, hat, h9.2⟩
end Go.Proofs.Ytiampoebdmflgaa
/- shape.row. -/
namespace Go.Proofs.Ytiampoebdmflgaa
open Go.RowKit
set_option linter.unusedVariables false
set_option maxRecDepth 100000
set_option maxHeartbeats 4000000
set_option linter.unusedSimpArgs false
def rowF : Nat → Tm → List Tm → List Tm × Tm
 | 0, t, acc => (acc, t)
 | n + 1, t, acc => if t.k = 3 then (match t.ks with | d :: b :: _ => rowF n b (acc ++ [d]) | _ => (acc, t)) else (acc, t)
theorem rowF_end {n : Nat} {t : Tm} {acc : List Tm} (h : ¬ (t.k = 3 ∧ 2 ≤ t.ks.length)) : rowF n t acc = (acc, t) := by
 cases n with
 | zero => rfl
 | succ n =>
  rw [rowF]
  split
  · rename_i hk
    split
    · rename_i h2; exact absurd ⟨hk, by rw [h2]; simp⟩ h
    rfl
  rfl
theorem rowF_step {n : Nat} {t : Tm} {acc : List Tm} (h1 : t.k = 3) (h3 : 1 < t.ks.length) : rowF (n + 1) t acc = rowF n (t.ks[1]'h3) (acc ++ [t.ks[0]'(by omega)]) := by
 rw [rowF, if_pos h1]
 obtain ⟨k, nn, nm, lv, ls, ks⟩ := t
 simp only [Tm.ks] at h3 ⊢
 match ks, h3 with
 | f :: a :: r, _ => rfl
theorem rowF_len : ∀ (n : Nat) (t : Tm) (acc : List Tm), acc.length ≤ (rowF n t acc).1.length
 | 0, _, _ => Nat.le_refl _
 | n + 1, t, acc => by
  rw [rowF]
  split
  · split
    · have := rowF_len n ‹Tm› (acc ++ [‹Tm›])
      rename_i d b r h
      have := rowF_len n b (acc ++ [d])
      simp at this; omega
    exact Nat.le_refl _
  exact Nat.le_refl _
def trow (t : Tm) : List Tm × Tm := rowF t.height t []
theorem results_tmp_cell {P : Program} {fn : Func} {p q : Tmp} {ty : TypeId} (h : fn.results = #[.tmp q, .cell p ty]) (tmps : Array Value) (w : World) (g : Nat) (t : TypeId) (cs : Array Value) (fr : Nat × Nat) (d : TypeDesc) (v : Value)
    (hp : tmps.getD p undef = .pointer (some ⟨g, 0, none⟩)) (hq : tmps.getD q undef = v) (hg : w.heap[g]? = some (.cells cs t fr))
    (hu : P.underlying ty = some d) (hd : (match d with | .struct _ | .array _ _ => true | _ => false) = true) (hi : (P.info? ty).map (·.size) = some cs.size) :
    (results fn tmps).run P w = .ok (.tuple #[v, .agg cs]) w := by
 have hp' : tmps[p]?.getD undef = .pointer (some ⟨g, 0, none⟩) := by simpa using hp
 have hq' : tmps[q]?.getD undef = v := by simpa using hq
 simp [results, h, hp', hq', asAddr, run_loadVar_row w g t ty cs fr d hg hu hd hi]
theorem trow_any (t : Tm) (cs : Array Value) (D : Nat → Prop) (w : World) (hD : Within D w) (hl : TmIs D w t cs) (hlen : (trow t).1.length * 120 ≤ 140737488351232) :
    Calls Try.prog 36 #[.agg cs] w fun e w' => ∃ cs' A c, e = .returned (.tuple #[.slice A (trow t).1.length c, .agg cs']) ∧ TmIs (grow D w w') w' (trow t).2 cs' ∧
     ((trow t).1.length ≤ c) ∧ TmsAt (grow D w w') w' (trow t).1 A 0 ∧ Below w.heap.size w w' := by
 have hz := tm_zero
 have hs := hl.oneCell
 have hsi : (Try.prog.info? 27).map (·.size) = some cs.size := by rw [hs.1]; exact tm_size
 obtain ⟨⟨X1, X2⟩, hX⟩ : ∃ X, trow t = X := ⟨_, rfl⟩
 rw [hX] at hlen ⊢
 have HX := Lib.hid hX; clear hX
 obtain ⟨W1, hW1⟩ : ∃ W1, (w.alloc (.cells cs 27)).alloc (.cells #[.int .i64 0, .int .i64 0, .string ByteArray.empty, .int .i64 0, .int .i64 0, .slice none 0 0, .slice none 0 0, .slice none 0 0] 27) = W1 := ⟨_, rfl⟩
 have huW1 : Upd nob w W1 := by rw [← hW1]; exact ((Upd.refl nob w).alloc _).alloc _
 have hsW1 : W1.heap.size = w.heap.size + 2 := by rw [← hW1]; simp
 have b0 : Blk W1 (w.heap.size) 27 cs := by
  rw [← hW1]
  have h := Blk.new (w) 27 cs
  exact h.alloc _
 have b1 : Blk W1 (w.heap.size + 1) 27 #[.int .i64 0, .int .i64 0, .string ByteArray.empty, .int .i64 0, .int .i64 0, .slice none 0 0, .slice none 0 0, .slice none 0 0] := by
  rw [← hW1]
  have h := Blk.new (w.alloc (.cells cs 27)) 27 #[.int .i64 0, .int .i64 0, .string ByteArray.empty, .int .i64 0, .int .i64 0, .slice none 0 0, .slice none 0 0, .slice none 0 0]
  rw [World.size_alloc] at h
  exact h
 have hl1 := hl.old (hD.old huW1) (fun _ h => h)
 clear hs hsi hl
 have HW1 := Lib.hid hW1; clear hW1
 go_enter Try.func36, Try.ntmps36
 go_wp2_with fail
 rw [HW1.out]
 clear HW1
 go_loopg [4] t.height (fun n v4 wr => ∃ cur ccs acc, Blk wr w.heap.size 27 ccs ∧ TmIs D wr cur ccs ∧ Coll tmR D (w.heap.size + 2) 27 wr v4 acc ∧ Blk wr (w.heap.size + 1) 27 #[.int .i64 0, .int .i64 0, .string ByteArray.empty, .int .i64 0, .int .i64 0, .slice none 0 0, .slice none 0 0, .slice none 0 0] ∧ rowF n cur acc = (X1, X2) ∧ cur.height ≤ n ∧ Upd nob w wr ∧ w.heap.size + 2 ≤ wr.heap.size)
 case atStart => exact ⟨t, cs, [], b0, hl1, Coll.nil_, b1, HX.out, Nat.le_refl _, huW1, by omega⟩
 case round =>
  clear b0 b1 huW1 hl1 hsW1 HX
  obtain ⟨cur, ccs, acc, c0, hcl, hco, c1, hsp, hcv, hu, hsz⟩ := hrel
  have hDr := hD.up hu
  have hED : ∀ x, D x → x < w.heap.size + 2 := fun x hx => by have := hD x hx; omega
  obtain ⟨sA, sc, rfl, hscp⟩ := hco.form
  obtain ⟨k, n, nm, lv, ls, ks⟩ := cur
  have hcl0 := Lib.hid hcl
  obtain ⟨x, y, z, A, c, A', c', rfl, hk, hn, hnm, hlv, hls1, hls, hks1, hks⟩ := hcl.lit
  simp only [Tm.k, Tm.n, Tm.nm, Tm.lv, Tm.ls, Tm.ks] at c0 hk hn hnm hlv hls1 hls hks1 hks hcl0
  clear hcl
  have q0 : wr.cell? ⟨w.heap.size, 0, none⟩ = some (.int .i64 k) := c0.cell 0
  have q7 : wr.cell? ⟨w.heap.size, 7, none⟩ = some (.slice A' ks.length c') := c0.cell 7
  have r0 := c0.rowAt
  have C0 := Lib.hid c0
  have C1 := Lib.hid c1
  have HSP := Lib.hid hsp
  have HCO := Lib.hid hco
  clear c0 c1 hsp hco
  by_cases hgo : k = 3 ∧ 2 ≤ ks.length
  · obtain ⟨rfl, hkl⟩ := hgo
    have t2 : decide (2 ≤ ks.length) = true := by simp [hkl]
    have t2' : decide ((2 : Int) ≤ ks.length) = true := by simp; omega
    have hkl0 : 0 < ks.length := by omega
    have hkl1 : 1 < ks.length := by omega
    have hh1 : (ks[1]'hkl1).height ≤ Tm.heights ks := Tm.height_mem (List.getElem_mem _)
    simp only [Tm.height] at hcv
    obtain ⟨g', rfl⟩ : ∃ g', gk = g' + 1 := ⟨gk - 1, by omega⟩
    have hst := rowF_step (n := g') (t := .mk 3 n nm lv ls ks) (acc := acc) rfl hkl1
    have hsp2 : rowF g' (ks[1]'hkl1) (acc ++ [ks[0]'hkl0]) = (X1, X2) := hst.symm.trans HSP.out
    have hlen2 : acc.length + 1 ≤ X1.length := by
     have h9 := rowF_len g' (ks[1]'hkl1) (acc ++ [ks[0]'hkl0])
     rw [hsp2] at h9
     simpa using h9
    have HSP2 := Lib.hid hsp2
    have hks3 := hks
    obtain ⟨a1, cs1, hA1, hab1, hrow1, hl1⟩ := hks3.at_ (List.getElem?_eq_getElem hkl1)
    obtain ⟨a2, cs2, hA2, hab2, hrow2, hl2⟩ := hks3.at_ (j := 0) (List.getElem?_eq_getElem hkl0)
    have haa : a1 = a2 := by rw [hA1] at hA2; simpa using hA2
    subst haa
    have hs1 := hl1.oneCell
    have hs2 := hl2.oneCell
    have hsi1 : (Try.prog.info? 27).map (·.size) = some cs1.size := by rw [hs1.1]; exact tm_size
    have hsi2 : (Try.prog.info? 27).map (·.size) = some cs2.size := by rw [hs2.1]; exact tm_size
    have HA1 := Lib.hid hA1
    have hu5 : Upd nob wr (wr.alloc (.cells cs2 27)) := (Upd.refl nob wr).alloc _
    have hnO : ∀ q, (Value.slice sA acc.length sc).ownBlock = some q → w.heap.size + 2 ≤ q ∧ q < wr.heap.size := fun q h => HCO.out.lt h
    have hc5 : Coll tmR D (w.heap.size + 2) 27 (wr.alloc (.cells cs2 27)) (.slice sA acc.length sc) acc := HCO.out.upd hu5 (fun _ f => f.elim) (fun x h => by have := hED x h; omega)
    have hl5 : tmR.is D (wr.alloc (.cells cs2 27)) (ks[0]'hkl0) cs2 := hl2.old (hDr.old hu5) (fun _ h => h)
    have hD5 : ∀ q, D q → cd D (w.heap.size + 2) (wr.alloc (.cells cs2 27)) (.slice sA acc.length sc) q := fun q hq => ⟨.inl hq, fun h => by have := (hnO q h).1; have := hED q hq; omega⟩
    have HC5 := Lib.hid hc5
    clear hA1 hA2 hc5 hst hsp2 HSP
    go_wp2_with (first
              | ((with_reducible refine this_op (.indexAddr 25 (.tmp 16) (.const (.int .i64 0))) ?_); refine wpList_index_at rfl 25 (.tmp 16) (.const (.int .i64 0)) rfl _ a1 _ _ rfl HA1.out 0 rfl hkl0 27 Try.underlying25 8 tm_size ?_)
              | ((with_reducible refine this_op (.load 27 (.tmp 17)) ?_); refine wpList_at rfl 27 (.tmp 17) rfl (a1.add (0 * 8)) rfl _ _ hrow2 Try.underlying27 rfl hsi2 ?_)
              | ((with_reducible refine this_op (.buildSlice 25 1 #[(0, .tmp 18)]) ?_); refine wpList_build1 rfl 25 27 (.tmp 18) rfl _ 8 120 Try.underlying25 tm_info (by decide) (by decide) cs2 rfl hs2.1 ?_)
              | (at_builtin; refine wpList_collect rfl (.tmp 14) (.tmp 19) 25 rfl _ 120 Try.underlying25 tm_info (by kernel_rfl) (by decide) rfl HC5.out hED wr.heap.size cs2 rfl (Blk.new _ _ _) (ks[0]'hkl0) _ hl5 hD5 acc.length rfl (by omega) (by omega) (by simp; omega) ?_
                 intro sA6 sc6 w6 hc6 hu6 hat6
                 have hu7 : Upd (fun q => (Value.slice sA acc.length sc).ownBlock = some q) wr w6 := (hu5.mono (fun _ f => f.elim)).trans hu6
                 have b6 := C0.out.upd hu7 (fun h => by have := (hnO _ h).1; omega)
                 have e7 : w6.cell? ⟨w.heap.size, 7, none⟩ = some (.slice A' ks.length c') := b6.cell 7
                 have b61 := C1.out.upd hu7 (fun h => by have := (hnO _ h).1; omega)
                 have ho6 : Old D wr w6 := Old.of_upd hu7 fun q hq => ⟨fun h => by have := (hnO q h).1; have := hED q hq; omega, hDr q hq⟩
                 have hr1 := hrow1.old ho6 (by rw [Addr_add_block]; exact hab1)
                 have hl1' := hl1.old ho6 (fun _ h => h)
                 have HC6 := Lib.hid hc6
                 have HU7 := Lib.hid hu7
                 have HB6 := Lib.hid b6
                 have HB1 := Lib.hid b61
                 have HL2 := Lib.hid hl1'
                 clear hc6 hu6 hu7 b6 b61 hl1')
              | ((with_reducible refine this_op (.indexAddr 25 (.tmp 22) (.const (.int .i64 1))) ?_); refine wpList_index_at rfl 25 (.tmp 22) (.const (.int .i64 1)) rfl _ a1 _ _ rfl HA1.out 1 rfl hkl1 27 Try.underlying25 8 tm_size ?_)
              | ((with_reducible refine this_op (.load 27 (.tmp 23)) ?_); refine wpList_at rfl 27 (.tmp 23) rfl (a1.add (1 * 8)) rfl _ _ hr1 Try.underlying27 rfl hsi1 ?_)
              | ((with_reducible refine this_op (.store 27 (.tmp 1) (.tmp 24)) ?_); refine wpList_store_row rfl 27 (.tmp 1) (.tmp 24) rfl w.heap.size _ rfl rfl 27 _ HB6.out hsi1 (by rw [hs1.1]; rfl) hs1.2 ?_))
    go_roundg g'
    case measure => omega
    case rel =>
     have hfin : Upd (fun q => q = w.heap.size) w6 (w6.setRow w.heap.size cs1) := (Upd.refl (fun q => q = w.heap.size) w6).setRow (.inl rfl) _
     have hs7 := HU7.out.size
     refine ⟨ks[1]'hkl1, cs1, acc ++ [ks[0]'hkl0], HB6.out.row _, HL2.out.old (Old.of_upd hfin fun q hq => ⟨fun h => by have := hD q hq; omega, by have := hED q hq; omega⟩) (fun _ h => h), ?_, HB1.out.rowFar (by omega) _, HSP2.out, by omega, ?_, ?_⟩
     · exact HC6.out.upd hfin (fun q hq => ⟨by omega, fun h => by have := hD q h; omega⟩) (fun q h => by have := hED q h; omega)
     · exact (hu.trans' HU7.out (fun q hq h => by have := (hnO q h).1; omega)).trans' hfin (fun q hq h => by omega)
     have := hfin.size; omega
  have hend := rowF_end (n := gk) (t := .mk k n nm lv ls ks) (acc := acc) hgo
  rw [HSP.out] at hend
  injection hend with hy1 hy2
  subst hy1 hy2
  clear HSP
  by_cases hk3 : k = 3
  · subst hk3
    have t2' : decide ((2 : Int) ≤ ks.length) = false := by simp; omega
    go_wp2_with fail
    refine wp_region_P (by kernel_rfl) ?_
    refine wpAny_of_E (fun X : World => ∀ p : Addr, p.block < wr.heap.size → X.cell? p = wr.cell? p) 3 _ _ _ _ ?_
    have hS : ∀ p : Addr, p.block < wr.heap.size → wr.drew.cell? p = wr.cell? p := fun _ _ => rfl
    refine eT 0 ?_ [2] rfl (by kernel_rfl) (by rfl) ?_ hS ?_
    rotate_left; · intro wx hx; clear hx; go_simp; with_reducible rfl
    try simp only [tl]
    refine eT 1 (.agg #[.int .i64 3, .int .i64 n, .string nm, x, y, z, .slice A ls.length c, .slice A' ks.length c']) [] rfl (by kernel_rfl) (by rfl) ?_ hS ?_
    · intro wx hx
      exact run_load_at 27 (.tmp 1) rfl ⟨w.heap.size, 0, none⟩ rfl #[.int .i64 3, .int .i64 n, .string nm, x, y, z, .slice A ls.length c, .slice A' ks.length c'] _ (row_on r0 (by show w.heap.size < _; omega) hx) Try.underlying27 rfl tm_size
    try simp only [tl]
    refine wpAnyE_one (i := 2) (by kernel_rfl) (by kernel_rfl) rfl (by rfl) fun K hK => ?_
    go_simp
    refine hK _ _ hS ?_
    clear hK K; try simp only [tl]
    refine wpAnyE_z (by kernel_rfl) rfl (by rfl) fun K hK => ?_
    refine owp_store_blk 27 (.tmp 3) (.tmp 26) rfl rfl (w.heap.size + 1) (#[.int .i64 3, .int .i64 n, .string nm, x, y, z, .slice A ls.length c, .slice A' ks.length c']) rfl rfl 27 _ (show Blk wr.drew (w.heap.size + 1) 27 _ from C1.out) tm_size rfl hcl0.out.oneCell.2 ?_
    refine hK _ _ ?_
    clear hK K; try simp only [tl]
    refine wpAny_done (by kernel_rfl) ?_ _
    refine NoPanic.normal ?_
    go_wp2_with fail
    have hfin : Upd (fun q => q = w.heap.size + 1) wr (wr.drew.setRow (w.heap.size + 1) #[.int .i64 3, .int .i64 n, .string nm, x, y, z, .slice A ls.length c, .slice A' ks.length c']) := ((Upd.refl (fun q => q = w.heap.size + 1) wr).drew).setRow (.inl rfl) _
    have hsf : (wr.drew.setRow (w.heap.size + 1) #[.int .i64 3, .int .i64 n, .string nm, x, y, z, .slice A ls.length c, .slice A' ks.length c']).heap.size = wr.heap.size := by simp
    refine bodyPost_ret (results_tmp_cell rfl _ _ (w.heap.size + 1) 27 #[.int .i64 3, .int .i64 n, .string nm, x, y, z, .slice A ls.length c, .slice A' ks.length c'] (0, 0) _ (.slice sA X1.length sc) rfl rfl ((show Blk wr.drew (w.heap.size + 1) 27 _ from C1.out).row _) Try.underlying27 rfl tm_size) rfl ?_
    have hco9 := HCO.out.upd hfin (fun q hq => ⟨by omega, fun h => by have := hD q h; omega⟩) (fun q h => by have := hED q h; omega)
    obtain ⟨A9, c9, hv9, hcap9, hat⟩ := hco9.tms (D := grow D w (wr.drew.setRow (w.heap.size + 1) #[.int .i64 3, .int .i64 n, .string nm, x, y, z, .slice A ls.length c, .slice A' ks.length c'])) (fun q hq => hq.elim .inl fun h => .inr ⟨by omega, h.2⟩)
    injection hv9 with z1 z2 z3
    subst z1 z3
    exact ⟨_, _, _, rfl, hcl0.out.old (Old.of_upd hfin fun q hq => ⟨fun h => by have := hD q hq; omega, hDr q hq⟩) (fun _ h => .inl h), hcap9, hat, (hu.trans' hfin (fun q hq h => by omega)).below⟩
  have t1 : (k == 3) = false := by simpa using hk3
  go_wp2_with fail
  refine wp_region_P (by kernel_rfl) ?_
  refine wpAny_of_E (fun X : World => ∀ p : Addr, p.block < wr.heap.size → X.cell? p = wr.cell? p) 3 _ _ _ _ ?_
  have hS : ∀ p : Addr, p.block < wr.heap.size → wr.drew.cell? p = wr.cell? p := fun _ _ => rfl
  refine eT 0 ?_ [2] rfl (by kernel_rfl) (by rfl) ?_ hS ?_
  rotate_left; · intro wx hx; clear hx; go_simp; with_reducible rfl
  try simp only [tl]
  refine eT 1 (.agg #[.int .i64 k, .int .i64 n, .string nm, x, y, z, .slice A ls.length c, .slice A' ks.length c']) [] rfl (by kernel_rfl) (by rfl) ?_ hS ?_
  · intro wx hx
    exact run_load_at 27 (.tmp 1) rfl ⟨w.heap.size, 0, none⟩ rfl #[.int .i64 k, .int .i64 n, .string nm, x, y, z, .slice A ls.length c, .slice A' ks.length c'] _ (row_on r0 (by show w.heap.size < _; omega) hx) Try.underlying27 rfl tm_size
  try simp only [tl]
  refine wpAnyE_one (i := 2) (by kernel_rfl) (by kernel_rfl) rfl (by rfl) fun K hK => ?_
  go_simp
  refine hK _ _ hS ?_
  clear hK K; try simp only [tl]
  refine wpAnyE_z (by kernel_rfl) rfl (by rfl) fun K hK => ?_
  refine owp_store_blk 27 (.tmp 3) (.tmp 26) rfl rfl (w.heap.size + 1) (#[.int .i64 k, .int .i64 n, .string nm, x, y, z, .slice A ls.length c, .slice A' ks.length c']) rfl rfl 27 _ (show Blk wr.drew (w.heap.size + 1) 27 _ from C1.out) tm_size rfl hcl0.out.oneCell.2 ?_
  refine hK _ _ ?_
  clear hK K; try simp only [tl]
  refine wpAny_done (by kernel_rfl) ?_ _
  refine NoPanic.normal ?_
  go_wp2_with fail
  have hfin : Upd (fun q => q = w.heap.size + 1) wr (wr.drew.setRow (w.heap.size + 1) #[.int .i64 k, .int .i64 n, .string nm, x, y, z, .slice A ls.length c, .slice A' ks.length c']) := ((Upd.refl (fun q => q = w.heap.size + 1) wr).drew).setRow (.inl rfl) _
  have hsf : (wr.drew.setRow (w.heap.size + 1) #[.int .i64 k, .int .i64 n, .string nm, x, y, z, .slice A ls.length c, .slice A' ks.length c']).heap.size = wr.heap.size := by simp
  refine bodyPost_ret (results_tmp_cell rfl _ _ (w.heap.size + 1) 27 #[.int .i64 k, .int .i64 n, .string nm, x, y, z, .slice A ls.length c, .slice A' ks.length c'] (0, 0) _ (.slice sA X1.length sc) rfl rfl ((show Blk wr.drew (w.heap.size + 1) 27 _ from C1.out).row _) Try.underlying27 rfl tm_size) rfl ?_
  have hco9 := HCO.out.upd hfin (fun q hq => ⟨by omega, fun h => by have := hD q h; omega⟩) (fun q h => by have := hED q h; omega)
  obtain ⟨A9, c9, hv9, hcap9, hat⟩ := hco9.tms (D := grow D w (wr.drew.setRow (w.heap.size + 1) #[.int .i64 k, .int .i64 n, .string nm, x, y, z, .slice A ls.length c, .slice A' ks.length c'])) (fun q hq => hq.elim .inl fun h => .inr ⟨by omega, h.2⟩)
  injection hv9 with z1 z2 z3
  subst z1 z3
  exact ⟨_, _, _, rfl, hcl0.out.old (Old.of_upd hfin fun q hq => ⟨fun h => by have := hD q hq; omega, hDr q hq⟩) (fun _ h => .inl h), hcap9, hat, (hu.trans' hfin (fun q hq h => by omega)).below⟩
end Go.Proofs.Ytiampoebdmflgaa
/- shape.self. -/
namespace Go.Proofs.Ytiampoebdmflgaa
open Go.RowKit
set_option linter.unusedVariables false
set_option maxRecDepth 100000
set_option maxHeartbeats 4000000
set_option linter.unusedSimpArgs false
def vrow (m : Nat) : List Lv := (List.range m).map fun i : Nat => Lv.mk 2 (i : Int) []
theorem vrow_succ (m : Nat) : vrow (m + 1) = vrow m ++ [Lv.mk 2 (m : Int) []] := by simp [vrow, List.range_succ]
theorem vrow_len (m : Nat) : (vrow m).length = m := by simp [vrow]
def tself (nm : ByteArray) (m : Nat) : Tm := .mk 7 0 nm lzero' ((vrow m).map lown) []
theorem tself_any (dk : Int) (nm : ByteArray) (m : Nat) (a0 a1 a2 a3 a4 a5 a6 a7 b0 b1 b2 b3 b4 b5 b6 b7 : Value) (pa : Int) (cts : Value) (w : World) (hm : m ≤ 1000) (hnm : nm.size ≤ 140737488351232) :
    Calls Try.prog 37 #[.agg #[.int .i64 dk, .string nm, .int .i64 m, a0, a1, a2, a3, a4, a5, a6, a7, b0, b1, b2, b3, b4, b5, b6, b7, .int .i64 pa, cts]] w fun e w' => ∃ cs', e = .returned (.agg cs') ∧ TmIs (fresh w w') w' (tself nm m) cs' ∧ Below w.heap.size w w' := by
 have hz := tm_zero
 have hmx : max (0 : Int) (m : Int) = (m : Int) := by omega
 obtain ⟨W1, hW1⟩ : ∃ W1, (w.alloc (.cells #[.int .i64 dk, .string nm, .int .i64 m, a0, a1, a2, a3, a4, a5, a6, a7, b0, b1, b2, b3, b4, b5, b6, b7, .int .i64 pa, cts] 30)).alloc (.cells #[.int .i64 0, .int .i64 0, .string ByteArray.empty, .int .i64 0, .int .i64 0, .slice none 0 0, .slice none 0 0, .slice none 0 0] 27) = W1 := ⟨_, rfl⟩
 have huW1 : Upd nob w W1 := by rw [← hW1]; exact ((Upd.refl nob w).alloc _).alloc _
 have hsW1 : W1.heap.size = w.heap.size + 2 := by rw [← hW1]; simp
 have bk0 : Blk W1 (w.heap.size) 30 #[.int .i64 dk, .string nm, .int .i64 m, a0, a1, a2, a3, a4, a5, a6, a7, b0, b1, b2, b3, b4, b5, b6, b7, .int .i64 pa, cts] := by
  rw [← hW1]
  have h := Blk.new (w) 30 #[.int .i64 dk, .string nm, .int .i64 m, a0, a1, a2, a3, a4, a5, a6, a7, b0, b1, b2, b3, b4, b5, b6, b7, .int .i64 pa, cts]
  exact h.alloc _
 have bk1 : Blk W1 (w.heap.size + 1) 27 #[.int .i64 0, .int .i64 0, .string ByteArray.empty, .int .i64 0, .int .i64 0, .slice none 0 0, .slice none 0 0, .slice none 0 0] := by
  rw [← hW1]
  have h := Blk.new (w.alloc (.cells #[.int .i64 dk, .string nm, .int .i64 m, a0, a1, a2, a3, a4, a5, a6, a7, b0, b1, b2, b3, b4, b5, b6, b7, .int .i64 pa, cts] 30)) 27 #[.int .i64 0, .int .i64 0, .string ByteArray.empty, .int .i64 0, .int .i64 0, .slice none 0 0, .slice none 0 0, .slice none 0 0]
  rw [World.size_alloc] at h
  exact h
 have HB0 := Lib.hid bk0
 have HB1 := Lib.hid bk1
 clear bk0 bk1
 have HW1 := Lib.hid hW1; clear hW1
 go_enter Try.func37, Try.ntmps37
 go_wp2_with fail
 rw [HW1.out]
 clear HW1
 go_loopg [3, 8] m (fun k v3 v8 wr => ∃ j : Nat, j + k = m ∧ v8 = .int .i64 j ∧ Blk wr w.heap.size 30 #[.int .i64 dk, .string nm, .int .i64 m, a0, a1, a2, a3, a4, a5, a6, a7, b0, b1, b2, b3, b4, b5, b6, b7, .int .i64 pa, cts] ∧ Blk wr (w.heap.size + 1) 27 #[.int .i64 0, .int .i64 0, .string ByteArray.empty, .int .i64 0, .int .i64 0, .slice none 0 0, .slice none 0 0, .slice none 0 0] ∧ Coll lvR nob (w.heap.size + 2) 24 wr v3 (vrow j) ∧ Upd nob w wr ∧ w.heap.size + 2 ≤ wr.heap.size)
 case atStart => exact ⟨0, by omega, rfl, HB0.out, HB1.out, Coll.nil_, huW1, by omega⟩
 case round =>
  clear HB0 HB1 huW1 hsW1
  obtain ⟨j, hj, rfl, c0, c1, hco, hu, hsz⟩ := hrel
  obtain ⟨sA, sc, hsl, hcp⟩ := hco.form
  rw [vrow_len] at hsl hcp
  subst hsl
  have C0 := Lib.hid c0
  have C1 := Lib.hid c1
  have q1 : wr.cell? ⟨w.heap.size, 1, none⟩ = some (.string nm) := c0.cell 1
  have HCO := Lib.hid hco
  clear c0 c1 hco
  by_cases hlt : j < m
  · have t2 : decide ((j : Int) < m) = true := by simp [hlt]
    go_wp2_with fail
    refine (lvar_any j wr (by unfold InI; omega)).mono ?_
    rintro e w2 ⟨rfl, hb2⟩
    have hu2 : Upd nob wr w2 := Upd.of_below hb2
    have hs2 := hu2.size
    have hu5 : Upd nob wr (w2.alloc (.cells #[.int .i64 2, .int .i64 j, .slice none 0 0] 24)) := hu2.alloc _
    have hc5 : Coll lvR nob (w.heap.size + 2) 24 (w2.alloc (.cells #[.int .i64 2, .int .i64 j, .slice none 0 0] 24)) (.slice sA j sc) (vrow j) := HCO.out.upd hu5 (fun _ f => f.elim) (fun x h => h.elim)
    have HC5 := Lib.hid hc5
    have hl5 : LvIs nob (w2.alloc (.cells #[.int .i64 2, .int .i64 j, .slice none 0 0] 24)) (.mk 2 j []) #[.int .i64 2, .int .i64 j, .slice none 0 0] := by
     simp only [LvIs, LvsAt]; exact ⟨none, 0, rfl, by unfold InI; omega, by unfold InI; omega, by simp, trivial⟩
    have hnO : ∀ q, (Value.slice sA j sc).ownBlock = some q → w.heap.size + 2 ≤ q ∧ q < wr.heap.size := fun q h => HCO.out.lt h
    clear hc5
    go_wp2_with (first
              | ((with_reducible refine this_op (.buildSlice 22 1 #[(0, .tmp 13)]) ?_); refine wpList_build1 rfl 22 24 (.tmp 13) rfl _ 3 40 Try.underlying22 lv_info (by decide) (by decide) #[.int .i64 2, .int .i64 j, .slice none 0 0] rfl rfl ?_)
              | (at_builtin; go_loud (refine wpList_collect rfl (.tmp 11) (.tmp 14) 22 rfl _ 40 Try.underlying22 lv_info (by kernel_rfl) (by decide) rfl HC5.out (fun x h => h.elim) w2.heap.size #[.int .i64 2, .int .i64 j, .slice none 0 0] rfl (Blk.new _ _ _) (.mk 2 j []) _ hl5 (fun x h => h.elim) j (vrow_len j) (by omega) (by omega) (by simp; omega) ?_)
                 intro sA6 sc6 w6 hc6 hu6 hat6
                 have HC6 := Lib.hid hc6
                 have HU6 := Lib.hid hu6
                 clear hc6 hu6))
    go_roundg (gk - 1)
    case measure => omega
    case rel =>
     have hnD : ∀ q, (Value.slice sA j sc).ownBlock = some q → w.heap.size + 2 ≤ q := fun q h => (hnO q h).1
     have hu7 : Upd (fun q => (Value.slice sA j sc).ownBlock = some q) wr w6 := (hu5.mono (fun _ f => f.elim)).trans HU6.out
     refine ⟨j + 1, by omega, by go_num, C0.out.upd hu7 (fun h => by have := hnD _ h; omega), C1.out.upd hu7 (fun h => by have := hnD _ h; omega), ?_, hu.trans' hu7 (fun q hq h => by have := hnD q h; omega), by have := hu7.size; omega⟩
     rw [vrow_succ]
     exact HC6.out
  have t2 : decide ((j : Int) < m) = false := by simp; omega
  have : j = m := by omega
  subst this
  obtain ⟨A9, c9, hv9, hcap9, hat⟩ := HCO.out.lvs (D := fun q => w.heap.size + 2 ≤ q ∧ q < wr.heap.size) (fun q hq => hq.elim (fun f => f.elim) fun h => h)
  rw [vrow_len] at hv9 hcap9
  injection hv9 with z1 z2 z3
  subst z1 z3
  have HAT := Lib.hid hat; clear hat
  go_wp2_with fail
  have hcall := tconst_any nm hnm (vrow j) sA sc (fun q => w.heap.size + 2 ≤ q ∧ q < wr.heap.size) wr (fun q hq => hq.2) ⟨by rw [vrow_len]; omega, by rw [vrow_len]; exact hcap9⟩ HAT.out
  rw [vrow_len] at hcall
  refine hcall.mono ?_
  clear hcall
  rintro e w3 ⟨cs3, rfl, hl3, hb3⟩
  have hu3 : Upd nob wr w3 := Upd.of_below hb3
  have hs3 := hl3.oneCell
  have hsi3 : (Try.prog.info? 27).map (·.size) = some cs3.size := by rw [hs3.1]; exact tm_size
  have c3 := C1.out.upd hu3 (fun f => f)
  have HL3 := Lib.hid hl3
  clear hl3
  go_wp2_with (first
   | ((with_reducible refine this_op (.store 27 (.tmp 2) (.tmp 20)) ?_); refine wpList_store_row rfl 27 (.tmp 2) (.tmp 20) rfl (w.heap.size + 1) _ rfl rfl 27 _ c3 hsi3 (by rw [hs3.1]; rfl) hs3.2 ?_))
  refine bodyPost_ret (results_cell_row rfl _ _ (w.heap.size + 1) 27 cs3 (0, 0) _ rfl (c3.row _) Try.underlying27 rfl hsi3) rfl ?_
  have hfin : Upd (fun q => q = w.heap.size + 1) w3 (w3.setRow (w.heap.size + 1) cs3) := (Upd.refl (fun q => q = w.heap.size + 1) w3).setRow (.inl rfl) _
  have hs9 : (w3.setRow (w.heap.size + 1) cs3).heap.size = w3.heap.size := by simp
  have hs39 := hu3.size
  refine ⟨cs3, rfl, HL3.out.old (Old.of_upd hfin fun q hq => ?_) (fun q hq => ?_), ((hu.trans hu3).trans' hfin (fun q hq h => by omega)).below⟩
  · rcases hq with hq | hq
    · exact ⟨by omega, by omega⟩
    exact ⟨by have := hq.1; omega, by have := hq.2; omega⟩
  rcases hq with hq | hq
  · exact ⟨by omega, by omega⟩
  exact ⟨by have := hq.1; omega, by have := hq.2; omega⟩
end Go.Proofs.Ytiampoebdmflgaa
/- The reference's Vars, itself, Sort. -/
namespace Go.Proofs.Ytiampoebdmflgaa
open Go.RowKit
set_option linter.unusedVariables false
set_option maxRecDepth 100000
set_option maxHeartbeats 4000000
set_option linter.unusedSimpArgs false
def rself (nm : ByteArray) (m : Nat) : Tm := .mk 7 0 nm lzero' (vrow m) []
end Go.Proofs.Ytiampoebdmflgaa
/- A row ahead of a collected one: append([]T{x}, l...). -/
namespace Go.Proofs.Ytiampoebdmflgaa
open Go.RowKit
set_option linter.unusedVariables false
set_option linter.unusedSimpArgs false
end Go.Proofs.Ytiampoebdmflgaa
