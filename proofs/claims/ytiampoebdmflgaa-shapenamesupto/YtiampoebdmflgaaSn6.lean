/- Texts put one behind the other: Zspine, Tvals2, Tment, Ments, Teqf, Tsame, Tsam, Ends, Zends. -/
import Derived.Test.YtiampoebdmflgaaSn4
import Derived.Test.YtiampoebdmflgaaSn5
import Derived.Test.YtiampoebdmflgaaSn2
import Derived.Deep.LoopGhost
/- The reference's Spine. -/
namespace Go.Proofs.Ytiampoebdmflgaa
open Go.RowKit
set_option linter.unusedVariables false
set_option maxRecDepth 100000
set_option maxHeartbeats 4000000
set_option linter.unusedSimpArgs false
def rspF : Nat → Tm → List Tm → Tm × List Tm
 | 0, t, acc => (t, acc)
 | n + 1, t, acc => if t.k = 6 then (match t.ks with | f :: a :: _ => rspF n f (a :: acc) | _ => (t, acc)) else (t, acc)
theorem rspF_end {n : Nat} {t : Tm} {acc : List Tm} (h : ¬ (t.k = 6 ∧ 2 ≤ t.ks.length)) : rspF n t acc = (t, acc) := by
 cases n with
 | zero => rfl
 | succ n =>
  rw [rspF]
  split
  · rename_i hk
    split
    · rename_i h2; exact absurd ⟨hk, by rw [h2]; simp⟩ h
    rfl
  rfl
theorem rspF_step {n : Nat} {t : Tm} {acc : List Tm} (h1 : t.k = 6) (h3 : 1 < t.ks.length) : rspF (n + 1) t acc = rspF n (t.ks[0]'(by omega)) (t.ks[1]'h3 :: acc) := by
 rw [rspF, if_pos h1]
 obtain ⟨k, nn, nm, lv, ls, ks⟩ := t
 simp only [Tm.ks] at h3 ⊢
 match ks, h3 with
 | f :: a :: r, _ => rfl
def rspine (t : Tm) : Tm × List Tm := if rgreat t = true then (t, []) else rspF t.height t []
end Go.Proofs.Ytiampoebdmflgaa
/- slices.Values of terms. -/
namespace Go.Proofs.Ytiampoebdmflgaa
open Go.RowKit
set_option linter.unusedVariables false
set_option maxRecDepth 100000
set_option maxHeartbeats 4000000
theorem tvals_any (A : Option Addr) (n c : Nat) (w : World) :
    Calls Try.prog 63 #[.slice A n c] w fun e w' => e = .returned (.func (.func 86) #[] #[.pointer (some ⟨w.heap.size, 0, none⟩)]) ∧ w' = w.alloc (.cells #[.slice A n c] 25) := by
 go_enter Try.func63, Try.ntmps63
 go_wp2
 go_ret
 exact ⟨rfl, rfl⟩
theorem vals_spec (ts : List Tm) (css : List (Array Value)) (A : Option Addr) (c : Nat) (D : Nat → Prop) (tb : Nat) (w₀ : World) (hD : Within D w₀)
    (hb : Blk w₀ tb 25 #[.slice A ts.length c]) (hcl : css.length = ts.length) (hlen : ts.length ≤ 140737488351232)
    (hcs : ∀ (i : Nat) c, css[i]? = some c → ∃ a l, ts[i]? = some l ∧ A = some a ∧ D a.block ∧ rowAt w₀ (a.add (i * 8)) c ∧ TmIs D w₀ l c) (xs : List (Array Value))
    (hxs : xs = css.map fun c => #[.agg c]) :
    IterSpec Try.prog 86 #[.pointer (some ⟨tb, 0, none⟩)] (fun k => k = tb ∨ D k) w₀ xs := by
 intro l J Jx hJ hJx hY I W hag hI h0
 have hbW := hb.keeps hag (.inl rfl)
 have c0 : W.cell? ⟨tb, 0, none⟩ = some (.slice A ts.length c) := hbW.cell 0
 have hlb := hbW.lt
 have hz := tm_zero
 obtain ⟨m, hm⟩ : ∃ m, ts.length = m := ⟨_, rfl⟩
 rw [hm] at c0 hlen hcl
 have HM := Lib.hid hm
 have hxl : xs.length = m := by rw [hxs, List.length_map, hcl]
 have HXL := Lib.hid hxl
 have HXS := Lib.hid hxs
 have HCL := Lib.hid hcl
 clear hm hxl hxs hcl
 refine callsIn_wide (n := 0).1 ?_
 refine callsIn_of_wp Try.func86 rfl trivial ?_ rfl
 simp only [Try.ntmps86, List.size_toArray, List.length_cons, List.length_nil, Nat.reduceAdd, Nat.reduceSub, Array.replicate_succ, Array.replicate_zero, List.push_toArray, List.append_toArray, List.nil_append, List.cons_append]
 gi_wp2_with fail
 gi_loopw [7] (fun p wr => ∃ (j : Nat) (I' : Nat → Prop), j ≤ m ∧ p = .int .i64 j ∧ J j I' wr ∧ Keeps (fun k => k = tb ∨ D k) w₀ wr ∧ W.heap.size ≤ wr.heap.size ∧
     (∀ i, I i → I' i) ∧ (∀ i, I' i → (I i ∨ W.heap.size ≤ i) ∧ i < wr.heap.size)) (fun p _ => m - (intOf p).toNat)
 case atStart => exact ⟨0, I, Nat.zero_le _, rfl, h0, hag, Nat.le_refl _, fun _ h => h, fun j h => ⟨.inl h, hI j h⟩⟩
 case round =>
  obtain ⟨j, I', hj, rfl, hjj, hkp, hsz, hi1, hi2⟩ := hrel
  by_cases hlt : j < m
  · have hjc : j < css.length := by rw [HCL.out]; omega
    obtain ⟨a, l', hl', hA, hab, hrow, hti⟩ := hcs j _ (List.getElem?_eq_getElem hjc)
    obtain ⟨cj, hcj⟩ : ∃ cj, css[j] = cj := ⟨_, rfl⟩
    rw [hcj] at hrow hti
    have hx : xs[j]? = some #[.agg cj] := by
     rw [HXS.out, List.getElem?_map, List.getElem?_eq_getElem hjc, hcj]; rfl
    have hrow' : rowAt wr (a.add (j * 8)) cj := fun i v hv => (hkp.cell (by rw [Addr_add_block, Addr_add_block]; exact .inr hab)).trans (hrow i v hv)
    have hs8 := hti.oneCell
    have hsi : (Try.prog.info? 27).map (·.size) = some cj.size := by rw [hs8.1]; exact tm_size
    obtain ⟨W2, hW2⟩ : ∃ W2, (wr.alloc (.cells #[.int .i64 0, .int .i64 0, .string ByteArray.empty, .int .i64 0, .int .i64 0, .slice none 0 0, .slice none 0 0, .slice none 0 0] 27)).setRow wr.heap.size cj = W2 := ⟨_, rfl⟩
    have hu2 : Upd nob wr W2 := by rw [← hW2]; exact ((Upd.refl nob wr).alloc _).setRow (.inr (Nat.le_refl _)) _
    have hb2 : Blk W2 wr.heap.size 27 cj := by rw [← hW2]; exact (Blk.new wr _ _).row _
    have hs2 : W2.heap.size = wr.heap.size + 1 := by rw [← hW2]; simp
    have hj2 := hJ j I' wr W2 hjj (hu2.mono (fun _ f => f.elim))
    obtain ⟨fn, tmps, assign, body, hy, hR⟩ := hY j _ _ _ hx hj2
    have hkp2 : Keeps (fun k => k = tb ∨ D k) w₀ W2 := hkp.trans (hu2.keeps fun q hq => ⟨fun f => f, by
     rcases hq with rfl | hq
     · omega
     have := hD q hq; have := hag.size; omega⟩)
    have HA := Lib.hid hA
    have HW2 := Lib.hid hW2
    have hr2 : rowAt ((wr.alloc (.cells #[.int .i64 0, .int .i64 0, .string ByteArray.empty, .int .i64 0, .int .i64 0, .slice none 0 0, .slice none 0 0, .slice none 0 0] 27)).setRow wr.heap.size cj) ⟨wr.heap.size, 0, none⟩ cj := by rw [HW2.out]; exact hb2.rowAt
    clear hA hcj hl' hW2
    gi_wp2_with (first
              | ((with_reducible refine this_opIn (.indexAddr 25 (.tmp 5) (.tmp 7)) ?_); refine wpListIn_index_at .out rfl 25 (.tmp 5) (.tmp 7) rfl _ a _ _ rfl HA.out j rfl hlt 27 Try.underlying25 8 tm_size ?_)
              | ((with_reducible refine this_opIn (.load 27 (.tmp 9)) ?_); refine wpListIn_at .out rfl 27 (.tmp 9) rfl (a.add (j * 8)) rfl _ _ hrow' Try.underlying27 rfl hsi ?_)
              | ((with_reducible refine this_opIn (.store 27 (.tmp 4) (.tmp 10)) ?_); refine wpListIn_store_blk .out rfl 27 (.tmp 4) (.tmp 10) rfl rfl wr.heap.size cj rfl rfl 27 _ (Blk.new wr _ _) hsi (by rw [hs8.1]; rfl) hs8.2 ?_)
              | ((with_reducible refine this_opIn (.load 27 (.tmp 4)) ?_); refine wpListIn_at .out rfl 27 (.tmp 4) rfl ⟨wr.heap.size, 0, none⟩ rfl _ _ hr2 Try.underlying27 rfl hsi ?_))
    rw [HW2.out, hy]
    refine ⟨fun h => by simp [Fence.wide] at h, hR.mono ?_⟩
    rintro e W3 ⟨hk3, (⟨rfl, hj3⟩ | ⟨rfl, hx3⟩)⟩
    · gi_wp2
      go_roundw
      case rel =>
       have hs3 := hk3.size
       refine ⟨j + 1, grow I' wr W2, hlt, by go_num, hj3, hkp2.trans (hk3.mono fun j h => .inr h), by omega, fun i h => .inl (hi1 i h), ?_⟩
       intro i h
       rcases h with h | h
       · have := hi2 i h; exact ⟨this.1, by omega⟩
       have h1 := h.1; have h2 := h.2; exact ⟨.inr (by omega), by omega⟩
      case measure => simp [intOf]; omega
    gi_wp2
    refine bodyPost_ret (results_none rfl _ _ _) rfl ?_
    exact ⟨⟨_, rfl⟩, grow I' wr W2, fun i h => .inl (hi1 i h), fun i h => h.elim (fun h => (hi2 i h).1) (fun h => .inr (by have := h.1; omega)), .inr hx3⟩
  gi_wp2
  go_end0
  have : j = m := by omega
  subst this
  exact ⟨⟨_, rfl⟩, I', hi1, fun j h => (hi2 j h).1, .inl (by rw [HXL.out]; exact hjj)⟩
end Go.Proofs.Ytiampoebdmflgaa
/- term.Mentions. -/
namespace Go.Proofs.Ytiampoebdmflgaa
open Go.RowKit
set_option linter.unusedVariables false
set_option maxRecDepth 100000
set_option maxHeartbeats 4000000
set_option linter.unusedSimpArgs false
def mnStep (nm : ByteArray) (s : Unit) (t : Tm) (_ _ : Int) : Bool × Unit := (decide (t.k ≠ 7) || !(t.nm.toList == nm.toList), s)
def tment (t : Tm) (nm : ByteArray) : Bool := !tgreat t && !(tfold (mnStep nm) t 1 0 ()).1
theorem ment1_any (t : Tm) (cs : Array Value) (D : Nat → Prop) (d b : Int) (nm : ByteArray) (nb : Nat) (w : World) (hl : TmIs D w t cs) (hb : Blk w nb 9 #[.string nm]) :
    Calls Try.prog 85 #[.agg cs, .int .i64 d, .int .i64 b, .pointer (some ⟨nb, 0, none⟩)] w fun e w' => e = .returned (.bool (mnStep nm () t d b).1) ∧ Blk w' nb 9 #[.string nm] ∧ Upd (fun k => k = nb) w w' := by
 obtain ⟨x, y, z, A, c, A', c', rfl, _, _, _, _, _, _, _, _⟩ := hl.lit
 simp only [mnStep]
 have c0 : w.cell? ⟨nb, 0, none⟩ = some (.string nm) := hb.cell 0
 have hlt := hb.lt
 have HB := Lib.hid hb
 clear hb hl
 obtain ⟨k, hk⟩ : ∃ k, t.k = k := ⟨_, rfl⟩
 obtain ⟨m, hm⟩ : ∃ m, t.nm = m := ⟨_, rfl⟩
 rw [hk, hm]
 clear hk hm
 have fin : ∀ o, Blk (w.alloc o) nb 9 #[.string nm] ∧ Upd (fun k => k = nb) w (w.alloc o) := fun o => ⟨HB.out.alloc _, (Upd.refl _ w).alloc _⟩
 by_cases h1 : k = 7
 · subst h1
   have e : (decide ((7 : Int) ≠ 7) || !(m.toList == nm.toList)) = !(m.toList == nm.toList) := by simp
   rw [e]
   have FIN := Lib.hid fin; clear fin e
   go_enter Try.func85, Try.ntmps85
   go_wp2
   go_ret
   exact ⟨rfl, FIN.out _⟩
 have t1 : (k != 7) = true := by simpa using h1
 have e : (decide (k ≠ 7) || !(m.toList == nm.toList)) = true := by simp [h1]
 rw [e]
 have FIN := Lib.hid fin; clear fin e h1
 go_enter Try.func85, Try.ntmps85
 go_wp2
 go_ret
 exact ⟨rfl, FIN.out _⟩
theorem ment_visit (nb : Nat) (nm : ByteArray) (D : Nat → Prop) (h1 : ¬ D nb) : TVisit Try.prog 85 #[.pointer (some ⟨nb, 0, none⟩)] D (fun k => k = nb)
    (fun (_ : Unit) w => Blk w nb 9 #[.string nm]) (mnStep nm) where
 enter := fun _ _ => by go_simp
 stab := fun _ W W' h hk => (hk nb rfl).trans h
 ge := fun k hk e => h1 (e ▸ hk)
 lt := fun _ W h k e => e ▸ h.lt
 call := fun t cs d b s W hl hr hd _ _ _ _ => ment1_any t cs D d b nm nb W hl hr
theorem tment_any (t : Tm) (nm : ByteArray) (cs : Array Value) (D : Nat → Prop) (w : World) (hD : Within D w) (hl : TmIs D w t cs) :
    Calls Try.prog 61 #[.agg cs, .string nm] w fun e w' => e = .returned (.bool (tment t nm)) ∧ Below w.heap.size w w' := by
 have hs := hl.oneCell
 have hsi : (Try.prog.info? 27).map (·.size) = some cs.size := by rw [hs.1]; exact tm_size
 obtain ⟨X, hX⟩ : ∃ X, tment t nm = X := ⟨_, rfl⟩
 rw [hX]
 have HX := Lib.hid hX; clear hX
 obtain ⟨W1, hW1⟩ : ∃ W1, (w.alloc (.cells cs 27)).alloc (.cells #[.string nm] 9) = W1 := ⟨_, rfl⟩
 have huW1 : Upd nob w W1 := by rw [← hW1]; exact ((Upd.refl nob w).alloc _).alloc _
 have hsW1 : W1.heap.size = w.heap.size + 2 := by rw [← hW1]; simp
 have b0 : Blk W1 (w.heap.size) 27 cs := by
  rw [← hW1]
  have h := Blk.new (w) 27 cs
  exact h.alloc _
 have b1 : Blk W1 (w.heap.size + 1) 9 #[.string nm] := by
  rw [← hW1]
  have h := Blk.new (w.alloc (.cells cs 27)) 9 #[.string nm]
  rw [World.size_alloc] at h
  exact h
 have HW1 := Lib.hid hW1
 have r0 := b0.rowAt
 have B0 := Lib.hid b0
 have B1 := Lib.hid b1
 have hl1 := hl.old (hD.old huW1) (fun _ h => h)
 have hD1 := hD.up huW1
 clear hW1 b0 b1
 go_enter Try.func61, Try.ntmps61
 rw [← HW1.out] at r0
 go_wp2_with (first
       | ((with_reducible refine this_op (.load 27 (.tmp 2)) ?_); refine wpList_at rfl 27 (.tmp 2) rfl ⟨w.heap.size, 0, none⟩ rfl _ _ r0 Try.underlying27 rfl hsi ?_))
 rw [HW1.out]
 refine (tgreat_any t cs D W1 hD1 hl1).mono ?_
 rintro e w2 ⟨rfl, hb2⟩
 have hu2 : Upd nob W1 w2 := Upd.of_below hb2
 have r2 := (B0.out.upd hu2 (fun f => f)).rowAt
 have C1 := B1.out.upd hu2 (fun f => f)
 have hl2 := hl1.old (hD1.old hu2) (fun _ h => h)
 have hbw := (huW1.trans hu2)
 clear r0
 cases hg : tgreat t with
 | true =>
  have hx : X = false := by rw [← HX.out, tment, hg]; rfl
  have HG := Lib.hid hg; clear hg
  subst hx
  go_wp2_with fail
  go_ret
  exact ⟨rfl, hbw.below⟩
 | false =>
  have hvh := great_vh hg
  have hx : X = !(tfold (mnStep nm) t 1 0 ()).1 := by rw [← HX.out, tment, hg]; rfl
  have HG := Lib.hid hg; clear hg HX
  have HC1 := Lib.hid C1; clear C1
  have HX := Lib.hid hx; clear hx
  go_wp2_with (first
          | ((with_reducible refine this_op (.load 27 (.tmp 2)) ?_); go_big_want; refine owp_load_at 27 (.tmp 2) rfl ⟨w.heap.size, 0, none⟩ rfl _ _ r2 Try.underlying27 rfl hsi ?_))
  have V := ment_visit (w.heap.size + 1) nm D (fun h => by have := hD _ h; omega)
  refine (tfold_any V t cs 1 0 () w2 hl2 HC1.out (hD1.up hu2) (by omega) (by omega) (by omega) (.inl (by omega))).mono ?_
  rintro e w3 ⟨rfl, _, hu3⟩
  obtain ⟨q, hq⟩ : ∃ q, (tfold (mnStep nm) t 1 0 ()).1 = q := ⟨_, rfl⟩
  have hx := HX.out
  rw [hq] at hx ⊢
  subst hx
  have hbw3 : Below w.heap.size w w3 := (hbw.trans' hu3 (fun q hq h => by omega)).below
  clear hq HX
  cases q <;> (go_wp2_with fail; go_ret; exact ⟨rfl, hbw3⟩)
end Go.Proofs.Ytiampoebdmflgaa
/- shape.mentions. -/
namespace Go.Proofs.Ytiampoebdmflgaa
open Go.RowKit
set_option linter.unusedVariables false
attribute [local go_sem] Oper.semAt_some
set_option maxRecDepth 100000
set_option maxHeartbeats 4000000
set_option linter.unusedSimpArgs false
theorem tments_any (ts : List Tm) (nm : ByteArray) (A : Option Addr) (c tb : Nat) (D : Nat → Prop) (w : World) (hD : Within D w) (hb : Blk w tb 25 #[.slice A ts.length c]) (hlen : ts.length ≤ 140737488351232) (hts : TmsAt D w ts A 0) :
    Calls Try.prog 62 #[.func (.func 86) #[] #[.pointer (some ⟨tb, 0, none⟩)], .string nm] w fun e w' =>
     e = .returned (.bool (ts.any (fun t => tment t nm))) ∧ Below w.heap.size w w' := by
 obtain ⟨css, hcl, hcs⟩ := hts.cells
 obtain ⟨X, hX⟩ : ∃ X, ts.any (fun t => tment t nm) = X := ⟨_, rfl⟩
 rw [hX]
 have HX := Lib.hid hX; clear hX
 have htb := hb.lt
 obtain ⟨W5, hW5⟩ : ∃ W5, (w.alloc (.cells #[.string nm] 9)).alloc (.cells #[.bool false] 4) = W5 := ⟨_, rfl⟩
 have huW5 : Upd nob w W5 := by rw [← hW5]; exact ((Upd.refl nob w).alloc _).alloc _
 have hsW5 : W5.heap.size = w.heap.size + 2 := by rw [← hW5]; simp
 have b0 : Blk W5 (w.heap.size) 9 #[.string nm] := by
  rw [← hW5]
  have h := Blk.new (w) 9 #[.string nm]
  exact h.alloc _
 have b1 : Blk W5 (w.heap.size + 1) 4 #[.bool false] := by
  rw [← hW5]
  have h := Blk.new (w.alloc (.cells #[.string nm] 9)) 4 #[.bool false]
  rw [World.size_alloc] at h
  exact h
 have hD5 := hD.up huW5
 have hb5 := hb.upd huW5 (fun f => f)
 have hoD := hD.old huW5
 have HB0 := Lib.hid b0
 have HB1 := Lib.hid b1
 clear b0 b1 hb
 have HW5 := Lib.hid hW5; clear hW5
 refine callsIn_wide (n := 0).1 ?_
 refine callsIn_of_wp_marks Try.func62 rfl trivial ?_ rfl
 simp only [Try.ntmps62, List.size_toArray, List.length_cons, List.length_nil, Nat.reduceAdd, Nat.reduceSub, Array.replicate_succ, Array.replicate_zero, List.push_toArray, List.append_toArray, List.nil_append, List.cons_append]
 gi_wp2_with fail
 rw [HW5.out]
 clear HW5
 obtain ⟨xs, hxs⟩ : ∃ xs : List (Array Value), xs = css.map fun c => #[.agg c] := ⟨_, rfl⟩
 have hit := vals_spec ts css A c D tb W5 hD5 hb5 hcl hlen (fun i ci hi => by
  obtain ⟨a, l, e1, e2, e3, e4, e5⟩ := hcs i ci hi
  exact ⟨a, l, e1, e2, e3, e4.old hoD (by rw [Addr_add_block]; exact e3), e5.old hoD (fun _ h => h)⟩) xs hxs
 have hxl : xs.length = ts.length := by rw [hxs, List.length_map, hcl]
 have hxsz : ∀ x, x ∈ xs → x.size = 1 := by
  intro x hx; rw [hxs] at hx; obtain ⟨c, _, rfl⟩ := List.mem_map.1 hx; rfl
 have hxg : ∀ (j : Nat) v, xs[j]? = some v → ∃ cj, css[j]? = some cj ∧ v = #[.agg cj] := fun j v hv => by
  rw [hxs, List.getElem?_map] at hv
  cases h : css[j]? with
  | none => rw [h] at hv; cases hv
  | some cj => rw [h] at hv; exact ⟨cj, rfl, by simpa using hv.symm⟩
 have HXS := Lib.hid hxs; clear hxs
 have HXL := Lib.hid hxl; clear hxl
 have HXG := Lib.hid hxg; clear hxg
 have base : ∀ (s : Nat → Prop), (∀ q, s q → q < W5.heap.size) → Stab (fun I W => Upd s W5 W ∧ ∀ q, I q → W5.heap.size ≤ q) := fun s hs I W W' ⟨h1, h2⟩ hu =>
  ⟨h1.trans' hu (fun q hq hI => by have := h2 q hI; omega), fun q hq => by
   rcases hq with hq | hq
   · exact h2 q hq
   have := h1.size; omega⟩
 have BASE := Lib.hid base; clear base
 have HCS := Lib.hid hcs; clear hcs
 refine wpIn_range hit rfl (fun args w => by go_simp) ?_ (Keeps.refl _ _) hxsz
  (fun j I W => (ts.drop j).any (fun t => tment t nm) = X ∧ Upd nob W5 W ∧ ∀ q, I q → W5.heap.size ≤ q)
  (fun c I W => c = .ret ∧ X = true ∧ Blk W (w.heap.size + 1) 4 #[.bool true] ∧ Upd (fun q => q = w.heap.size + 1) W5 W ∧ ∀ q, I q → W5.heap.size ≤ q)
  ?sJ ?sX nob (fun _ f => f.elim) ?j0
  (fun j v a₁ I W => (∃ cj g, css[j]? = some cj ∧ a₁ = { tmps := #[.func (.func 86) #[] #[.pointer (some ⟨tb, 0, none⟩)], .string nm, undef, .pointer (some ⟨w.heap.size, 0, none⟩), .pointer (some ⟨w.heap.size + 1, 0, none⟩), .pointer (some ⟨g, 0, none⟩), .func (.func 86) #[] #[.pointer (some ⟨tb, 0, none⟩)], .agg cj, undef, undef, undef], defers := [] } ∧ Blk W g 27 cj ∧ ¬ I g ∧ g < W.heap.size) ∧ (ts.drop j).any (fun t => tment t nm) = X ∧ Upd nob W5 W ∧ ∀ q, I q → W5.heap.size ≤ q)
  ?sM ?assign ?body ?done ?stop
 · intro q hq
   rcases hq with rfl | hq
   · omega
   exact hD5 q hq
 case sJ =>
  intro j I W W' ⟨he, hu, hI⟩ h
  exact ⟨he, BASE.out nob (fun _ f => f.elim) I W W' ⟨hu, hI⟩ h⟩
 case sX =>
  intro c I W W' ⟨hc, he, hb, hu, hI⟩ h
  exact ⟨hc, he, hb.upd h (fun hh => by have := hI _ hh; omega), BASE.out _ (fun q hq => by omega) I W W' ⟨hu, hI⟩ h⟩
 case j0 => exact ⟨by rw [List.drop_zero]; exact HX.out, Upd.refl _ _, fun _ f => f.elim⟩
 case sM =>
  intro j v a₁ I W W' ⟨⟨cj, g, e1, e2, hb, hg, hgl⟩, he, hu, hI⟩ h
  refine ⟨⟨cj, g, e1, e2, hb.upd h hg, fun hh => ?_, Nat.lt_of_lt_of_le hgl h.size⟩, he, BASE.out nob (fun _ f => f.elim) I W W' ⟨hu, hI⟩ h⟩
  rcases hh with hh | hh
  · exact hg hh
  omega
 case assign =>
  intro l j v I W hv hJ hIl
  obtain ⟨cj, hc1, rfl⟩ := HXG.out j v hv
  obtain ⟨he, hu, hI⟩ := hJ
  obtain ⟨a, l', g1, g2, g3, g4, g5⟩ := HCS.out j cj hc1
  have hz := tm_zero
  have HE := Lib.hid he; clear he
  have hsz := g5.oneCell
  have hsi : (Try.prog.info? 27).map (·.size) = some cj.size := by rw [hsz.1]; exact tm_size
  clear g2
  gi_wp2_with (first
   | ((with_reducible refine this_opIn (.store 27 (.tmp 5) (.tmp 7)) ?_); refine wpListIn_store_blk (.within _) rfl 27 (.tmp 5) (.tmp 7) rfl rfl W.heap.size cj rfl rfl 27 _ (Blk.new W _ _) hsi (by rw [hsz.1]; rfl) hsz.2 ?_))
  refine ⟨((Upd.refl nob W).alloc _).setRow (.inr (Nat.le_refl _)) _ |>.keeps fun q hq => ⟨fun f => f, ?_⟩, ?_⟩
  · rcases hq with hq | hq | hq
    · exact hIl q hq
    · have := hu.size; omega
    have := hD5 q hq; have := hu.size; omega
  have hua : Upd nob W ((W.alloc (.cells #[.int .i64 0, .int .i64 0, .string ByteArray.empty, .int .i64 0, .int .i64 0, .slice none 0 0, .slice none 0 0, .slice none 0 0] 27)).setRow W.heap.size cj) := ((Upd.refl nob W).alloc _).setRow (.inr (Nat.le_refl _)) _
  refine ⟨⟨cj, W.heap.size, hc1, rfl, (Blk.new W _ _).row _, fun h => by have := hIl _ h; omega, by simp⟩, HE.out, hu.trans hua, hI⟩
 case body =>
  rintro l j v I W a₁ hv ⟨⟨cj, g, e1, rfl, hbg, hng, hgl⟩, he, hu, hI⟩ hIl _
  obtain ⟨a, l', g1, g2, g3, g4, g5⟩ := HCS.out j cj e1
  have hjk := (List.getElem?_eq_some_iff.1 g1).1
  obtain rfl : ts[j] = l' := (List.getElem?_eq_some_iff.1 g1).2
  have hoW : Old D w W := hoD.trans (hD5.old hu)
  have hDW : Within D W := hD5.up hu
  have g6 := g5.old hoW (fun _ h => h)
  have hsi : (Try.prog.info? 27).map (·.size) = some cj.size := by rw [g5.oneCell.1]; exact tm_size
  have v0 : W.cell? ⟨w.heap.size, 0, none⟩ = some (.string nm) := (HB0.out.upd hu (fun f => f)).cell 0
  have w1 := HB1.out.upd hu (fun f => f)
  have rg := hbg.rowAt
  have W1 := Lib.hid w1
  have HE := Lib.hid he
  have HG := Lib.hid hbg
  clear he w1 hbg e1 g1 g2
  gi_wp2_with (first
   | ((with_reducible refine this_opIn (.load 27 (.tmp 5)) ?_); refine wpListIn_at (.within _) rfl 27 (.tmp 5) rfl ⟨g, 0, none⟩ rfl _ _ rg Try.underlying27 rfl hsi ?_))
  refine viaCallsR (tment_any ts[j] nm cj D W hDW g6) ?_
  rintro e w9 ⟨rfl, hb9⟩
  have hu9 : Upd nob W w9 := Upd.of_below hb9
  have hu59 := hu.trans hu9
  have hszW : W5.heap.size ≤ W.heap.size := hu.size
  have k9 : Keeps (fun q => I q ∨ (q = tb ∨ D q)) W w9 := hu9.keeps fun q hq => by
   rcases hq with hq | rfl | hq
   · exact ⟨fun h => h, hIl q hq⟩
   · exact ⟨fun h => h, by omega⟩
   exact ⟨fun h => h, hDW q hq⟩
  have hdr := List.drop_eq_getElem_cons hjk
  have HE2 : Hid ((tment ts[j] nm || (ts.drop (j + 1)).any (fun t => tment t nm)) = X) := Lib.hid (by have := HE.out; rw [hdr, List.any_cons] at this; exact this)
  clear hdr HE
  have x1 := W1.out.upd hu9 (fun f => f)
  have x1c : w9.cell? ⟨w.heap.size + 1, 0, none⟩ = some (.bool false) := x1.cell 0
  have x1f := x1.frozen 0
  have X1 := Lib.hid x1
  clear x1
  cases hc2 : tment ts[j] nm with
  | false =>
   have HE3 := HE2.out
   rw [hc2, Bool.false_or] at HE3
   have HE4 := Lib.hid HE3
   clear HE2 HE3
   gi_wp2
   exact ⟨k9, HE4.out, hu59, hI⟩
  | true =>
   have HE3 := HE2.out
   rw [hc2, Bool.true_or] at HE3
   have HE4 := Lib.hid HE3
   clear HE2 HE3
   gi_wp2
   have hst : Upd (fun q => q = w.heap.size + 1) w9 (w9.setCell ⟨w.heap.size + 1, 0, none⟩ (.bool true)) := (Upd.refl (fun q => q = w.heap.size + 1) w9).setCell (p := ⟨w.heap.size + 1, 0, none⟩) (.inl rfl) _
   refine ⟨k9.trans (hst.keeps fun q hq => ⟨fun h => ?_, ?_⟩), rfl, HE4.out.symm, X1.out.set 0 _, (hu59.mono fun _ h => h.elim).trans hst, hI⟩
   · subst h
     rcases hq with hq | hq | hq
     · have := hI _ hq; omega
     · omega
     have := hD _ hq; omega
   have := hu9.size
   rcases hq with hq | rfl | hq
   · have := hIl _ hq; omega
   · omega
   have := hDW _ hq; omega
 case done =>
  intro dd I W ⟨he, hu, hI⟩ hdd hle hk _ _
  rw [HXL.out, List.drop_length] at he
  have he2 : X = false := by rw [← he]; rfl
  subst he2
  have w1 := HB1.out.upd hu (fun f => f)
  have v1 : W.cell? ⟨w.heap.size + 1, 0, none⟩ = some (.bool false) := w1.cell 0
  have f1 := w1.frozen 0
  have W1 := Lib.hid w1
  clear w1 he
  gi_wp2
  have hkk : (W.setCell ⟨w.heap.size + 1, 0, none⟩ (.bool false)).heap[dd]? = some (.deferred (some [])) := (Below.heap_setCell _ _ _ _ (by show dd ≠ w.heap.size + 1; omega)).trans hk
  refine ⟨by simp, .inl ⟨_, _, rfl, run_takeDeferred hkk, ?_⟩⟩
  have hfin : Upd (fun q => q = w.heap.size + 1 ∨ q = dd) W ((W.setCell ⟨w.heap.size + 1, 0, none⟩ (.bool false)).putObj dd (.deferred none)) :=
   ((Upd.refl (fun q => q = w.heap.size + 1 ∨ q = dd) W).setCell (p := ⟨w.heap.size + 1, 0, none⟩) (.inl (.inl rfl)) _).putObj (.inl (.inr rfl)) _
  have hc9 : ((W.setCell ⟨w.heap.size + 1, 0, none⟩ (.bool false)).putObj dd (.deferred none)).cell? ⟨w.heap.size + 1, 0, none⟩ = some (.bool false) :=
   (World.cell?_of_block (World.putObj_heap_other (by show w.heap.size + 1 ≠ dd; omega))).trans ((W1.out.set 0 _).cell 0)
  refine ⟨.bool false, results_cell1 rfl _ _ (w.heap.size + 1) _ _ rfl hc9 Try.underlying4 rfl, rfl, ?_⟩
  exact ((huW5.trans hu).trans' hfin (fun q hq h => by omega)).below
 case stop =>
  intro dd c I W ⟨hc, he, hb, hu, hI⟩ hdd hle hk _ _
  subst hc he
  gi_wp2
  refine ⟨by simp, .inl ⟨_, _, rfl, run_takeDeferred hk, ?_⟩⟩
  have hfin : Upd (fun q => q = dd) W (W.putObj dd (.deferred none)) := (Upd.refl (fun q => q = dd) W).putObj (.inl rfl) _
  have hc9 : (W.putObj dd (.deferred none)).cell? ⟨w.heap.size + 1, 0, none⟩ = some (.bool true) :=
   (World.cell?_of_block (World.putObj_heap_other (by show w.heap.size + 1 ≠ dd; omega))).trans (hb.cell 0)
  refine ⟨.bool true, results_cell1 rfl _ _ (w.heap.size + 1) _ _ rfl hc9 Try.underlying4 rfl, rfl, ?_⟩
  exact ((huW5.trans' hu (fun q hq h => by omega)).trans' hfin (fun q hq h => by omega)).below
end Go.Proofs.Ytiampoebdmflgaa
/- slices.EqualFunc of levels, by level.Equal. -/
namespace Go.Proofs.Ytiampoebdmflgaa
open Go.RowKit
set_option linter.unusedVariables false
set_option maxRecDepth 100000
set_option maxHeartbeats 4000000
set_option linter.unusedSimpArgs false
def leqs : List Lv → List Lv → Bool
 | [], [] => true
 | a :: us, b :: vs => leq a b && leqs us vs
 | _, _ => false
theorem leqs_len : ∀ {us vs : List Lv}, us.length ≠ vs.length → leqs us vs = false
 | [], [], h => absurd rfl h
 | [], _ :: _, _ => rfl
 | _ :: _, [], _ => rfl
 | a :: us, b :: vs, h => by rw [leqs, leqs_len (by simpa using h), Bool.and_false]
theorem leqs_step {us vs : List Lv} {j : Nat} (h1 : j < us.length) (h2 : j < vs.length) : leqs (us.drop j) (vs.drop j) = (leq us[j] vs[j] && leqs (us.drop (j + 1)) (vs.drop (j + 1))) := by
 rw [List.drop_eq_getElem_cons h1, List.drop_eq_getElem_cons h2, leqs]
theorem leqs_end {us vs : List Lv} {j : Nat} (h1 : us.length ≤ j) (h2 : vs.length ≤ j) : leqs (us.drop j) (vs.drop j) = true := by
 rw [List.drop_eq_nil_of_le h1, List.drop_eq_nil_of_le h2, leqs]
theorem leqf_any (la lb : List Lv) (A : Option Addr) (c : Nat) (B : Option Addr) (cb : Nat) (D : Nat → Prop) (w : World) (hD : Within D w) (hla : la.length * 40 ≤ 140737488351232 ∧ la.length ≤ c) (ha : LvsAt D w la A 0) (hlb : lb.length * 40 ≤ 140737488351232 ∧ lb.length ≤ cb) (hb : LvsAt D w lb B 0) :
    Calls Try.prog 108 #[.slice A la.length c, .slice B lb.length cb, .func (.func 107) #[] #[]] w fun e w' => e = .returned (.bool (leqs la lb)) ∧ Below w.heap.size w w' := by
 have hz := lv_zero
 obtain ⟨X, hX⟩ : ∃ X, leqs la lb = X := ⟨_, rfl⟩
 rw [hX]
 have HX := Lib.hid hX; clear hX
 by_cases hne : la.length = lb.length
 · obtain ⟨m, hm⟩ : ∃ m, la.length = m := ⟨_, rfl⟩
   have hm2 : lb.length = m := by omega
   have HM := Lib.hid hm
   have HM2 := Lib.hid hm2
   rw [hm] at hla ⊢
   rw [hm2] at hlb ⊢
   clear hne hm hm2
   go_enter Try.func108, Try.ntmps108
   go_wp2_with fail
   go_loopg [17] m (fun k v wr => ∃ j : Nat, j + k = m ∧ v = .int .i64 j ∧ leqs (la.drop j) (lb.drop j) = X ∧ Upd nob w wr)
   case atStart => exact ⟨0, by omega, rfl, by rw [List.drop_zero, List.drop_zero]; exact HX.out, Upd.refl _ _⟩
   case round =>
    obtain ⟨j, hj, rfl, hx, hu⟩ := hrel
    clear HX
    rcases Nat.eq_zero_or_pos gk with hk0 | hk0
    · have t2 : decide ((j : Int) < m) = false := by simp; omega
      have hx2 : X = true := by rw [← hx]; exact leqs_end (by rw [HM.out]; omega) (by rw [HM2.out]; omega)
      subst hx2
      clear hx
      go_wp2_with fail
      go_ret
      exact ⟨rfl, hu.below⟩
    have hjm : j < m := by omega
    have t2 : decide ((j : Int) < m) = true := by simp [hjm]
    have hj1 : j < la.length := by rw [HM.out]; exact hjm
    have hj2 : j < lb.length := by rw [HM2.out]; exact hjm
    rw [leqs_step hj1 hj2] at hx
    obtain ⟨a, cs1, hA, hab, hr1, hl1⟩ := ha.at_ (List.getElem?_eq_getElem hj1)
    obtain ⟨b, cs2, hB, hbb, hr2, hl2⟩ := hb.at_ (List.getElem?_eq_getElem hj2)
    have ho := hD.old hu
    have r1 := hr1.old ho (by rw [Addr_add_block]; exact hab)
    have r2 := hr2.old ho (by rw [Addr_add_block]; exact hbb)
    have k1 := hl1.old ho (fun _ h => h)
    have k2 := hl2.old ho (fun _ h => h)
    rw [Nat.zero_add] at r1 r2
    obtain ⟨x1, x2, x3, x4, x5, rfl⟩ := k1.lit3
    obtain ⟨y1, y2, y3, y4, y5, rfl⟩ := k2.lit3
    have r2b := r2
    obtain ⟨W1, hW1⟩ : ∃ W1, wr.alloc (.cells #[.int .i64 x1, .int .i64 x2, .slice x3 x4 x5] 24) = W1 := ⟨_, rfl⟩
    have huW1 : Upd nob wr W1 := by rw [← hW1]; exact (Upd.refl nob wr).alloc _
    have hDW1 := (hD.up hu).up huW1
    have r2c : rowAt (wr.alloc (.cells #[.int .i64 x1, .int .i64 x2, .slice x3 x4 x5] 24)) (b.add (j * 3)) #[.int .i64 y1, .int .i64 y2, .slice y3 y4 y5] := r2.old ((hD.up hu).old ((Upd.refl nob wr).alloc _)) (by rw [Addr_add_block]; exact hbb)
    have HX := Lib.hid hx
    have HA := Lib.hid hA
    have HB := Lib.hid hB
    clear hx hA hB hr1 hr2 hl1 hl2 hW1 r2 r2b huW1 hDW1
    have hp : ∀ Wx, Upd nob wr Wx → Calls Try.prog 107 #[.agg #[.int .i64 x1, .int .i64 x2, .slice x3 x4 x5], .agg #[.int .i64 y1, .int .i64 y2, .slice y3 y4 y5]] Wx fun e w' => e = .returned (.bool (leq la[j] lb[j])) ∧ Below Wx.heap.size Wx w' := fun Wx hux =>
     lequal_any _ _ _ _ D Wx ((hD.up hu).up hux) (k1.old ((hD.up hu).old hux) (fun _ h => h)) (k2.old ((hD.up hu).old hux) (fun _ h => h))
    have HP := Lib.hid hp
    clear hp
    go_wp2_with (first
                | ((with_reducible refine this_op (.indexAddr 22 (.tmp 15) (.tmp 17)) ?_); refine wpList_index_at rfl 22 (.tmp 15) (.tmp 17) rfl _ a _ _ rfl HA.out j rfl hjm 24 Try.underlying22 3 lv_size ?_)
                | ((with_reducible refine this_op (.load 24 (.tmp 20)) ?_); refine wpList_at rfl 24 (.tmp 20) rfl (a.add (j * 3)) rfl _ _ r1 Try.underlying24 rfl lv_size ?_)
                | ((with_reducible refine this_op (.indexAddr 22 (.tmp 22) (.tmp 23)) ?_); refine wpList_index_at rfl 22 (.tmp 22) (.tmp 23) rfl _ b _ _ rfl HB.out j rfl hjm 24 Try.underlying22 3 lv_size ?_)
                | ((with_reducible refine this_op (.load 24 (.tmp 24)) ?_); refine wpList_at rfl 24 (.tmp 24) rfl (b.add (j * 3)) rfl _ _ r2c Try.underlying24 rfl lv_size ?_))
    refine (HP.out _ (((Upd.refl nob wr).alloc _).alloc _)).mono ?_
    rintro e w3 ⟨rfl, hb3⟩
    have hu3 : Upd nob w w3 := (hu.trans (((Upd.refl nob wr).alloc _).alloc _)).trans (Upd.of_below hb3)
    have hx := HX.out
    obtain ⟨q, hq⟩ : ∃ q, leq la[j] lb[j] = q := ⟨_, rfl⟩
    rw [hq] at hx ⊢
    clear hq HX HP
    cases q with
    | true =>
     rw [Bool.true_and] at hx
     have HX := Lib.hid hx; clear hx
     go_wp2_with fail
     go_roundg (gk - 1)
     case measure => omega
     case rel => exact ⟨j + 1, by omega, by simp, HX.out, hu3⟩
    | false =>
     rw [Bool.false_and] at hx
     subst hx
     go_wp2_with fail
     go_ret
     exact ⟨rfl, hu3.below⟩
 have hx : X = false := by rw [← HX.out]; exact leqs_len hne
 have t1 : ((la.length : Int) != lb.length) = true := by simp; omega
 obtain ⟨m, hm⟩ : ∃ m, la.length = m := ⟨_, rfl⟩
 obtain ⟨m2, hm2⟩ : ∃ m, lb.length = m := ⟨_, rfl⟩
 rw [hm, hm2] at t1 ⊢
 rw [hx]
 clear hne hm hm2
 go_enter Try.func108, Try.ntmps108
 go_wp2
 go_ret
 exact ⟨rfl, (Upd.refl nob w).below⟩
end Go.Proofs.Ytiampoebdmflgaa
/- term.same. -/
namespace Go.Proofs.Ytiampoebdmflgaa
open Go.RowKit
set_option linter.unusedVariables false
set_option maxRecDepth 100000
set_option maxHeartbeats 4000000
set_option linter.unusedSimpArgs false
mutual
def tsame : Tm → Tm → Bool
 | .mk k n nm lv ls ks, b =>
  if k ≠ b.k ∨ (Tm.mk k n nm lv ls ks).leaf ≠ b.leaf then false
  else if k = 1 then n == b.n else if k = 2 then leq lv b.lv else if k = 7 then (nm.toList == b.nm.toList && leqs ls b.ls)
  else if (Tm.mk k n nm lv ls ks).leaf = true then true else tsames (tar k).toNat ks b.ks
def tsames : Nat → List Tm → List Tm → Bool
 | 0, _, _ => true
 | m + 1, a :: as_, b :: bs => tsame a b && tsames m as_ bs
 | _ + 1, _, _ => true
end
theorem tsame_eq {k n : Int} {nm : ByteArray} {lv : Lv} {ls : List Lv} {ks : List Tm} {b : Tm} (h : k = b.k) (hl : (Tm.mk k n nm lv ls ks).leaf = b.leaf) :
    tsame (.mk k n nm lv ls ks) b = if k = 1 then n == b.n else if k = 2 then leq lv b.lv else if k = 7 then (nm.toList == b.nm.toList && leqs ls b.ls) else if (Tm.mk k n nm lv ls ks).leaf = true then true else tsames (tar k).toNat ks b.ks := by
 rw [tsame, if_neg (fun hh => hh.elim (fun h1 => h1 h) (fun h1 => h1 hl))]
theorem tsame_any (a : Tm) : ∀ (b : Tm) (ca cb : Array Value) (D : Nat → Prop) (w : World), Within D w → TmIs D w a ca → TmIs D w b cb →
    Calls Try.prog 81 #[.agg ca, .agg cb] w fun e w' => e = .returned (.bool (tsame a b)) ∧ Below w.heap.size w w' := by
 induction a using Tm.ind with
 | h ka na nma lva lsa ksa ih =>
  intro b ca cb D w hD ha hb
  obtain ⟨kb, nb, nmb, lvb, lsb, ksb⟩ := b
  have ha0 := Lib.hid ha
  have hb0 := Lib.hid hb
  obtain ⟨xa, ya, za, Aa, c_a, Aa', c_a', rfl, hka, hna, hnma, hlva, hls1a, hlsa, hks1a, hksa⟩ := ha.lit
  obtain ⟨xb, yb, zb, Ab, c_b, Ab', c_b', rfl, hkb, hnb, hnmb, hlvb, hls1b, hlsb, hks1b, hksb⟩ := hb.lit
  simp only [Tm.k, Tm.n, Tm.nm, Tm.lv, Tm.ls, Tm.ks] at ha0 hb0 hka hna hnma hlva hls1a hlsa hks1a hksa hkb hnb hnmb hlvb hls1b hlsb hks1b hksb ⊢
  clear ha hb
  obtain ⟨X, hX⟩ : ∃ X, tsame (.mk ka na nma lva lsa ksa) (.mk kb nb nmb lvb lsb ksb) = X := ⟨_, rfl⟩
  rw [hX]
  have HX := Lib.hid hX; clear hX
  obtain ⟨W1, hW1⟩ : ∃ W1, (w.alloc (.cells #[.int .i64 ka, .int .i64 na, .string nma, xa, ya, za, .slice Aa lsa.length c_a, .slice Aa' ksa.length c_a'] 27)).alloc (.cells #[.int .i64 kb, .int .i64 nb, .string nmb, xb, yb, zb, .slice Ab lsb.length c_b, .slice Ab' ksb.length c_b'] 27) = W1 := ⟨_, rfl⟩
  have huW1 : Upd nob w W1 := by rw [← hW1]; exact ((Upd.refl nob w).alloc _).alloc _
  have hsW1 : W1.heap.size = w.heap.size + 2 := by rw [← hW1]; simp
  have b0 : Blk W1 (w.heap.size) 27 #[.int .i64 ka, .int .i64 na, .string nma, xa, ya, za, .slice Aa lsa.length c_a, .slice Aa' ksa.length c_a'] := by
   rw [← hW1]
   have h := Blk.new (w) 27 #[.int .i64 ka, .int .i64 na, .string nma, xa, ya, za, .slice Aa lsa.length c_a, .slice Aa' ksa.length c_a']
   exact h.alloc _
  have b1 : Blk W1 (w.heap.size + 1) 27 #[.int .i64 kb, .int .i64 nb, .string nmb, xb, yb, zb, .slice Ab lsb.length c_b, .slice Ab' ksb.length c_b'] := by
   rw [← hW1]
   have h := Blk.new (w.alloc (.cells #[.int .i64 ka, .int .i64 na, .string nma, xa, ya, za, .slice Aa lsa.length c_a, .slice Aa' ksa.length c_a'] 27)) 27 #[.int .i64 kb, .int .i64 nb, .string nmb, xb, yb, zb, .slice Ab lsb.length c_b, .slice Ab' ksb.length c_b']
   rw [World.size_alloc] at h
   exact h
  have HW1 := Lib.hid hW1
  have B0 := Lib.hid b0
  have B1 := Lib.hid b1
  have hDW := hD.up huW1
  have ha1 := Lib.hid (ha0.out.old (hD.old huW1) (fun _ h => h))
  have hb1 := Lib.hid (hb0.out.old (hD.old huW1) (fun _ h => h))
  have q0 : W1.cell? ⟨w.heap.size, 0, none⟩ = some (.int .i64 ka) := b0.cell 0
  have q1 : W1.cell? ⟨w.heap.size + 1, 0, none⟩ = some (.int .i64 kb) := b1.cell 0
  have r0 := b0.rowAt
  have r1 := b1.rowAt
  clear hW1 b0 b1
  go_enter Try.func81, Try.ntmps81
  go_wp2_with fail
  rw [HW1.out]
  by_cases hkk : ka = kb
  · subst hkk
    have t1 : (ka != ka) = false := by simp
    refine wp_region_P (by kernel_rfl) ?_
    refine wpAny_of_E (fun X : World => ∀ p : Addr, p.block < W1.heap.size → X.cell? p = W1.cell? p) 11 _ _ _ _ ?_
    have hS : ∀ p : Addr, p.block < W1.heap.size → W1.drew.cell? p = W1.cell? p := fun _ _ => rfl
    refine eT 0 ?_ [5, 4, 1] rfl (by kernel_rfl) (by rfl) ?_ hS ?_
    rotate_left; · intro wx hx; clear hx; go_simp; with_reducible rfl
    try simp only [tl]
    refine eT 1 ?_ [5, 4] rfl (by kernel_rfl) (by rfl) ?_ hS ?_
    rotate_left
    · intro wx hx
      have q0 := (hx ⟨w.heap.size, 0, none⟩ (by show w.heap.size < _; omega)).trans q0
      clear hx
      go_simp
      with_reducible rfl
    try simp only [tl]
    refine eT 2 ?_ [5, 4, 3] rfl (by kernel_rfl) (by rfl) ?_ hS ?_
    rotate_left; · intro wx hx; clear hx; go_simp; with_reducible rfl
    try simp only [tl]
    refine eT 3 ?_ [5, 4] rfl (by kernel_rfl) (by rfl) ?_ hS ?_
    rotate_left
    · intro wx hx
      have q0 := (hx ⟨w.heap.size + 1, 0, none⟩ (by show w.heap.size + 1 < _; omega)).trans q1
      clear hx
      go_simp
      with_reducible rfl
    try simp only [tl]
    refine eT 4 ?_ [5] rfl (by kernel_rfl) (by rfl) ?_ hS ?_
    rotate_left; · intro wx hx; clear hx; go_simp; with_reducible rfl
    try simp only [tl]
    refine eT 5 ?_ [] rfl (by kernel_rfl) (by rfl) ?_ hS ?_
    rotate_left; · intro wx hx; clear hx; go_simp; with_reducible rfl
    try simp only [tl]
    refine eT 6 (.agg #[.int .i64 ka, .int .i64 na, .string nma, xa, ya, za, .slice Aa lsa.length c_a, .slice Aa' ksa.length c_a']) [10, 7] rfl (by kernel_rfl) (by rfl) ?_ hS ?_
    · intro wx hx
      exact run_load_at 27 (.tmp 2) rfl ⟨w.heap.size, 0, none⟩ rfl #[.int .i64 ka, .int .i64 na, .string nma, xa, ya, za, .slice Aa lsa.length c_a, .slice Aa' ksa.length c_a'] _ (row_on r0 (by show w.heap.size < _; omega) hx) Try.underlying27 rfl tm_size
    try simp only [tl]
    refine eT 8 (.agg #[.int .i64 ka, .int .i64 nb, .string nmb, xb, yb, zb, .slice Ab lsb.length c_b, .slice Ab' ksb.length c_b']) [10, 9] rfl (by kernel_rfl) (by rfl) ?_ hS ?_
    · intro wx hx
      exact run_load_at 27 (.tmp 3) rfl ⟨w.heap.size + 1, 0, none⟩ rfl #[.int .i64 ka, .int .i64 nb, .string nmb, xb, yb, zb, .slice Ab lsb.length c_b, .slice Ab' ksb.length c_b'] _ (row_on r1 (by show w.heap.size + 1 < _; omega) hx) Try.underlying27 rfl tm_size
    try simp only [tl]
    refine wpAnyE_one (i := 7) (by kernel_rfl) (by kernel_rfl) rfl (by rfl) fun K hK => ?_
    go_simp
    refine (tleaf_any _ _ D W1.drew ha1.out.drew).mono ?_
    rintro e w3 ⟨rfl, hb3⟩
    have hu3 : Upd nob W1 w3 := ((Upd.refl nob W1).drew).trans (Upd.of_below hb3)
    refine hK _ _ (cells_of_upd hu3) ?_
    clear hK K; try simp only [tl]
    refine wpAnyE_one (i := 9) (by kernel_rfl) (by kernel_rfl) rfl (by rfl) fun K hK => ?_
    go_simp
    refine (tleaf_any _ _ D w3 (hb1.out.old (hDW.old hu3) (fun _ h => h))).mono ?_
    rintro e w4 ⟨rfl, hb4⟩
    have hu4 : Upd nob W1 w4 := hu3.trans (Upd.of_below hb4)
    refine hK _ _ (cells_of_upd hu4) ?_
    clear hK K; try simp only [tl]
    obtain ⟨la, hla⟩ : ∃ x, (Tm.mk ka na nma lva lsa ksa).leaf = x := ⟨_, rfl⟩
    obtain ⟨lb, hlb⟩ : ∃ x, (Tm.mk ka nb nmb lvb lsb ksb).leaf = x := ⟨_, rfl⟩
    rw [hla, hlb]
    have HLA := Lib.hid hla
    have HLB := Lib.hid hlb
    clear hla hlb
    refine wpAnyE_one (i := 10) (by kernel_rfl) (by kernel_rfl) rfl (by rfl) fun K hK => ?_
    go_simp
    refine hK _ _ (cells_of_upd hu4) ?_
    clear hK K; try simp only [tl]
    refine wpAnyE_z (by kernel_rfl) rfl (by rfl) fun K hK => ?_
    go_simp
    refine hK _ _ ?_
    clear hK K; try simp only [tl]
    refine wpAny_done (by kernel_rfl) ?_ _
    refine NoPanic.normal ?_
    have hu9 : Upd nob w w4 := huW1.trans hu4
    have C0 := B0.out.upd hu4 (fun f => f)
    have C1 := B1.out.upd hu4 (fun f => f)
    have p00 : w4.cell? ⟨w.heap.size, 0, none⟩ = some (.int .i64 ka) := C0.cell 0
    have p01 : w4.cell? ⟨w.heap.size, 1, none⟩ = some (.int .i64 na) := C0.cell 1
    have p02 : w4.cell? ⟨w.heap.size, 2, none⟩ = some (.string nma) := C0.cell 2
    have p06 : w4.cell? ⟨w.heap.size, 6, none⟩ = some (.slice Aa lsa.length c_a) := C0.cell 6
    have p07 : w4.cell? ⟨w.heap.size, 7, none⟩ = some (.slice Aa' ksa.length c_a') := C0.cell 7
    have p10 : w4.cell? ⟨w.heap.size + 1, 0, none⟩ = some (.int .i64 ka) := C1.cell 0
    have p11 : w4.cell? ⟨w.heap.size + 1, 1, none⟩ = some (.int .i64 nb) := C1.cell 1
    have p12 : w4.cell? ⟨w.heap.size + 1, 2, none⟩ = some (.string nmb) := C1.cell 2
    have p16 : w4.cell? ⟨w.heap.size + 1, 6, none⟩ = some (.slice Ab lsb.length c_b) := C1.cell 6
    have p17 : w4.cell? ⟨w.heap.size + 1, 7, none⟩ = some (.slice Ab' ksb.length c_b') := C1.cell 7
    have v0 := C0.rowAt
    have u0 := sub_row C0.rowAt 3 #[xa, ya, za] (fun j v hv => by rcases j with _ | _ | _ | j <;> simp at hv ⊢ <;> exact hv)
    have u1 := sub_row C1.rowAt 3 #[xb, yb, zb] (fun j v hv => by rcases j with _ | _ | _ | j <;> simp at hv ⊢ <;> exact hv)
    have hD4 := hD.up hu9
    have hlv4a := hlva.old (hD.old hu9) (fun _ h => h)
    have hlv4b := hlvb.old (hD.old hu9) (fun _ h => h)
    have hls4a := hlsa.old (hD.old hu9) (fun _ h => h)
    have hls4b := hlsb.old (hD.old hu9) (fun _ h => h)
    have ha4 := Lib.hid (ha0.out.old (hD.old hu9) (fun _ h => h))
    have hb4' := Lib.hid (hb0.out.old (hD.old hu9) (fun _ h => h))
    clear q0 q1 r0 r1 C0 C1 hS
    by_cases hll : la = lb
    · subst hll
      have hXX : X = if ka = 1 then na == nb else if ka = 2 then leq lva lvb else if ka = 7 then (nma.toList == nmb.toList && leqs lsa lsb) else if (Tm.mk ka na nma lva lsa ksa).leaf = true then true else tsames (tar ka).toNat ksa ksb :=
       HX.out.symm.trans (tsame_eq (b := .mk ka nb nmb lvb lsb ksb) rfl (by rw [HLA.out, HLB.out]))
      clear HX
      have t3 : (!la == la) = false := by cases la <;> rfl
      rw [t3]
      by_cases hk1 : ka = 1
      · subst hk1
        have hx : X = (na == nb) := by rw [hXX, if_pos rfl]
        clear hXX
        subst hx
        go_wp2_with fail
        go_ret
        exact ⟨rfl, hu9.below⟩
      by_cases hk2 : ka = 2
      · subst hk2
        have hx : X = leq lva lvb := by rw [hXX, if_neg (by decide), if_pos rfl]
        clear hXX
        subst hx
        go_wp2_with (first
                      | ((with_reducible refine this_op (.load 24 (.tmp 29)) ?_); refine wpList_at rfl 24 (.tmp 29) rfl ⟨w.heap.size, 3, none⟩ rfl _ _ u0 Try.underlying24 rfl lv_size ?_)
                      | ((with_reducible refine this_op (.load 24 (.tmp 31)) ?_); refine wpList_at rfl 24 (.tmp 31) rfl ⟨w.heap.size + 1, 3, none⟩ rfl _ _ u1 Try.underlying24 rfl lv_size ?_))
        refine (lequal_any _ _ _ _ D w4 hD4 hlv4a hlv4b).mono ?_
        rintro e w5 ⟨rfl, hb5⟩
        have hu5 : Upd nob w w5 := hu9.trans (Upd.of_below hb5)
        go_wp2_with fail
        go_ret
        exact ⟨rfl, hu5.below⟩
      by_cases hk7 : ka = 7
      · subst hk7
        have hx : X = (nma.toList == nmb.toList && leqs lsa lsb) := by rw [hXX, if_neg (by decide), if_neg (by decide), if_pos rfl]
        clear hXX
        obtain ⟨q, hq⟩ : ∃ q, (nma.toList == nmb.toList) = q := ⟨_, rfl⟩
        obtain ⟨q2, hq2⟩ : ∃ q2, leqs lsa lsb = q2 := ⟨_, rfl⟩
        rw [hq, hq2] at hx
        have HQ2 := Lib.hid hq2
        subst hx
        clear hq2
        cases q with
        | false =>
         go_wp2_with fail
         go_ret
         exact ⟨rfl, hu9.below⟩
        | true =>
         go_wp2_with fail
         refine (leqf_any lsa lsb Aa c_a Ab c_b D w4 hD4 hls1a hls4a hls1b hls4b).mono ?_
         rintro e w5 ⟨rfl, hb5⟩
         have hu5 : Upd nob w w5 := hu9.trans (Upd.of_below hb5)
         rw [HQ2.out]
         clear HQ2
         cases q2 <;> (go_wp2_with fail; go_ret; exact ⟨rfl, hu5.below⟩)
      have e1 : (ka == 1) = false := by simpa using hk1
      have e2 : (ka == 2) = false := by simpa using hk2
      have e7 : (ka == 7) = false := by simpa using hk7
      have hx : X = if la = true then true else tsames (tar ka).toNat ksa ksb := by rw [hXX, if_neg hk1, if_neg hk2, if_neg hk7, HLA.out]
      clear hXX
      have HK := Lib.hid (And.intro hk1 (And.intro hk2 hk7))
      clear hk1 hk2 hk7
      have HX := Lib.hid hx; clear hx
      go_wp2_with (first
                    | ((with_reducible refine this_op (.load 27 (.tmp 2)) ?_); refine wpList_at rfl 27 (.tmp 2) rfl ⟨w.heap.size, 0, none⟩ rfl _ _ v0 Try.underlying27 rfl tm_size ?_))
      refine (tleaf_any _ _ D w4 ha4.out).mono ?_
      rintro e w5 ⟨rfl, hb5⟩
      have hu5 : Upd nob w w5 := hu9.trans (Upd.of_below hb5)
      rw [HLA.out]
      cases la with
      | true =>
       have hx : X = true := by rw [HX.out, if_pos rfl]
       clear HX
       subst hx
       go_wp2_with fail
       go_ret
       exact ⟨rfl, hu5.below⟩
      | false =>
       have hx : X = tsames (tar ka).toNat ksa ksb := by rw [HX.out, if_neg (by decide)]
       clear HX
       have h1 : (decide (tar ka < 1) || decide ((ksa.length : Int) < tar ka)) = false := HLA.out
       have h2 : (decide (tar ka < 1) || decide ((ksb.length : Int) < tar ka)) = false := HLB.out
       simp only [Bool.or_eq_false_iff, decide_eq_false_iff_not] at h1 h2
       have hta := tarity_any ka
       obtain ⟨m, hm⟩ : ∃ m : Nat, tar ka = m := ⟨(tar ka).toNat, by omega⟩
       have htl := tar_le ka
       rw [hm] at hx h1 h2 hta htl
       have hm1 : m ≤ ksa.length := by omega
       have hm2 : m ≤ ksb.length := by omega
       have hm3 : m ≤ 3 := by omega
       have hmn : ((m : Int)).toNat = m := by omega
       rw [hmn] at hx
       have HX := Lib.hid hx
       have huV : Upd nob W1 w5 := hu4.trans (Upd.of_below hb5)
       have p00 : w5.cell? ⟨w.heap.size, 0, none⟩ = some (.int .i64 ka) := (B0.out.upd huV (fun f => f)).cell 0
       clear h1 h2 hm hx htl hmn
       go_wp2_with fail
       refine (hta w5).mono ?_
       rintro e w6 ⟨rfl, rfl⟩
       clear hta
       go_wp2_with fail
       go_loopg [53] m (fun q v wr => ∃ j : Nat, j + q = m ∧ v = .int .i64 j ∧ tsames (m - j) (ksa.drop j) (ksb.drop j) = X ∧ Upd nob W1 wr)
       case atStart => exact ⟨0, by omega, rfl, by rw [List.drop_zero, List.drop_zero, Nat.sub_zero]; exact HX.out.symm, huV⟩
       case round =>
        clear HX p00
        obtain ⟨j, hj, rfl, hx, hur⟩ := hrel
        rcases Nat.eq_zero_or_pos gk with hk0 | hk0
        · have t2 : decide ((j : Int) < m) = false := by simp; omega
          rw [show m - j = 0 by omega, tsames] at hx
          subst hx
          go_wp2_with fail
          go_ret
          exact ⟨rfl, (huW1.trans hur).below⟩
        have hjm : j < m := by omega
        have t2 : decide ((j : Int) < m) = true := by simp [hjm]
        have hj1 : j < ksa.length := by omega
        have hj2 : j < ksb.length := by omega
        rw [show m - j = (m - (j + 1)) + 1 by omega, List.drop_eq_getElem_cons hj1, List.drop_eq_getElem_cons hj2, tsames] at hx
        have huwr := huW1.trans hur
        obtain ⟨a, cs1, hA, hab, hr1, hl1⟩ := hksa.at_ (List.getElem?_eq_getElem hj1)
        obtain ⟨b, cs2, hB, hbb, hr2, hl2⟩ := hksb.at_ (List.getElem?_eq_getElem hj2)
        have ho := hD.old huwr
        have r1 := hr1.old ho (by rw [Addr_add_block]; exact hab)
        have r2 := hr2.old ho (by rw [Addr_add_block]; exact hbb)
        have k1 := hl1.old ho (fun _ h => h)
        have k2 := hl2.old ho (fun _ h => h)
        rw [Nat.zero_add] at r1 r2
        have hs1 : (Try.prog.info? 27).map (·.size) = some cs1.size := by rw [k1.oneCell.1]; exact tm_size
        have hs2 : (Try.prog.info? 27).map (·.size) = some cs2.size := by rw [k2.oneCell.1]; exact tm_size
        have p07 : wr.cell? ⟨w.heap.size, 7, none⟩ = some (.slice Aa' ksa.length c_a') := (B0.out.upd hur (fun f => f)).cell 7
        have p17 : wr.cell? ⟨w.heap.size + 1, 7, none⟩ = some (.slice Ab' ksb.length c_b') := (B1.out.upd hur (fun f => f)).cell 7
        have hba := hD _ hab
        have hbb' := hD _ hbb
        have hwz := huwr.size
        have hsw := hur.size
        have HX := Lib.hid hx
        have HA := Lib.hid hA
        have HB := Lib.hid hB
        have hDr := hD.up huwr
        have hmem : ksa[j] ∈ ksa := List.getElem_mem hj1
        clear hx hA hB hr1 hr2 hl1 hl2
        go_wp2_with fail
        refine wp_region_P (by kernel_rfl) ?_
        refine wpAny_of_E (fun X : World => ∀ p : Addr, p.block < wr.heap.size → X.cell? p = wr.cell? p) 10 _ _ _ _ ?_
        have hS : ∀ p : Addr, p.block < wr.heap.size → wr.drew.cell? p = wr.cell? p := fun _ _ => rfl
        refine eT 0 ?_ [4, 3, 1] rfl (by kernel_rfl) (by rfl) ?_ hS ?_
        rotate_left; · intro wx hx; clear hx; go_simp; with_reducible rfl
        try simp only [tl]
        refine eT 1 ?_ [4, 3] rfl (by kernel_rfl) (by rfl) ?_ hS ?_
        rotate_left
        · intro wx hx
          have q0 := (hx ⟨w.heap.size, 7, none⟩ (by show w.heap.size < _; omega)).trans p07
          clear hx
          go_simp
          with_reducible rfl
        try simp only [tl]
        refine eT 2 ?_ [4, 3] rfl (by kernel_rfl) (by rfl) ?_ hS ?_
        rotate_left; · intro wx hx; clear hx; go_simp; with_reducible rfl
        try simp only [tl]
        refine eT 3 (.pointer (some (Addr.add a (j * 8)))) [4] rfl (by kernel_rfl) (by rfl) ?_ hS ?_
        · intro wx hx
          exact run_index_at 25 (.tmp 57) (.tmp 58) rfl _ a _ _ rfl HA.out j rfl hj1 27 Try.underlying25 8 tm_size
        try simp only [tl]
        refine eT 4 (.agg cs1) [] rfl (by kernel_rfl) (by rfl) ?_ hS ?_
        · intro wx hx
          exact run_load_at 27 (.tmp 59) rfl (Addr.add a (j * 8)) rfl cs1 _ (row_on r1 (by rw [Addr_add_block]; omega) hx) Try.underlying27 rfl hs1
        try simp only [tl]
        refine eT 5 ?_ [9, 8, 6] rfl (by kernel_rfl) (by rfl) ?_ hS ?_
        rotate_left; · intro wx hx; clear hx; go_simp; with_reducible rfl
        try simp only [tl]
        refine eT 6 ?_ [9, 8] rfl (by kernel_rfl) (by rfl) ?_ hS ?_
        rotate_left
        · intro wx hx
          have q0 := (hx ⟨w.heap.size + 1, 7, none⟩ (by show w.heap.size + 1 < _; omega)).trans p17
          clear hx
          go_simp
          with_reducible rfl
        try simp only [tl]
        refine eT 7 ?_ [9, 8] rfl (by kernel_rfl) (by rfl) ?_ hS ?_
        rotate_left; · intro wx hx; clear hx; go_simp; with_reducible rfl
        try simp only [tl]
        refine eT 8 (.pointer (some (Addr.add b (j * 8)))) [9] rfl (by kernel_rfl) (by rfl) ?_ hS ?_
        · intro wx hx
          exact run_index_at 25 (.tmp 62) (.tmp 63) rfl _ b _ _ rfl HB.out j rfl hj2 27 Try.underlying25 8 tm_size
        try simp only [tl]
        refine eT 9 (.agg cs2) [] rfl (by kernel_rfl) (by rfl) ?_ hS ?_
        · intro wx hx
          exact run_load_at 27 (.tmp 64) rfl (Addr.add b (j * 8)) rfl cs2 _ (row_on r2 (by rw [Addr_add_block]; omega) hx) Try.underlying27 rfl hs2
        try simp only [tl]
        refine wpAnyE_z (by kernel_rfl) rfl (by rfl) fun K hK => ?_
        go_simp
        refine (ih ksa[j] hmem ksb[j] cs1 cs2 D wr.drew hDr.drew k1.drew k2.drew).mono ?_
        rintro e w7 ⟨rfl, hb7⟩
        have hu7 : Upd nob W1 w7 := hur.trans (((Upd.refl nob wr).drew).trans (Upd.of_below hb7))
        obtain ⟨q, hq⟩ : ∃ q, tsame ksa[j] ksb[j] = q := ⟨_, rfl⟩
        rw [hq]
        refine hK _ _ ?_
        clear hK K; try simp only [tl]
        refine wpAny_one (i := 11) (by kernel_rfl) rfl (by rfl) fun K hK => ?_
        go_simp
        refine hK _ _ ?_
        clear hK K; try simp only [tl]
        refine wpAny_done (by kernel_rfl) ?_ _
        refine NoPanic.normal ?_
        have hx := HX.out
        rw [hq] at hx
        clear HX hq
        cases q with
        | true =>
         rw [Bool.true_and] at hx
         have HX := Lib.hid hx; clear hx
         go_wp2_with fail
         go_roundg (gk - 1)
         case measure => omega
         case rel => exact ⟨j + 1, by omega, by simp, HX.out, hu7⟩
        | false =>
         rw [Bool.false_and] at hx
         subst hx
         go_wp2_with fail
         go_ret
         exact ⟨rfl, (huW1.trans hu7).below⟩
    have hx : X = false := by rw [← HX.out, tsame, if_pos (.inr (by rw [HLA.out, HLB.out]; exact hll))]
    have t3 : (!la == lb) = true := by simpa using hll
    rw [t3]
    subst hx
    clear HX
    go_wp2_with fail
    go_ret
    exact ⟨rfl, hu9.below⟩
  have t1 : (ka != kb) = true := by simpa using hkk
  have hx : X = false := by rw [← HX.out, tsame, if_pos (.inl hkk)]
  subst hx
  clear HX
  refine wp_region_P (by kernel_rfl) ?_
  refine wpAny_of_E (fun X : World => ∀ p : Addr, p.block < W1.heap.size → X.cell? p = W1.cell? p) 11 _ _ _ _ ?_
  have hS : ∀ p : Addr, p.block < W1.heap.size → W1.drew.cell? p = W1.cell? p := fun _ _ => rfl
  refine eT 0 ?_ [5, 4, 1] rfl (by kernel_rfl) (by rfl) ?_ hS ?_
  rotate_left; · intro wx hx; clear hx; go_simp; with_reducible rfl
  try simp only [tl]
  refine eT 1 ?_ [5, 4] rfl (by kernel_rfl) (by rfl) ?_ hS ?_
  rotate_left
  · intro wx hx
    have q0 := (hx ⟨w.heap.size, 0, none⟩ (by show w.heap.size < _; omega)).trans q0
    clear hx
    go_simp
    with_reducible rfl
  try simp only [tl]
  refine eT 2 ?_ [5, 4, 3] rfl (by kernel_rfl) (by rfl) ?_ hS ?_
  rotate_left; · intro wx hx; clear hx; go_simp; with_reducible rfl
  try simp only [tl]
  refine eT 3 ?_ [5, 4] rfl (by kernel_rfl) (by rfl) ?_ hS ?_
  rotate_left
  · intro wx hx
    have q0 := (hx ⟨w.heap.size + 1, 0, none⟩ (by show w.heap.size + 1 < _; omega)).trans q1
    clear hx
    go_simp
    with_reducible rfl
  try simp only [tl]
  refine eT 4 ?_ [5] rfl (by kernel_rfl) (by rfl) ?_ hS ?_
  rotate_left; · intro wx hx; clear hx; go_simp; with_reducible rfl
  try simp only [tl]
  refine eT 5 ?_ [] rfl (by kernel_rfl) (by rfl) ?_ hS ?_
  rotate_left; · intro wx hx; clear hx; go_simp; with_reducible rfl
  try simp only [tl]
  refine wpAnyE_take (i := 6) (v := undef) [10, 7] rfl (by kernel_rfl) (fun _ _ _ h => h) (Or.inr ⟨by rfl, rfl⟩) hS ?_
  try simp only [tl]
  refine wpAnyE_take (i := 7) (v := undef) [10] rfl (by kernel_rfl) (fun _ _ _ h => h) (Or.inr ⟨by rfl, rfl⟩) hS ?_
  try simp only [tl]
  refine wpAnyE_take (i := 8) (v := undef) [10, 9] rfl (by kernel_rfl) (fun _ _ _ h => h) (Or.inr ⟨by rfl, rfl⟩) hS ?_
  try simp only [tl]
  refine wpAnyE_take (i := 9) (v := undef) [10] rfl (by kernel_rfl) (fun _ _ _ h => h) (Or.inr ⟨by rfl, rfl⟩) hS ?_
  try simp only [tl]
  refine wpAnyE_take (i := 10) (v := undef) [] rfl (by kernel_rfl) (fun _ _ _ h => h) (Or.inr ⟨by rfl, rfl⟩) hS ?_
  try simp only [tl]
  refine wpAnyE_z (by kernel_rfl) rfl (by rfl) fun K hK => ?_
  go_simp
  refine hK _ _ ?_
  clear hK K; try simp only [tl]
  refine wpAny_done (by kernel_rfl) ?_ _
  refine NoPanic.normal ?_
  go_wp2_with fail
  go_ret
  exact ⟨rfl, below_drewN huW1.below 1⟩
end Go.Proofs.Ytiampoebdmflgaa
/- term.Same. -/
namespace Go.Proofs.Ytiampoebdmflgaa
open Go.RowKit
set_option linter.unusedVariables false
set_option maxRecDepth 100000
set_option maxHeartbeats 4000000
set_option linter.unusedSimpArgs false
def tSame (a b : Tm) : Bool := !tgreat a && (!tgreat b && tsame a b)
theorem tSame_any (a b : Tm) (ca cb : Array Value) (D : Nat → Prop) (w : World) (hD : Within D w) (ha : TmIs D w a ca) (hb : TmIs D w b cb) :
    Calls Try.prog 59 #[.agg ca, .agg cb] w fun e w' => e = .returned (.bool (tSame a b)) ∧ Below w.heap.size w w' := by
 have hsa := ha.oneCell
 have hsb := hb.oneCell
 have hia : (Try.prog.info? 27).map (·.size) = some ca.size := by rw [hsa.1]; exact tm_size
 have hib : (Try.prog.info? 27).map (·.size) = some cb.size := by rw [hsb.1]; exact tm_size
 obtain ⟨xb, yb, zb, Ab, c_b, Ab', c_b', rfl, _, _, _, _, _, _, _, _⟩ := hb.lit
 obtain ⟨X, hX⟩ : ∃ X, tSame a b = X := ⟨_, rfl⟩
 rw [hX]
 have HX := Lib.hid hX; clear hX
 obtain ⟨W1, hW1⟩ : ∃ W1, (w.alloc (.cells ca 27)).alloc (.cells #[.int .i64 b.k, .int .i64 b.n, .string b.nm, xb, yb, zb, .slice Ab b.ls.length c_b, .slice Ab' b.ks.length c_b'] 27) = W1 := ⟨_, rfl⟩
 have huW1 : Upd nob w W1 := by rw [← hW1]; exact ((Upd.refl nob w).alloc _).alloc _
 have hsW1 : W1.heap.size = w.heap.size + 2 := by rw [← hW1]; simp
 have b0 : Blk W1 (w.heap.size) 27 ca := by
  rw [← hW1]
  have h := Blk.new (w) 27 ca
  exact h.alloc _
 have b1 : Blk W1 (w.heap.size + 1) 27 #[.int .i64 b.k, .int .i64 b.n, .string b.nm, xb, yb, zb, .slice Ab b.ls.length c_b, .slice Ab' b.ks.length c_b'] := by
  rw [← hW1]
  have h := Blk.new (w.alloc (.cells ca 27)) 27 #[.int .i64 b.k, .int .i64 b.n, .string b.nm, xb, yb, zb, .slice Ab b.ls.length c_b, .slice Ab' b.ks.length c_b']
  rw [World.size_alloc] at h
  exact h
 have HW1 := Lib.hid hW1
 have B0 := Lib.hid b0
 have B1 := Lib.hid b1
 have r0 := b0.rowAt
 have ha1 := ha.old (hD.old huW1) (fun _ h => h)
 have hb1 := hb.old (hD.old huW1) (fun _ h => h)
 have hD1 := hD.up huW1
 clear hW1 b0 b1
 go_enter Try.func59, Try.ntmps59
 rw [← HW1.out] at r0
 go_wp2_with (first
       | ((with_reducible refine this_op (.load 27 (.tmp 2)) ?_); refine wpList_at rfl 27 (.tmp 2) rfl ⟨w.heap.size, 0, none⟩ rfl _ _ r0 Try.underlying27 rfl hia ?_))
 rw [HW1.out]
 refine (tgreat_any a ca D W1 hD1 ha1).mono ?_
 rintro e w2 ⟨rfl, hb2⟩
 have hu2 : Upd nob W1 w2 := Upd.of_below hb2
 have r1 := (B1.out.upd hu2 (fun f => f)).rowAt
 clear r0
 cases hga : tgreat a with
 | true =>
  have hx : X = false := by rw [← HX.out, tSame, hga]; rfl
  clear HX hga
  subst hx
  go_wp2_with fail
  go_ret
  exact ⟨rfl, (huW1.trans hu2).below⟩
 | false =>
  have hx : X = (!tgreat b && tsame a b) := by rw [← HX.out, tSame, hga]; rfl
  clear HX hga
  have HX := Lib.hid hx; clear hx
  go_wp2_with (first
          | ((with_reducible refine this_op (.load 27 (.tmp 3)) ?_); go_big_want; refine owp_load_at 27 (.tmp 3) rfl ⟨w.heap.size + 1, 0, none⟩ rfl _ _ r1 Try.underlying27 rfl hib ?_))
  refine (tgreat_any b _ D w2 (hD1.up hu2) (hb1.old (hD1.old hu2) (fun _ h => h))).mono ?_
  rintro e w3 ⟨rfl, hb3⟩
  have hu3 : Upd nob W1 w3 := hu2.trans (Upd.of_below hb3)
  have s0 := (B0.out.upd hu3 (fun f => f)).rowAt
  have s1 := (B1.out.upd hu3 (fun f => f)).rowAt
  clear r1
  cases hgb : tgreat b with
  | true =>
   have hx : X = false := by rw [HX.out, hgb]; rfl
   clear HX hgb
   subst hx
   go_wp2_with fail
   go_ret
   exact ⟨rfl, (huW1.trans hu3).below⟩
  | false =>
   have hx : X = tsame a b := by rw [HX.out, hgb]; rfl
   clear HX hgb
   have HX := Lib.hid hx; clear hx
   have p0 : w3.cell? ⟨w.heap.size + 1, 0, none⟩ = some (.int .i64 b.k) := (B1.out.upd hu3 (fun f => f)).cell 0
   have p1 : w3.cell? ⟨w.heap.size + 1, 1, none⟩ = some (.int .i64 b.n) := (B1.out.upd hu3 (fun f => f)).cell 1
   have p2 : w3.cell? ⟨w.heap.size + 1, 2, none⟩ = some (.string b.nm) := (B1.out.upd hu3 (fun f => f)).cell 2
   have p3 : w3.cell? ⟨w.heap.size + 1, 3, none⟩ = some (xb) := (B1.out.upd hu3 (fun f => f)).cell 3
   have p4 : w3.cell? ⟨w.heap.size + 1, 4, none⟩ = some (yb) := (B1.out.upd hu3 (fun f => f)).cell 4
   have p5 : w3.cell? ⟨w.heap.size + 1, 5, none⟩ = some (zb) := (B1.out.upd hu3 (fun f => f)).cell 5
   have p6 : w3.cell? ⟨w.heap.size + 1, 6, none⟩ = some (.slice Ab b.ls.length c_b) := (B1.out.upd hu3 (fun f => f)).cell 6
   have p7 : w3.cell? ⟨w.heap.size + 1, 7, none⟩ = some (.slice Ab' b.ks.length c_b') := (B1.out.upd hu3 (fun f => f)).cell 7
   go_wp2_with (first
             | (go_big_want; first | (refine owp_load_at 27 (.tmp 3) rfl ⟨w.heap.size + 1, 0, none⟩ rfl _ _ s1 Try.underlying27 rfl hib ?_) | (refine owp_load_at 27 (.tmp 2) rfl ⟨w.heap.size, 0, none⟩ rfl _ _ s0 Try.underlying27 rfl hia ?_)))
   refine (tsame_any a b ca _ D w3 (hD1.up hu3) (ha1.old (hD1.old hu3) (fun _ h => h)) (hb1.old (hD1.old hu3) (fun _ h => h))).mono ?_
   rintro e w4 ⟨rfl, hb4⟩
   have hu4 : Upd nob W1 w4 := hu3.trans (Upd.of_below hb4)
   have hx := HX.out
   obtain ⟨q, hq⟩ : ∃ q, tsame a b = q := ⟨_, rfl⟩
   rw [hq] at hx ⊢
   clear HX hq
   subst hx
   cases X <;> (go_wp2_with fail; go_ret; exact ⟨rfl, (huW1.trans hu4).below⟩)
end Go.Proofs.Ytiampoebdmflgaa
/- shape's former.ends. -/
namespace Go.Proofs.Ytiampoebdmflgaa
open Go.RowKit
set_option linter.unusedVariables false
set_option maxRecDepth 100000
set_option maxHeartbeats 4000000
set_option linter.unusedSimpArgs false
def varAt (n : Int) : Tm := .mk 1 n ByteArray.empty lzero' [] []
def varsDown (first : Int) : List Tm → Bool
 | [] => true
 | a :: l => tSame a (varAt first) && varsDown (first - 1) l
def tends (nm : ByteArray) (p idx : Nat) (itself t : Tm) (first : Int) : Bool × Bool :=
 if (tSame (tspine t).1 itself && decide ((tspine t).2.length = p + idx)) = true then
  (if varsDown first ((tspine t).2.take p) = true then (true, ((tspine t).2.drop p).any fun t => tment t nm) else (false, false))
 else (false, false)
structure FIs (D : Nat → Prop) (w : World) (fb : Nat) (nm : ByteArray) (p : Nat) (itself : Tm) (doms : List Tm) (idx : Nat) : Prop where
 lt : fb < w.heap.size
 nm_ : w.cell? ⟨fb, 1, none⟩ = some (.string nm)
 par : w.cell? ⟨fb, 19, none⟩ = some (.int .i64 p)
 self : ∃ cs, rowAt w ⟨fb, 21, none⟩ cs ∧ TmIs D w itself cs
 doms : ∃ A c, w.cell? ⟨fb, 29, none⟩ = some (.slice A doms.length c) ∧ TmsAt D w doms A 0
 idx_ : w.cell? ⟨fb, 30, none⟩ = some (.int .i64 idx)
theorem FIs.upd {S D D' : Nat → Prop} {w w' : World} {fb : Nat} {nm : ByteArray} {p : Nat} {itself : Tm} {doms : List Tm} {idx : Nat} (h : FIs D w fb nm p itself doms idx) (hu : Upd S w w') (hS : ¬ S fb) (ho : Old D w w') (hD : ∀ q, D q → D' q) : FIs D' w' fb nm p itself doms idx where
 lt := Nat.lt_of_lt_of_le h.lt hu.size
 nm_ := (hu.cell h.lt hS).trans h.nm_
 par := (hu.cell h.lt hS).trans h.par
 self := by
  obtain ⟨cs, hr, hl⟩ := h.self
  exact ⟨cs, fun i v hv => (hu.cell (by rw [Addr_add_block]; exact h.lt) (by rw [Addr_add_block]; exact hS)).trans (hr i v hv), hl.old ho hD⟩
 doms := by
  obtain ⟨A, c, h1, h2⟩ := h.doms
  exact ⟨A, c, (hu.cell h.lt hS).trans h1, h2.old ho hD⟩
 idx_ := (hu.cell h.lt hS).trans h.idx_
theorem tends_any (t : Tm) (cs : Array Value) (first : Int) (D : Nat → Prop) (w : World) (fb : Nat) (nm : ByteArray) (p idx : Nat) (itself : Tm) (doms : List Tm) (hD : Within D w) (hl : TmIs D w t cs) (hf : FIs D w fb nm p itself doms idx)
    (h1 : -1 ≤ first) (h2 : first ≤ 1125899906842624) (hp : p ≤ 140737488351232) (hi : idx ≤ 140737488351232) :
    Calls Try.prog 60 #[.pointer (some ⟨fb, 0, none⟩), .agg cs, .int .i64 first] w fun e w' =>
     e = .returned (.tuple #[.bool (tends nm p idx itself t first).1, .bool (tends nm p idx itself t first).2]) ∧ Below w.heap.size w w' := by
 have hz := tm_zero
 have hs := hl.oneCell
 have hsi : (Try.prog.info? 27).map (·.size) = some cs.size := by rw [hs.1]; exact tm_size
 obtain ⟨⟨X1, X2⟩, hX⟩ : ∃ X, tends nm p idx itself t first = X := ⟨_, rfl⟩
 rw [hX]
 have HX := Lib.hid hX; clear hX
 obtain ⟨W1, hW1⟩ : ∃ W1, w.alloc (.cells cs 27) = W1 := ⟨_, rfl⟩
 have huW1 : Upd nob w W1 := by rw [← hW1]; exact (Upd.refl nob w).alloc _
 have hsW1 : W1.heap.size = w.heap.size + 1 := by rw [← hW1]; simp
 have bk0 : Blk W1 (w.heap.size) 27 cs := by
  rw [← hW1]
  have h := Blk.new (w) 27 cs
  exact h
 have hl1 := hl.old (hD.old huW1) (fun _ h => h)
 have hf1 := hf.upd huW1 (fun f => f) (hD.old huW1) (fun _ h => h)
 have hD1 := hD.up huW1
 have r0 := bk0.rowAt
 clear hl hf bk0
 have HW1 := Lib.hid hW1; clear hW1
 go_enter Try.func60, Try.ntmps60
 rw [← HW1.out] at r0
 go_wp2_with (first
       | ((with_reducible refine this_op (.load 27 (.tmp 4)) ?_); refine wpList_at rfl 27 (.tmp 4) rfl ⟨w.heap.size, 0, none⟩ rfl _ _ r0 Try.underlying27 rfl hsi ?_))
 rw [HW1.out]
 clear r0 HW1
 refine (tspine_any t cs D W1 hD1 hl1).mono ?_
 rintro e w2 ⟨cs2, A, c, rfl, hl2, ⟨hln, hlc⟩, hat2, hb2⟩
 have hu2 : Upd nob W1 w2 := Upd.of_below hb2
 have hf2 := hf1.upd hu2 (fun f => f) (hD1.old hu2) (fun _ h => h)
 have HX2 := HX.out
 unfold tends at HX2
 obtain ⟨⟨sh, ar⟩, hsp⟩ : ∃ x, tspine t = x := ⟨_, rfl⟩
 rw [hsp] at HX2 hl2 hln hlc hat2 ⊢
 simp only at HX2 hl2 hln hlc hat2
 have HX3 := Lib.hid HX2
 clear hsp HX2 HX hl1 hf1
 obtain ⟨n, hn⟩ : ∃ n, ar.length = n := ⟨_, rfl⟩
 rw [hn] at hln hlc
 have HN := Lib.hid hn
 have hs2 := hl2.oneCell
 have hsi2 : (Try.prog.info? 27).map (·.size) = some cs2.size := by rw [hs2.1]; exact tm_size
 have HL2 := Lib.hid hl2
 have HAT2 := Lib.hid hat2
 have HF2 := Lib.hid hf2
 clear hl2 hat2 hf2
 simp only []
 rw [hn]
 clear hn
 go_wp2_with (first
       | ((with_reducible refine this_op (.store 27 (.tmp 8) (.tmp 15)) ?_); refine wpList_store_row rfl 27 (.tmp 8) (.tmp 15) rfl w2.heap.size _ rfl rfl 27 _ (Blk.new w2 _ _) hsi2 (by rw [hs2.1]; rfl) hs2.2 ?_))
 obtain ⟨W3, hW3⟩ : ∃ W3, (w2.alloc (.cells #[.int .i64 0, .int .i64 0, .string ByteArray.empty, .int .i64 0, .int .i64 0, .slice none 0 0, .slice none 0 0, .slice none 0 0] 27)).setRow w2.heap.size cs2 = W3 := ⟨_, rfl⟩
 have hu3 : Upd nob w2 W3 := by rw [← hW3]; exact ((Upd.refl nob w2).alloc _).setRow (.inr (Nat.le_refl _)) _
 have hb3 : Blk W3 w2.heap.size 27 cs2 := by rw [← hW3]; exact (Blk.new w2 _ _).row _
 rw [hW3]
 clear hW3
 have hD2 : Within (grow D W1 w2) w2 := fun q hq => hq.elim (fun h => hD1.up hu2 q h) (fun h => h.2)
 have hl3 := HL2.out.old (hD2.old hu3) (fun _ h => h)
 have hat3 := HAT2.out.old (hD2.old hu3) (fun _ h => h)
 have hf3 := HF2.out.upd hu3 (fun f => f) ((hD1.up hu2).old hu3) (D' := grow D W1 w2) (fun _ h => .inl h)
 have hD3 := hD2.up hu3
 have hu03 : Upd nob w W3 := (huW1.trans hu2).trans hu3
 have hr3 := hb3.rowAt
 have hlt3 := hb3.lt
 have hfl3 := hf3.lt
 obtain ⟨csI, hrI, hlI⟩ := hf3.self
 have hsI := hlI.oneCell
 have hsiI : (Try.prog.info? 27).map (·.size) = some csI.size := by rw [hsI.1]; exact tm_size
 have p19 : W3.cell? ⟨fb, 19, none⟩ = some (.int .i64 p) := hf3.par
 have p30 : W3.cell? ⟨fb, 30, none⟩ = some (.int .i64 idx) := hf3.idx_
 have HF3 := Lib.hid hf3
 have HL3 := Lib.hid hl3
 have HAT3 := Lib.hid hat3
 have HLI := Lib.hid hlI
 have hpi : IntKind.i64.wrap ((p : Int) + (idx : Int)) = (p : Int) + (idx : Int) := IntWalk.i64_in _ (by omega)
 clear hf3 hl3 hat3 hlI HF2 HL2 HAT2 hb3
 generalize grow D W1 w2 = D2 at *
 cases hsm : tSame sh itself with
 | false =>
  have hx := HX3.out
  rw [hsm] at hx
  simp only [Bool.false_and, Bool.false_eq_true, if_false] at hx
  injection hx with hx1 hx2
  subst hx1 hx2
  clear HX3
  have HSM := Lib.hid hsm; clear hsm
  refine wp_region_P (by kernel_rfl) ?_
  refine wpAny_of_E (fun X : World => ∀ p : Addr, p.block < W3.heap.size → X.cell? p = W3.cell? p) 22 _ _ _ _ ?_
  have hS : ∀ p : Addr, p.block < W3.heap.size → W3.drew.cell? p = W3.cell? p := fun _ _ => rfl
  refine eT 0 (.agg cs2) [7, 5] rfl (by kernel_rfl) (by rfl) ?_ hS ?_
  · intro wx hx
    exact run_load_at 27 (.tmp 8) rfl ⟨w2.heap.size, 0, none⟩ rfl cs2 _ (row_on hr3 hlt3 hx) Try.underlying27 rfl hsi2
  try simp only [tl]
  refine eT 1 ?_ [7, 5, 4, 3, 2] rfl (by kernel_rfl) (by rfl) ?_ hS ?_
  rotate_left; · intro wx hx; clear hx; go_simp; with_reducible rfl
  try simp only [tl]
  refine eT 2 ?_ [7, 5, 4, 3] rfl (by kernel_rfl) (by rfl) ?_ hS ?_
  rotate_left; · intro wx hx; clear hx; go_simp; with_reducible rfl
  try simp only [tl]
  refine eT 3 ?_ [7, 5, 4] rfl (by kernel_rfl) (by rfl) ?_ hS ?_
  rotate_left; · intro wx hx; clear hx; go_simp; with_reducible rfl
  try simp only [tl]
  refine eT 4 (.agg csI) [7, 5] rfl (by kernel_rfl) (by rfl) ?_ hS ?_
  · intro wx hx
    exact run_load_at 27 (.tmp 20) rfl ⟨fb, 21, none⟩ rfl csI _ (row_on hrI hfl3 hx) Try.underlying27 rfl hsiI
  try simp only [tl]
  refine wpAnyE_one (i := 5) (by kernel_rfl) (by kernel_rfl) rfl (by rfl) fun K hK => ?_
  go_simp
  refine (tSame_any sh itself cs2 csI D2 W3.drew hD3.drew HL3.out.drew HLI.out.drew).mono ?_
  rintro e w4 ⟨rfl, hb4⟩
  rw [HSM.out]
  have hu4 : Upd nob W3 w4 := ((Upd.refl nob W3).drew).trans (Upd.of_below hb4)
  refine hK _ _ (cells_of_upd hu4) ?_
  clear hK K; try simp only [tl]
  have hS : ∀ p : Addr, p.block < W3.heap.size → w4.cell? p = W3.cell? p := cells_of_upd hu4
  refine eT 6 ?_ [7] rfl (by kernel_rfl) (by rfl) ?_ hS ?_
  rotate_left; · intro wx hx; clear hx; go_simp; with_reducible rfl
  try simp only [tl]
  refine eT 7 ?_ [] rfl (by kernel_rfl) (by rfl) ?_ hS ?_
  rotate_left; · intro wx hx; clear hx; go_simp; with_reducible rfl
  try simp only [tl]
  refine wpAnyE_take (i := 8) (v := undef) [21, 9] rfl (by kernel_rfl) (fun _ _ _ h => h) (Or.inr ⟨by rfl, rfl⟩) hS ?_
  try simp only [tl]
  refine wpAnyE_take (i := 9) (v := undef) [21] rfl (by kernel_rfl) (fun _ _ _ h => h) (Or.inr ⟨by rfl, rfl⟩) hS ?_
  try simp only [tl]
  refine wpAnyE_take (i := 10) (v := undef) [21, 20, 14, 13, 12, 11] rfl (by kernel_rfl) (fun _ _ _ h => h) (Or.inr ⟨by rfl, rfl⟩) hS ?_
  try simp only [tl]
  refine wpAnyE_take (i := 11) (v := undef) [21, 20, 14, 13, 12] rfl (by kernel_rfl) (fun _ _ _ h => h) (Or.inr ⟨by rfl, rfl⟩) hS ?_
  try simp only [tl]
  refine wpAnyE_take (i := 12) (v := undef) [21, 20, 14, 13] rfl (by kernel_rfl) (fun _ _ _ h => h) (Or.inr ⟨by rfl, rfl⟩) hS ?_
  try simp only [tl]
  refine wpAnyE_take (i := 13) (v := undef) [21, 20, 14] rfl (by kernel_rfl) (fun _ _ _ h => h) (Or.inr ⟨by rfl, rfl⟩) hS ?_
  try simp only [tl]
  refine wpAnyE_take (i := 14) (v := undef) [21, 20] rfl (by kernel_rfl) (fun _ _ _ h => h) (Or.inr ⟨by rfl, rfl⟩) hS ?_
  try simp only [tl]
  refine wpAnyE_take (i := 15) (v := undef) [21, 20, 19, 18, 17, 16] rfl (by kernel_rfl) (fun _ _ _ h => h) (Or.inr ⟨by rfl, rfl⟩) hS ?_
  try simp only [tl]
  refine wpAnyE_take (i := 16) (v := undef) [21, 20, 19, 18, 17] rfl (by kernel_rfl) (fun _ _ _ h => h) (Or.inr ⟨by rfl, rfl⟩) hS ?_
  try simp only [tl]
  refine wpAnyE_take (i := 17) (v := undef) [21, 20, 19, 18] rfl (by kernel_rfl) (fun _ _ _ h => h) (Or.inr ⟨by rfl, rfl⟩) hS ?_
  try simp only [tl]
  refine wpAnyE_take (i := 18) (v := undef) [21, 20, 19] rfl (by kernel_rfl) (fun _ _ _ h => h) (Or.inr ⟨by rfl, rfl⟩) hS ?_
  try simp only [tl]
  refine wpAnyE_take (i := 19) (v := undef) [21, 20] rfl (by kernel_rfl) (fun _ _ _ h => h) (Or.inr ⟨by rfl, rfl⟩) hS ?_
  try simp only [tl]
  refine wpAnyE_take (i := 20) (v := undef) [21] rfl (by kernel_rfl) (fun _ _ _ h => h) (Or.inr ⟨by rfl, rfl⟩) hS ?_
  try simp only [tl]
  refine wpAnyE_take (i := 21) (v := undef) [] rfl (by kernel_rfl) (fun _ _ _ h => h) (Or.inr ⟨by rfl, rfl⟩) hS ?_
  try simp only [tl]
  refine wpAnyE_z (by kernel_rfl) rfl (by rfl) fun K hK => ?_
  go_simp
  refine hK _ _ ?_
  clear hK K; try simp only [tl]
  refine wpAny_done (by kernel_rfl) ?_ _
  refine NoPanic.normal ?_
  go_wp2_with fail
  go_ret2
  exact ⟨rfl, (hu03.trans hu4).below⟩
 | true =>
  have HSM := Lib.hid hsm
  refine wp_region_P (by kernel_rfl) ?_
  refine wpAny_of_E (fun X : World => ∀ p : Addr, p.block < W3.heap.size → X.cell? p = W3.cell? p) 22 _ _ _ _ ?_
  have hS : ∀ p : Addr, p.block < W3.heap.size → W3.drew.cell? p = W3.cell? p := fun _ _ => rfl
  refine eT 0 (.agg cs2) [7, 5] rfl (by kernel_rfl) (by rfl) ?_ hS ?_
  · intro wx hx
    exact run_load_at 27 (.tmp 8) rfl ⟨w2.heap.size, 0, none⟩ rfl cs2 _ (row_on hr3 hlt3 hx) Try.underlying27 rfl hsi2
  try simp only [tl]
  refine eT 1 ?_ [7, 5, 4, 3, 2] rfl (by kernel_rfl) (by rfl) ?_ hS ?_
  rotate_left; · intro wx hx; clear hx; go_simp; with_reducible rfl
  try simp only [tl]
  refine eT 2 ?_ [7, 5, 4, 3] rfl (by kernel_rfl) (by rfl) ?_ hS ?_
  rotate_left; · intro wx hx; clear hx; go_simp; with_reducible rfl
  try simp only [tl]
  refine eT 3 ?_ [7, 5, 4] rfl (by kernel_rfl) (by rfl) ?_ hS ?_
  rotate_left; · intro wx hx; clear hx; go_simp; with_reducible rfl
  try simp only [tl]
  refine eT 4 (.agg csI) [7, 5] rfl (by kernel_rfl) (by rfl) ?_ hS ?_
  · intro wx hx
    exact run_load_at 27 (.tmp 20) rfl ⟨fb, 21, none⟩ rfl csI _ (row_on hrI hfl3 hx) Try.underlying27 rfl hsiI
  try simp only [tl]
  refine wpAnyE_one (i := 5) (by kernel_rfl) (by kernel_rfl) rfl (by rfl) fun K hK => ?_
  go_simp
  refine (tSame_any sh itself cs2 csI D2 W3.drew hD3.drew HL3.out.drew HLI.out.drew).mono ?_
  rintro e w4 ⟨rfl, hb4⟩
  rw [HSM.out]
  have hu4 : Upd nob W3 w4 := ((Upd.refl nob W3).drew).trans (Upd.of_below hb4)
  refine hK _ _ (cells_of_upd hu4) ?_
  clear hK K; try simp only [tl]
  have hS : ∀ p : Addr, p.block < W3.heap.size → w4.cell? p = W3.cell? p := cells_of_upd hu4
  refine eT 6 ?_ [7] rfl (by kernel_rfl) (by rfl) ?_ hS ?_
  rotate_left; · intro wx hx; clear hx; go_simp; with_reducible rfl
  try simp only [tl]
  refine eT 7 ?_ [] rfl (by kernel_rfl) (by rfl) ?_ hS ?_
  rotate_left; · intro wx hx; clear hx; go_simp; with_reducible rfl
  try simp only [tl]
  refine eT 8 ?_ [21, 9] rfl (by kernel_rfl) (by rfl) ?_ hS ?_
  rotate_left; · intro wx hx; clear hx; go_simp; with_reducible rfl
  try simp only [tl]
  refine eT 9 ?_ [21] rfl (by kernel_rfl) (by rfl) ?_ hS ?_
  rotate_left; · intro wx hx; clear hx; go_simp; with_reducible rfl
  try simp only [tl]
  refine eT 10 ?_ [21, 20, 14, 13, 12, 11] rfl (by kernel_rfl) (by rfl) ?_ hS ?_
  rotate_left; · intro wx hx; clear hx; go_simp; with_reducible rfl
  try simp only [tl]
  refine eT 11 ?_ [21, 20, 14, 13, 12] rfl (by kernel_rfl) (by rfl) ?_ hS ?_
  rotate_left; · intro wx hx; clear hx; go_simp; with_reducible rfl
  try simp only [tl]
  refine eT 12 ?_ [21, 20, 14, 13] rfl (by kernel_rfl) (by rfl) ?_ hS ?_
  rotate_left; · intro wx hx; clear hx; go_simp; with_reducible rfl
  try simp only [tl]
  refine eT 13 ?_ [21, 20, 14] rfl (by kernel_rfl) (by rfl) ?_ hS ?_
  rotate_left; · intro wx hx; clear hx; go_simp; with_reducible rfl
  try simp only [tl]
  refine eT 14 ?_ [21, 20] rfl (by kernel_rfl) (by rfl) ?_ hS ?_
  rotate_left
  · intro wx hx
    have q0 := (hx ⟨fb, 19, none⟩ hfl3).trans p19
    clear hx
    go_simp
    with_reducible rfl
  try simp only [tl]
  refine eT 15 ?_ [21, 20, 19, 18, 17, 16] rfl (by kernel_rfl) (by rfl) ?_ hS ?_
  rotate_left; · intro wx hx; clear hx; go_simp; with_reducible rfl
  try simp only [tl]
  refine eT 16 ?_ [21, 20, 19, 18, 17] rfl (by kernel_rfl) (by rfl) ?_ hS ?_
  rotate_left; · intro wx hx; clear hx; go_simp; with_reducible rfl
  try simp only [tl]
  refine eT 17 ?_ [21, 20, 19, 18] rfl (by kernel_rfl) (by rfl) ?_ hS ?_
  rotate_left; · intro wx hx; clear hx; go_simp; with_reducible rfl
  try simp only [tl]
  refine eT 18 ?_ [21, 20, 19] rfl (by kernel_rfl) (by rfl) ?_ hS ?_
  rotate_left; · intro wx hx; clear hx; go_simp; with_reducible rfl
  try simp only [tl]
  refine eT 19 ?_ [21, 20] rfl (by kernel_rfl) (by rfl) ?_ hS ?_
  rotate_left
  · intro wx hx
    have q0 := (hx ⟨fb, 30, none⟩ hfl3).trans p30
    clear hx
    go_simp
    with_reducible rfl
  try simp only [tl]
  refine eT 20 ?_ [21] rfl (by kernel_rfl) (by rfl) ?_ hS ?_
  rotate_left; · intro wx hx; clear hx; go_simp; with_reducible rfl
  try simp only [tl]
  refine eT 21 ?_ [] rfl (by kernel_rfl) (by rfl) ?_ hS ?_
  rotate_left; · intro wx hx; clear hx; go_simp; with_reducible rfl
  try simp only [tl]
  refine wpAnyE_z (by kernel_rfl) rfl (by rfl) fun K hK => ?_
  go_simp
  refine hK _ _ ?_
  clear hK K; try simp only [tl]
  refine wpAny_done (by kernel_rfl) ?_ _
  refine NoPanic.normal ?_
  by_cases hlen : n = p + idx
  · have hne : ((n : Int) != (p : Int) + (idx : Int)) = false := by simp; omega
    have hx := HX3.out
    rw [hsm, HN.out] at hx
    rw [if_pos (by simp [hlen])] at hx
    obtain ⟨V, hV⟩ : ∃ V, varsDown first (ar.take p) = V := ⟨_, rfl⟩
    rw [hV] at hx
    have HX4 := Lib.hid hx
    have HV := Lib.hid hV
    have hD4 := hD3.up hu4
    have hat4 := HAT3.out.old (hD3.old hu4) (fun _ h => h)
    have hf4 := HF3.out.upd hu4 (fun f => f) (hD3.old hu4) (fun _ h => h)
    have hfl4 := hf4.lt
    have g19 : w4.cell? ⟨fb, 19, none⟩ = some (.int .i64 p) := hf4.par
    have HF4 := Lib.hid hf4
    have HAT4 := Lib.hid hat4
    have hu04 := hu03.trans hu4
    have hpc : p ≤ c := by omega
    have hpn : p ≤ n := by omega
    clear hlen HX3 hsm hx hV hf4 hat4 HF3 HAT3 HL3 HLI hr3 hrI p19 p30 hS
    go_wp2_with (first
              | ((with_reducible refine this_op (.slice 25 (.tmp 40) none (some (.tmp 45)) none) ?_); refine wpList_run rfl _ _ (run_slice_h8 25 _ _ rfl A n c rfl p rfl hpc und_tms 8 sz_tms) ?_))
    go_loopg [48] p (fun k v wr => ∃ j : Nat, j + k = p ∧ v = .int .i64 j ∧ varsDown (first - (j : Int)) ((ar.take p).drop j) = V ∧ Upd nob w4 wr)
    case atStart => exact ⟨0, by omega, rfl, by rw [List.drop_zero, Int.ofNat_zero, Int.sub_zero]; exact HV.out, Upd.refl _ _⟩
    case round =>
     clear g19
     obtain ⟨j, hj, rfl, hvd, hu⟩ := hrel
     have HVD := Lib.hid hvd; clear hvd
     have hD5 := hD4.up hu
     by_cases hlt : j < p
     · have t2 : decide ((j : Int) < p) = true := by simp [hlt]
       have hjn : j < ar.length := by rw [HN.out]; omega
       obtain ⟨a, csj, hA, hab, hrow, hlj⟩ := HAT4.out.at_ (List.getElem?_eq_getElem hjn)
       rw [Nat.zero_add] at hrow
       have hdr : (ar.take p).drop j = ar[j] :: (ar.take p).drop (j + 1) := by
        rw [List.drop_eq_getElem_cons (by rw [List.length_take]; omega), List.getElem_take]
       have hvd := HVD.out
       rw [hdr, varsDown] at hvd
       have HVD2 := Lib.hid hvd
       have hrow' := hrow.old (hD4.old hu) (by rw [Addr_add_block]; exact hab)
       have hlj' := hlj.old (hD4.old hu) (fun _ h => h)
       have hsj := hlj.oneCell
       have hsij : (Try.prog.info? 27).map (·.size) = some csj.size := by rw [hsj.1]; exact tm_size
       have HA := Lib.hid hA
       have HLJ := Lib.hid hlj'
       have hwr : IntKind.i64.wrap (first - (j : Int)) = first - (j : Int) := IntWalk.i64_in _ (by omega)
       clear hA hvd hdr HVD hrow hlj hlj'
       go_wp2_with (first
                     | ((with_reducible refine this_op (.indexAddr 25 (.tmp 46) (.tmp 48)) ?_); refine wpList_index_at rfl 25 (.tmp 46) (.tmp 48) rfl _ a _ _ rfl HA.out j rfl hlt 27 Try.underlying25 8 tm_size ?_)
                     | ((with_reducible refine this_op (.load 27 (.tmp 51)) ?_); refine wpList_at rfl 27 (.tmp 51) rfl (a.add (j * 8)) rfl _ _ hrow' Try.underlying27 rfl hsij ?_)
                     | ((with_reducible refine this_op (.store 27 (.tmp 11) (.tmp 52)) ?_); refine wpList_store_row rfl 27 (.tmp 11) (.tmp 52) rfl wr.heap.size _ rfl rfl 27 _ (Blk.new wr _ _) hsij (by rw [hsj.1]; rfl) hsj.2 ?_))
       obtain ⟨W5, hW5⟩ : ∃ W5, (wr.alloc (.cells #[.int .i64 0, .int .i64 0, .string ByteArray.empty, .int .i64 0, .int .i64 0, .slice none 0 0, .slice none 0 0, .slice none 0 0] 27)).setRow wr.heap.size csj = W5 := ⟨_, rfl⟩
       have hu5 : Upd nob wr W5 := by rw [← hW5]; exact ((Upd.refl nob wr).alloc _).setRow (.inr (Nat.le_refl _)) _
       have hb5 : Blk W5 wr.heap.size 27 csj := by rw [← hW5]; exact (Blk.new wr _ _).row _
       rw [hW5]
       clear hW5
       have hr5 := hb5.rowAt
       have hlt5 := hb5.lt
       have hlj5 := HLJ.out.old (hD5.old hu5) (fun _ h => h)
       have hD6 := hD5.up hu5
       have HLJ5 := Lib.hid hlj5
       clear hlj5 HLJ hb5 hrow'
       refine wp_region_P (by kernel_rfl) ?_
       refine wpAny_of_E (fun X : World => ∀ p : Addr, p.block < W5.heap.size → X.cell? p = W5.cell? p) 6 _ _ _ _ ?_
       have hS : ∀ p : Addr, p.block < W5.heap.size → W5.drew.cell? p = W5.cell? p := fun _ _ => rfl
       refine eT 0 (.agg csj) [5] rfl (by kernel_rfl) (by rfl) ?_ hS ?_
       · intro wx hx
         exact run_load_at 27 (.tmp 11) rfl ⟨wr.heap.size, 0, none⟩ rfl csj _ (row_on hr5 hlt5 hx) Try.underlying27 rfl hsij
       try simp only [tl]
       refine eT 1 ?_ [5, 4, 3] rfl (by kernel_rfl) (by rfl) ?_ hS ?_
       rotate_left; · intro wx hx; clear hx; go_simp; with_reducible rfl
       try simp only [tl]
       refine eT 2 ?_ [5, 4, 3] rfl (by kernel_rfl) (by rfl) ?_ hS ?_
       rotate_left; · intro wx hx; clear hx; go_simp; with_reducible rfl
       try simp only [tl]
       refine eT 3 ?_ [5, 4] rfl (by kernel_rfl) (by rfl) ?_ hS ?_
       rotate_left; · intro wx hx; clear hx; go_simp; with_reducible rfl
       try simp only [tl]
       refine wpAnyE_one (i := 4) (by kernel_rfl) (by kernel_rfl) rfl (by rfl) fun K hK => ?_
       go_simp
       refine (tvar_any (first - (j : Int)) (by unfold InI; omega) W5.drew).mono ?_
       rintro e w6 ⟨cs6, rfl, hl6, hb6⟩
       have hu6 : Upd nob W5 w6 := ((Upd.refl nob W5).drew).trans (Upd.of_below hb6)
       refine hK _ _ (cells_of_upd hu6) ?_
       clear hK K; try simp only [tl]
       refine wpAnyE_one (i := 5) (by kernel_rfl) (by kernel_rfl) rfl (by rfl) fun K hK => ?_
       go_simp
       refine (tSame_any ar[j] (varAt (first - (j : Int))) csj cs6 D2 w6 (hD6.up hu6) (HLJ5.out.old (hD6.old hu6) (fun _ h => h)) (hl6.old (Old.refl _ _) (fun _ f => f.elim))).mono ?_
       rintro e w7 ⟨rfl, hb7⟩
       have hu7 : Upd nob W5 w7 := hu6.trans (Upd.of_below hb7)
       refine hK _ _ (cells_of_upd hu7) ?_
       clear hK K; try simp only [tl]
       refine wpAnyE_z (by kernel_rfl) rfl (by rfl) fun K hK => ?_
       go_simp
       refine hK _ _ ?_
       clear hK K; try simp only [tl]
       refine wpAny_done (by kernel_rfl) ?_ _
       refine NoPanic.normal ?_
       cases hq : tSame ar[j] (varAt (first - (j : Int))) with
       | true =>
        have hvd := HVD2.out
        rw [hq, Bool.true_and] at hvd
        have HVD3 := Lib.hid hvd
        clear hvd HVD2 hq
        go_wp2_with fail
        go_roundg (gk - 1)
        case measure => omega
        case rel =>
         have e : first - (j : Int) - 1 = first - ((j + 1 : Nat) : Int) := by omega
         exact ⟨j + 1, by omega, by go_num, by rw [← e]; exact HVD3.out, hu.trans (hu5.trans hu7)⟩
       | false =>
        have hvd := HVD2.out
        rw [hq, Bool.false_and] at hvd
        have hx := HX4.out
        rw [← hvd] at hx
        rw [if_neg (by decide)] at hx
        injection hx with hx1 hx2
        subst hx1 hx2
        clear HX4 HVD2 hvd hq HV
        go_wp2_with fail
        go_ret2
        exact ⟨rfl, (hu04.trans (hu.trans (hu5.trans hu7))).below⟩
     have t2 : decide ((j : Int) < p) = false := by simp; omega
     have hjp : j = p := by omega
     subst hjp
     have hvd := HVD.out
     rw [List.drop_eq_nil_of_le (by rw [List.length_take]; omega), varsDown] at hvd
     have hx := HX4.out
     rw [← hvd] at hx
     rw [if_pos (by decide)] at hx
     injection hx with hx1 hx2
     subst hx1
     have HX5 := Lib.hid hx2
     have hf5 := HF4.out.upd hu (fun f => f) (hD4.old hu) (fun _ h => h)
     have hat5 := HAT4.out.old (hD4.old hu) (fun _ h => h)
     have hfl5 := hf5.lt
     have g19 : wr.cell? ⟨fb, 19, none⟩ = some (.int .i64 j) := hf5.par
     have g1 : wr.cell? ⟨fb, 1, none⟩ = some (.string nm) := hf5.nm_
     have HAT5 := Lib.hid hat5
     clear hx2 hvd HX4 HVD hf5 hat5 HAT4 HF4 HV
     obtain ⟨A9, hA9⟩ : ∃ x, (if c = j then A else A.map (·.add (j * 8))) = x := ⟨_, rfl⟩
     have hdp := HAT5.out.drop j c (by rw [HN.out]; exact hlc)
     rw [hA9] at hdp
     have HA9 := Lib.hid hA9
     have HDP := Lib.hid hdp
     clear hA9 hdp
     go_wp2_with fail
     refine wp_region_P (by kernel_rfl) ?_
     refine wpAny_of_E (fun X : World => ∀ p : Addr, p.block < wr.heap.size → X.cell? p = wr.cell? p) 13 _ _ _ _ ?_
     have hS : ∀ p : Addr, p.block < wr.heap.size → wr.drew.cell? p = wr.cell? p := fun _ _ => rfl
     refine eT 0 ?_ [7, 6] rfl (by kernel_rfl) (by rfl) ?_ hS ?_
     rotate_left; · intro wx hx; clear hx; go_simp; with_reducible rfl
     try simp only [tl]
     refine eT 1 ?_ [7, 6, 5, 4, 3, 2] rfl (by kernel_rfl) (by rfl) ?_ hS ?_
     rotate_left; · intro wx hx; clear hx; go_simp; with_reducible rfl
     try simp only [tl]
     refine eT 2 ?_ [7, 6, 5, 4, 3] rfl (by kernel_rfl) (by rfl) ?_ hS ?_
     rotate_left; · intro wx hx; clear hx; go_simp; with_reducible rfl
     try simp only [tl]
     refine eT 3 ?_ [7, 6, 5, 4] rfl (by kernel_rfl) (by rfl) ?_ hS ?_
     rotate_left; · intro wx hx; clear hx; go_simp; with_reducible rfl
     try simp only [tl]
     refine eT 4 ?_ [7, 6, 5] rfl (by kernel_rfl) (by rfl) ?_ hS ?_
     rotate_left; · intro wx hx; clear hx; go_simp; with_reducible rfl
     try simp only [tl]
     refine eT 5 ?_ [7, 6] rfl (by kernel_rfl) (by rfl) ?_ hS ?_
     rotate_left
     · intro wx hx
       have q0 := (hx ⟨fb, 19, none⟩ hfl5).trans g19
       clear hx
       go_simp
       with_reducible rfl
     try simp only [tl]
     refine eT 6 (.slice A9 (n - j) (c - j)) [7] rfl (by kernel_rfl) (by rfl) ?_ hS ?_
     · intro wx hx
       rw [← HA9.out]
       exact run_slice_l8 25 (.tmp 61) (.tmp 66) rfl A n c rfl j rfl hpn und_tms 8 sz_tms
     try simp only [tl]
     refine eT 8 ?_ [12, 11, 10, 9] rfl (by kernel_rfl) (by rfl) ?_ hS ?_
     rotate_left; · intro wx hx; clear hx; go_simp; with_reducible rfl
     try simp only [tl]
     refine eT 9 ?_ [12, 11, 10] rfl (by kernel_rfl) (by rfl) ?_ hS ?_
     rotate_left; · intro wx hx; clear hx; go_simp; with_reducible rfl
     try simp only [tl]
     refine eT 10 ?_ [12, 11] rfl (by kernel_rfl) (by rfl) ?_ hS ?_
     rotate_left; · intro wx hx; clear hx; go_simp; with_reducible rfl
     try simp only [tl]
     refine eT 11 ?_ [12] rfl (by kernel_rfl) (by rfl) ?_ hS ?_
     rotate_left; · intro wx hx; clear hx; go_simp; with_reducible rfl
     try simp only [tl]
     refine eT 12 ?_ [] rfl (by kernel_rfl) (by rfl) ?_ hS ?_
     rotate_left
     · intro wx hx
       have q0 := (hx ⟨fb, 1, none⟩ hfl5).trans g1
       clear hx
       go_simp
       with_reducible rfl
     try simp only [tl]
     refine wpAnyE_one (i := 7) (by kernel_rfl) (by kernel_rfl) rfl (by rfl) fun K hK => ?_
     go_simp
     refine (tvals_any _ _ _ wr.drew).mono ?_
     rintro e w6 ⟨rfl, rfl⟩
     have hu6 : Upd nob wr (wr.drew.alloc (.cells #[.slice A9 (n - j) (c - j)] 25)) := ((Upd.refl nob wr).drew).alloc _
     refine hK _ _ (cells_of_upd hu6) ?_
     clear hK K; try simp only [tl]
     refine wpAnyE_z (by kernel_rfl) rfl (by rfl) fun K hK => ?_
     go_simp
     refine (tments_any (ar.drop j) nm A9 (c - j) wr.drew.heap.size D2 _ (hD5.up hu6) (by rw [List.length_drop, HN.out]; exact Blk.new wr.drew _ _) (by rw [List.length_drop, HN.out]; omega) (HDP.out.old (hD5.old hu6) (fun _ h => h))).mono ?_
     rintro e w8 ⟨rfl, hb8⟩
     rw [HX5.out]
     have hu8 : Upd nob wr w8 := hu6.trans (Upd.of_below hb8)
     refine hK _ _ ?_
     clear hK K; try simp only [tl]
     refine wpAny_one (i := 14) (by kernel_rfl) rfl (by rfl) fun K hK => ?_
     go_simp
     refine hK _ _ ?_
     clear hK K; try simp only [tl]
     refine wpAny_one (i := 15) (by kernel_rfl) rfl (by rfl) fun K hK => ?_
     go_simp
     refine hK _ _ ?_
     clear hK K; try simp only [tl]
     refine wpAny_done (by kernel_rfl) ?_ _
     refine NoPanic.normal ?_
     go_wp2_with fail
     go_ret2
     exact ⟨rfl, (hu04.trans (hu.trans hu8)).below⟩
  have hne : ((n : Int) != (p : Int) + (idx : Int)) = true := by simp; omega
  have hx := HX3.out
  rw [hsm, HN.out] at hx
  rw [if_neg (by simp [hlen])] at hx
  injection hx with hx1 hx2
  subst hx1 hx2
  clear HX3 hsm
  go_wp2_with fail
  go_ret2
  exact ⟨rfl, (hu03.trans hu4).below⟩
end Go.Proofs.Ytiampoebdmflgaa
/- The reference's ends. -/
namespace Go.Proofs.Ytiampoebdmflgaa
open Go.RowKit
set_option linter.unusedVariables false
set_option maxRecDepth 100000
set_option maxHeartbeats 4000000
set_option linter.unusedSimpArgs false
theorem rbinds_any (k : Int) (i : Nat) (w : World) : Calls Try.prog 69 #[.int .i64 k, .int .i64 i] w fun e w' => e = .returned (.int .i64 (bnd k i)) ∧ w' = w := by
 obtain ⟨q, hq⟩ : ∃ q, tar k = q := ⟨_, rfl⟩
 have hqb := tar_le k
 rw [hq] at hqb
 obtain ⟨X, hX⟩ : ∃ X, bnd k i = X := ⟨_, rfl⟩
 rw [hX]
 unfold bnd at hX
 rw [hq] at hX
 have HX := Lib.hid hX; clear hX
 have hTA : ∀ wx : World, Calls Try.prog 68 #[.int .i64 k] wx fun e w' => e = .returned (.int .i64 q) ∧ w' = wx := fun wx => hq ▸ rkids_any k wx
 have TA := Lib.hid hTA; clear hTA hq
 have hw : IntKind.i64.wrap (q - 1) = q - 1 := IntWalk.i64_in _ (by omega)
 by_cases h6 : k = 6
 · subst h6
   have e : (0 : Int) = X := by rw [← HX.out, if_neg (by simp)]
   subst e
   clear HX
   go_enter Try.func69, Try.ntmps69
   go_wp2_with fail
   go_ret
   exact ⟨rfl, rfl⟩
 have t6 : (k != 6) = true := by simpa using h6
 by_cases hi : (i : Int) = q - 1
 · have e : (1 : Int) = X := by rw [← HX.out, if_pos ⟨hi, h6⟩]
   subst e
   have t7 : ((i : Int) == q - 1) = true := by simpa using hi
   clear HX h6 hi
   go_enter Try.func69, Try.ntmps69
   go_wp2_with fail
   refine (TA.out _).mono ?_
   rintro e w2 ⟨rfl, rfl⟩
   go_wp2_with fail
   go_ret
   exact ⟨rfl, rfl⟩
 have e : (0 : Int) = X := by rw [← HX.out, if_neg (fun h => hi h.1)]
 subst e
 have t7 : ((i : Int) == q - 1) = false := by simpa using hi
 clear HX h6 hi
 go_enter Try.func69, Try.ntmps69
 go_wp2_with fail
 refine (TA.out _).mono ?_
 rintro e w2 ⟨rfl, rfl⟩
 go_wp2_with fail
 go_ret
 exact ⟨rfl, rfl⟩
mutual
def rends : Tm → Int → List (Tm × Int)
 | .mk k n nm lv ls ks, d => if (rlf k ks.length || (tar k == 0)) = true then [(.mk k n nm lv ls ks, d)] else rendss k (tar k).toNat 0 ks d
def rendss (k : Int) : Nat → Nat → List Tm → Int → List (Tm × Int)
 | 0, _, _, _ => []
 | _ + 1, _, [], _ => []
 | m + 1, i, t :: l, d => rends t (d + bnd k i) ++ rendss k m (i + 1) l d
end
mutual
theorem rends_len : ∀ (t : Tm) (d : Int), (rends t d).length ≤ rsz t
 | .mk k _ _ _ _ ks, d => by
  rw [rends, rsz]
  by_cases h1 : rlf k ks.length = true
  · rw [if_pos (by rw [h1]; rfl), if_pos h1]; simp
  rw [if_neg h1]
  split
  · simp only [List.length_singleton]; omega
  have := rendss_len k (tar k).toNat 0 ks d; omega
theorem rendss_len : ∀ (k : Int) (m i : Nat) (l : List Tm) (d : Int), (rendss k m i l d).length ≤ rszs m l
 | _, 0, _, _, _ => by simp [rendss]
 | _, _ + 1, _, [], _ => by simp [rendss]
 | k, m + 1, i, t :: l, d => by
  rw [rendss, rszs, List.length_append]
  have h1 := rends_len t (d + bnd k i)
  have h2 := rendss_len k m (i + 1) l d
  omega
end
theorem bnd_le' (k : Int) (i : Nat) : 0 ≤ bnd k i ∧ bnd k i ≤ 1 := by unfold bnd; split <;> omega
def EnIs (D : Nat → Prop) (w : World) (x : Tm × Int) (cs : Array Value) : Prop := ∃ ct : Array Value, cs = ct ++ #[Value.int .i64 x.2] ∧ TmIs D w x.1 ct
theorem EnIs.old {D D' : Nat → Prop} {w w' : World} {x : Tm × Int} {cs : Array Value} (h : EnIs D w x cs) (ho : Old D w w') (hD : ∀ k, D k → D' k) : EnIs D' w' x cs := by
 obtain ⟨ct, h1, h2⟩ := h
 exact ⟨ct, h1, h2.old ho hD⟩
theorem EnIs.cells {D : Nat → Prop} {w : World} {x : Tm × Int} {cs : Array Value} (h : EnIs D w x cs) : cs.size = 9 ∧ cs.all (·.oneCell') = true := by
 obtain ⟨ct, rfl, h2⟩ := h
 have := h2.oneCell
 refine ⟨by simp [this.1], ?_⟩
 rw [Array.all_append, this.2]
 simp [Value.oneCell']
def enR : Reading (Tm × Int) 9 := ⟨EnIs, fun ho hD h => h.old ho hD, fun h => h.cells⟩
theorem en_size : (Try.prog.info? 101).map (·.size) = some 9 := by kernel_rfl
theorem en_zero (w : World) : (zeroValue 101).run Try.prog w = .ok (.agg #[.int .i64 0, .int .i64 0, .string ByteArray.empty, .int .i64 0, .int .i64 0, .slice none 0 0, .slice none 0 0, .slice none 0 0, .int .i64 0]) w := by kernel_rfl
theorem en_info : (Try.prog.info? 101).map (fun i => (i.zero, i.size, i.bytes)) = some (some (.agg #[.int .i64 0, .int .i64 0, .string ByteArray.empty, .int .i64 0, .int .i64 0, .slice none 0 0, .slice none 0 0, .slice none 0 0, .int .i64 0]), 9, 128) := by kernel_rfl
theorem rends_any (t : Tm) : ∀ (cs : Array Value) (D : Nat → Prop) (d : Int) (base : Nat) (v : Value) (acc : List (Tm × Int)) (w : World), TmIs D w t cs → (∀ q, D q → q < base) → base ≤ w.heap.size → Coll enR D base 101 w v acc →
    0 ≤ d → d + t.height ≤ 4611686018427387904 → acc.length + rsz t ≤ 1000000000 →
    Calls Try.prog 45 #[.agg cs, .int .i64 d, v] w fun e w' =>
     ∃ v', e = .returned v' ∧ Coll enR D base 101 w' v' (acc ++ rends t d) ∧ Upd (fun q => v.ownBlock = some q) w w' ∧ ∀ q, v'.ownBlock = some q → v.ownBlock = some q ∨ w.heap.size ≤ q := by
 induction t using Tm.ind with
 | h k n nm lv ls ks ih =>
  intro cs D d base v acc w hl hDb hbase hco hd0 hdh hsz
  have hz := tm_zero
  have hz2 := en_zero
  have hl0 := hl
  obtain ⟨x, y, z, A, c, A', c', rfl, _, _, _, _, _, _, hks1, hks⟩ := hl.lit
  simp only [Tm.k, Tm.n, Tm.nm, Tm.lv, Tm.ls, Tm.ks] at hks1 hks hl0 ⊢
  have hD : Within D w := fun q hq => Nat.lt_of_lt_of_le (hDb q hq) hbase
  simp only [Tm.height] at hdh
  obtain ⟨X, hX⟩ : ∃ X, rends (.mk k n nm lv ls ks) d = X := ⟨_, rfl⟩
  have hXl := rends_len (.mk k n nm lv ls ks) d
  rw [hX] at hXl ⊢
  rw [rends] at hX
  rw [rsz] at hsz
  have HX := Lib.hid hX; clear hX hl
  obtain ⟨W1, hW1⟩ : ∃ W1, w.alloc (.cells #[.int .i64 k, .int .i64 n, .string nm, x, y, z, .slice A ls.length c, .slice A' ks.length c'] 27) = W1 := ⟨_, rfl⟩
  have huW1 : Upd nob w W1 := by rw [← hW1]; exact (Upd.refl nob w).alloc _
  have hsW1 : W1.heap.size = w.heap.size + 1 := by rw [← hW1]; simp
  have bk0 : Blk W1 (w.heap.size) 27 #[.int .i64 k, .int .i64 n, .string nm, x, y, z, .slice A ls.length c, .slice A' ks.length c'] := by
   rw [← hW1]
   have h := Blk.new (w) 27 #[.int .i64 k, .int .i64 n, .string nm, x, y, z, .slice A ls.length c, .slice A' ks.length c']
   exact h
  have hl1 := hl0.old (hD.old huW1) (fun _ h => h)
  have hks1b := hks.old (hD.old huW1) (fun _ h => h)
  have hD1 := hD.up huW1
  have hco1 := hco.upd huW1 (fun _ f => f.elim) hD
  obtain ⟨sA, sc, hsv, hscp⟩ := hco.form
  subst hsv
  have r1 := bk0.rowAt
  have k0 : W1.cell? ⟨w.heap.size, 0, none⟩ = some (.int .i64 k) := bk0.cell 0
  have k7 : W1.cell? ⟨w.heap.size, 7, none⟩ = some (.slice A' ks.length c') := bk0.cell 7
  have hlt1 := bk0.lt
  have HL1 := Lib.hid hl1
  have HCO1 := Lib.hid hco1
  have HK1 := Lib.hid hks1b
  have HBK := Lib.hid bk0
  have hnO : ∀ q, (Value.slice sA acc.length sc).ownBlock = some q → base ≤ q ∧ q < w.heap.size := fun q h => hco.lt h
  have HW1 := Lib.hid hW1
  rw [← hW1] at r1
  clear hW1 bk0 hl1 hco1 hks1b hks hl0 hco
  go_enter Try.func45, Try.ntmps45
  go_wp2_with (first
          | ((with_reducible refine this_op (.load 27 (.tmp 3)) ?_); refine wpList_at rfl 27 (.tmp 3) rfl ⟨w.heap.size, 0, none⟩ rfl _ _ r1 Try.underlying27 rfl tm_size ?_))
  rw [HW1.out]
  clear r1 HW1
  refine (rleaf_any _ _ D W1 HL1.out).mono ?_
  rintro e w3 ⟨rfl, hb3⟩
  have hu3 : Upd nob W1 w3 := Upd.of_below hb3
  have hw3s := hu3.size
  obtain ⟨lf, hlf⟩ : ∃ q, (Tm.mk k n nm lv ls ks).rleaf = q := ⟨_, rfl⟩
  have hlf2 : rlf k ks.length = lf := hlf
  have hx := HX.out
  rw [hlf]
  rw [hlf2] at hx hsz
  have r3 : rowAt w3 ⟨w.heap.size, 0, none⟩ #[.int .i64 k, .int .i64 n, .string nm, x, y, z, .slice A ls.length c, .slice A' ks.length c'] := (HBK.out.upd hu3 (fun f => f)).rowAt
  have j0 : w3.cell? ⟨w.heap.size, 0, none⟩ = some (.int .i64 k) := (hu3.cell hlt1 (fun f => f)).trans k0
  have j7 : w3.cell? ⟨w.heap.size, 7, none⟩ = some (.slice A' ks.length c') := (hu3.cell hlt1 (fun f => f)).trans k7
  have hlt3 : w.heap.size < w3.heap.size := by omega
  have hD3 := hD1.up hu3
  have hl3 := HL1.out.old (hD1.old hu3) (fun _ h => h)
  have hk3 := HK1.out.old (hD1.old hu3) (fun _ h => h)
  have hco3 := HCO1.out.upd hu3 (fun _ f => f.elim) hD1
  have hu03 := huW1.trans hu3
  have HL3 := Lib.hid hl3
  have HK3 := Lib.hid hk3
  have HCO3 := Lib.hid hco3
  have HX2 := Lib.hid hx
  clear hlf hl3 hk3 hco3 hx HX HL1 HK1 HCO1 k0 k7
  have appd : ∀ (X : List (Tm × Int)), X = [(.mk k n nm lv ls ks, d)] → True := fun _ _ => trivial
  cases lf with
  | true =>
   have hx := HX2.out
   rw [if_pos (by rfl)] at hx
   subst hx
   clear HX2 hlf2
   go_wp2_with (first
             | ((with_reducible refine this_op (.load 27 (.tmp 3)) ?_); refine wpList_at rfl 27 (.tmp 3) rfl ⟨w.heap.size, 0, none⟩ rfl _ _ r3 Try.underlying27 rfl tm_size ?_)
             | ((with_reducible refine this_op (.buildSlice 98 1 #[(0, .tmp 20)]) ?_); refine wpList_build1 rfl 98 101 (.tmp 20) rfl _ 9 128 Try.underlying98 en_info (by decide) (by decide) #[.int .i64 k, .int .i64 n, .string nm, x, y, z, .slice A ls.length c, .slice A' ks.length c', .int .i64 d] rfl rfl ?_
                obtain ⟨W4, hW4⟩ : ∃ W4, w3.alloc (.cells #[.int .i64 k, .int .i64 n, .string nm, x, y, z, .slice A ls.length c, .slice A' ks.length c', .int .i64 d] 101) = W4 := ⟨_, rfl⟩
                have hu4 : Upd nob w3 W4 := by rw [← hW4]; exact (Upd.refl nob w3).alloc _
                have hb4 : Blk W4 w3.heap.size 101 #[.int .i64 k, .int .i64 n, .string nm, x, y, z, .slice A ls.length c, .slice A' ks.length c', .int .i64 d] := by rw [← hW4]; exact Blk.new _ _ _
                have hco4 := HCO3.out.upd hu4 (fun _ f => f.elim) hD3
                have hen : EnIs D W4 (.mk k n nm lv ls ks, d) #[.int .i64 k, .int .i64 n, .string nm, x, y, z, .slice A ls.length c, .slice A' ks.length c', .int .i64 d] := ⟨#[.int .i64 k, .int .i64 n, .string nm, x, y, z, .slice A ls.length c, .slice A' ks.length c'], rfl, HL3.out.old (hD3.old hu4) (fun _ h => h)⟩
                have HCO4 := Lib.hid hco4
                have HEN := Lib.hid hen
                have hw4s := hu4.size
                rw [hW4]
                clear hW4 hco4 hen)
             | (at_builtin; refine wpList_collect rfl (.tmp 17) (.tmp 21) 98 rfl _ 128 Try.underlying98 en_info (by kernel_rfl) (by decide) rfl HCO4.out hDb w3.heap.size #[.int .i64 k, .int .i64 n, .string nm, x, y, z, .slice A ls.length c, .slice A' ks.length c', .int .i64 d] rfl hb4 (.mk k n nm lv ls ks, d) D HEN.out (fun q hq => ⟨.inl hq, fun h => by have := (hnO q h).1; have := hDb q hq; omega⟩) acc.length rfl (by omega) (by omega) (by omega) ?_
                intro sA6 sc6 w6 hc6 hu6 hat6
                have HU6 : Hid (Upd (fun q => (Value.slice sA acc.length sc).ownBlock = some q) w w6) := Lib.hid (((hu03.trans hu4).mono (fun _ f => f.elim)).trans hu6)
                have HC6 : Hid (Coll enR D base 101 w6 (.slice sA6 (acc.length + 1) sc6) (acc ++ [(.mk k n nm lv ls ks, d)])) := Lib.hid hc6
                have HO6 : Hid (∀ q, (Value.slice sA6 (acc.length + 1) sc6).ownBlock = some q → (Value.slice sA acc.length sc).ownBlock = some q ∨ w.heap.size ≤ q) := Lib.hid fun q hq => by
                 rcases hat6 with h | h
                 · exact .inl (h ▸ hq)
                 rw [h] at hq; injection hq with hq; exact .inr (by omega)
                clear hc6 hu6))
   go_ret
   exact ⟨_, rfl, HC6.out, HU6.out, HO6.out⟩
  | false =>
   have hq : 0 ≤ tar k ∧ tar k ≤ ks.length := by
    unfold rlf at hlf2
    simp at hlf2
    exact hlf2
   obtain ⟨q, hqn⟩ : ∃ q : Nat, tar k = q := ⟨(tar k).toNat, by omega⟩
   have hqn2 : (tar k).toNat = q := by omega
   have HQ := Lib.hid hqn
   by_cases hq0 : q = 0
   · have hx := HX2.out
     rw [if_pos (by rw [hqn, hq0]; rfl)] at hx
     subst hx
     subst hq0
     rw [hqn2] at hsz
     simp only [rszs] at hsz
     clear HX2 hlf2 hq hqn hqn2
     go_wp2_with fail
     refine (rkids_any k w3).mono ?_
     rintro e w4 ⟨rfl, hw4⟩
     obtain rfl : w3 = w4 := hw4.symm
     rw [HQ.out]
     go_wp2_with (first
                 | ((with_reducible refine this_op (.load 27 (.tmp 3)) ?_); refine wpList_at rfl 27 (.tmp 3) rfl ⟨w.heap.size, 0, none⟩ rfl _ _ r3 Try.underlying27 rfl tm_size ?_)
                 | ((with_reducible refine this_op (.buildSlice 98 1 #[(0, .tmp 20)]) ?_); refine wpList_build1 rfl 98 101 (.tmp 20) rfl _ 9 128 Try.underlying98 en_info (by decide) (by decide) #[.int .i64 k, .int .i64 n, .string nm, x, y, z, .slice A ls.length c, .slice A' ks.length c', .int .i64 d] rfl rfl ?_
                    obtain ⟨W4, hW4⟩ : ∃ W4, w3.alloc (.cells #[.int .i64 k, .int .i64 n, .string nm, x, y, z, .slice A ls.length c, .slice A' ks.length c', .int .i64 d] 101) = W4 := ⟨_, rfl⟩
                    have hu4 : Upd nob w3 W4 := by rw [← hW4]; exact (Upd.refl nob w3).alloc _
                    have hb4 : Blk W4 w3.heap.size 101 #[.int .i64 k, .int .i64 n, .string nm, x, y, z, .slice A ls.length c, .slice A' ks.length c', .int .i64 d] := by rw [← hW4]; exact Blk.new _ _ _
                    have hco4 := HCO3.out.upd hu4 (fun _ f => f.elim) hD3
                    have hen : EnIs D W4 (.mk k n nm lv ls ks, d) #[.int .i64 k, .int .i64 n, .string nm, x, y, z, .slice A ls.length c, .slice A' ks.length c', .int .i64 d] := ⟨#[.int .i64 k, .int .i64 n, .string nm, x, y, z, .slice A ls.length c, .slice A' ks.length c'], rfl, HL3.out.old (hD3.old hu4) (fun _ h => h)⟩
                    have HCO4 := Lib.hid hco4
                    have HEN := Lib.hid hen
                    have hw4s := hu4.size
                    rw [hW4]
                    clear hW4 hco4 hen)
                 | (at_builtin; refine wpList_collect rfl (.tmp 17) (.tmp 21) 98 rfl _ 128 Try.underlying98 en_info (by kernel_rfl) (by decide) rfl HCO4.out hDb w3.heap.size #[.int .i64 k, .int .i64 n, .string nm, x, y, z, .slice A ls.length c, .slice A' ks.length c', .int .i64 d] rfl hb4 (.mk k n nm lv ls ks, d) D HEN.out (fun q hq => ⟨.inl hq, fun h => by have := (hnO q h).1; have := hDb q hq; omega⟩) acc.length rfl (by omega) (by omega) (by omega) ?_
                    intro sA6 sc6 w6 hc6 hu6 hat6
                    have HU6 : Hid (Upd (fun q => (Value.slice sA acc.length sc).ownBlock = some q) w w6) := Lib.hid (((hu03.trans hu4).mono (fun _ f => f.elim)).trans hu6)
                    have HC6 : Hid (Coll enR D base 101 w6 (.slice sA6 (acc.length + 1) sc6) (acc ++ [(.mk k n nm lv ls ks, d)])) := Lib.hid hc6
                    have HO6 : Hid (∀ q, (Value.slice sA6 (acc.length + 1) sc6).ownBlock = some q → (Value.slice sA acc.length sc).ownBlock = some q ∨ w.heap.size ≤ q) := Lib.hid fun q hq => by
                     rcases hat6 with h | h
                     · exact .inl (h ▸ hq)
                     rw [h] at hq; injection hq with hq; exact .inr (by omega)
                    clear hc6 hu6))
     go_ret
     exact ⟨_, rfl, HC6.out, HU6.out, HO6.out⟩
   have hq1 : ((q : Int) == 0) = false := by simp; omega
   have hx := HX2.out
   rw [if_neg (by rw [hqn]; simp; omega), hqn2] at hx
   rw [if_neg (by decide), hqn2] at hsz
   have HX4 := Lib.hid hx
   have hqk : q ≤ ks.length := by omega
   have hqc : q ≤ c' := by omega
   clear hx HX2 hlf2 hqn hqn2 hq
   go_wp2_with fail
   refine (rkids_any k w3).mono ?_
   rintro e w4 ⟨rfl, hw4⟩
   obtain rfl : w3 = w4 := hw4.symm
   rw [HQ.out]
   go_wp2_with fail
   refine wp_region_P (by kernel_rfl) ?_
   refine wpAny_of_held (S := fun X : World => ∀ p : Addr, p.block < w3.heap.size → X.cell? p = w3.cell? p) _ _ _ _ ?_
   have hS : ∀ p : Addr, p.block < w3.heap.size → w3.drew.cell? p = w3.cell? p := fun _ _ => rfl
   refine hT 0 ?_ rfl (by kernel_rfl) (by rfl) ?_ hS ?_
   rotate_left; · intro wx hx; clear hx; go_simp; with_reducible rfl
   try simp only [tl]
   refine hT 1 ?_ rfl (by kernel_rfl) (by rfl) ?_ hS ?_
   rotate_left
   · intro wx hx
     have q0 := (hx ⟨w.heap.size, 7, none⟩ hlt3).trans j7
     clear hx
     go_simp
     with_reducible rfl
   try simp only [tl]
   refine hT 2 ?_ rfl (by kernel_rfl) (by rfl) ?_ hS ?_
   rotate_left; · intro wx hx; clear hx; go_simp; with_reducible rfl
   try simp only [tl]
   refine hT 3 ?_ rfl (by kernel_rfl) (by rfl) ?_ hS ?_
   rotate_left
   · intro wx hx
     have q0 := (hx ⟨w.heap.size, 0, none⟩ hlt3).trans j0
     clear hx
     go_simp
     with_reducible rfl
   try simp only [tl]
   refine hT 7 ?_ rfl (by kernel_rfl) (by rfl) ?_ hS ?_
   rotate_left; · intro wx hx; clear hx; go_simp; with_reducible rfl
   try simp only [tl]
   refine wpAnyH_alone (i := 4) (by kernel_rfl) rfl (by rfl) fun K hK => ?_
   go_simp
   refine (rkids_any k w3.drew).mono ?_
   rintro e w4 ⟨rfl, rfl⟩
   rw [HQ.out]
   refine hK _ _ (fun _ _ => rfl) ?_
   clear hK K; try simp only [tl]
   refine hT 5 (.slice A' q c') rfl (by kernel_rfl) (by rfl) ?_ hS ?_
   · intro wx hx
     exact run_slice_h8 25 (.tmp 24) (.tmp 27) rfl A' ks.length c' rfl q rfl hqc und_tms 8 sz_tms
   try simp only [tl]
   refine hT 6 ?_ rfl (by kernel_rfl) (by rfl) ?_ hS ?_
   rotate_left; · intro wx hx; clear hx; go_simp; with_reducible rfl
   try simp only [tl]
   refine wpAnyH_done (by kernel_rfl) ?_ _
   refine NoPanic.normal ?_
   go_wp2_with fail
   have hbk3 := HBK.out.upd hu3 (fun f => f)
   have HBK3 := Lib.hid hbk3
   clear hbk3 HBK j0 j7 r3
   go_loopg [2, 30] q (fun m v2 v30 wr => ∃ (j : Nat) (acc2 : List (Tm × Int)), j + m = q ∧ v30 = .int .i64 j ∧ Coll enR D base 101 wr v2 acc2 ∧ acc2 ++ rendss k (q - j) j (ks.drop j) d = acc ++ X ∧ acc2.length + rszs (q - j) (ks.drop j) ≤ 1000000000 ∧
    Upd (fun q => (Value.slice sA acc.length sc).ownBlock = some q) w3 wr ∧ Blk wr w.heap.size 27 #[.int .i64 k, .int .i64 n, .string nm, x, y, z, .slice A ls.length c, .slice A' ks.length c'] ∧ ∀ q, v2.ownBlock = some q → (Value.slice sA acc.length sc).ownBlock = some q ∨ w3.heap.size ≤ q)
   case atStart => exact ⟨0, acc, by omega, rfl, HCO3.out.drew hD3, by rw [List.drop_zero, Nat.sub_zero, HX4.out], by rw [List.drop_zero, Nat.sub_zero]; omega, (Upd.refl nob w3).drew.mono (fun _ f => f.elim), HBK3.out, fun q h => .inl h⟩
   case round =>
    clear HX4 HCO3 HBK3
    obtain ⟨j, acc2, hj, rfl, hcr, hrs, hsr, hus, hbr, how⟩ := hrel
    have hws := hus.size
    obtain ⟨tA, tc, htv, htcp⟩ := hcr.form
    subst htv
    have ho3 : Old D w3 wr := Old.of_upd hus fun q hq => ⟨fun h => by have := (hnO q h).1; have := hDb q hq; omega, hD3 q hq⟩
    have hDr : Within D wr := hD3.up hus
    have HCR := Lib.hid hcr
    have HRS := Lib.hid hrs
    have HBR := Lib.hid hbr
    have HOW := Lib.hid how
    clear hcr hrs hbr how
    by_cases hlt : j < q
    · have t2 : decide ((j : Int) < q) = true := by simp [hlt]
      have hjn : j < ks.length := by omega
      obtain ⟨a, csj, hA, hab, hrow, hlj⟩ := HK3.out.at_ (List.getElem?_eq_getElem hjn)
      rw [Nat.zero_add] at hrow
      have hrow' := hrow.old ho3 (by rw [Addr_add_block]; exact hab)
      have hlj' := hlj.old ho3 (fun _ h => h)
      have hsj := hlj.oneCell
      have hsij : (Try.prog.info? 27).map (·.size) = some csj.size := by rw [hsj.1]; exact tm_size
      have hdr : ks.drop j = ks[j] :: ks.drop (j + 1) := List.drop_eq_getElem_cons hjn
      have hhj : ks[j].height ≤ Tm.heights ks := Tm.height_mem (List.getElem_mem hjn)
      have e1 : q - j = (q - (j + 1)) + 1 := by omega
      have hrs := HRS.out
      rw [hdr, e1, rendss] at hrs
      rw [hdr, e1, rszs] at hsr
      have HRS2 := Lib.hid hrs
      have HA := Lib.hid hA
      have HLJ := Lib.hid hlj'
      have HIH := Lib.hid (ih ks[j] (List.getElem_mem hjn))
      have hbl := bnd_le' k j
      obtain ⟨bb, hbb⟩ : ∃ bb, bnd k j = bb := ⟨_, rfl⟩
      rw [hbb] at hbl
      have hdb : IntKind.i64.wrap (d + bb) = d + bb := IntWalk.i64_in _ (by omega)
      have HBB := Lib.hid hbb
      clear hA hrs hdr e1 HRS hrow hlj hlj' hbb
      go_wp2_with (first
                      | ((with_reducible refine this_op (.indexAddr 25 (.tmp 28) (.tmp 30)) ?_); refine wpList_index_at rfl 25 (.tmp 28) (.tmp 30) rfl _ a _ _ rfl HA.out j rfl hlt 27 Try.underlying25 8 tm_size ?_)
                      | ((with_reducible refine this_op (.load 27 (.tmp 33)) ?_); refine wpList_at rfl 27 (.tmp 33) rfl (a.add (j * 8)) rfl _ _ hrow' Try.underlying27 rfl hsij ?_)
                      | ((with_reducible refine this_op (.store 27 (.tmp 8) (.tmp 34)) ?_); refine wpList_store_row rfl 27 (.tmp 8) (.tmp 34) rfl wr.heap.size _ rfl rfl 27 _ (Blk.new wr _ _) hsij (by rw [hsj.1]; rfl) hsj.2 ?_
                         obtain ⟨W7, hW7⟩ : ∃ W7, (wr.alloc (.cells #[.int .i64 0, .int .i64 0, .string ByteArray.empty, .int .i64 0, .int .i64 0, .slice none 0 0, .slice none 0 0, .slice none 0 0] 27)).setRow wr.heap.size csj = W7 := ⟨_, rfl⟩
                         have hu7 : Upd nob wr W7 := by rw [← hW7]; exact ((Upd.refl nob wr).alloc _).setRow (.inr (Nat.le_refl _)) _
                         have hb7 : Blk W7 wr.heap.size 27 csj := by rw [← hW7]; exact (Blk.new wr _ _).row _
                         rw [hW7]
                         clear hW7
                         have r7 := hb7.rowAt
                         have hlt7 := hb7.lt
                         have k07 : W7.cell? ⟨w.heap.size, 0, none⟩ = some (.int .i64 k) := (HBR.out.upd hu7 (fun f => f)).cell 0
                         clear hb7))
      have hw7s := hu7.size
      have hD7 : Within D W7 := hDr.up hu7
      refine wp_region_P (by kernel_rfl) ?_
      refine wpAny_of_held (S := fun X : World => ∀ p : Addr, (p.block < W7.heap.size ∧ (Value.slice tA acc2.length tc).ownBlock ≠ some p.block) → X.cell? p = W7.cell? p) _ _ _ _ ?_
      have hS : ∀ p : Addr, (p.block < W7.heap.size ∧ (Value.slice tA acc2.length tc).ownBlock ≠ some p.block) → W7.drew.cell? p = W7.cell? p := fun _ _ => rfl
      have hnw : (Value.slice tA acc2.length tc).ownBlock ≠ some wr.heap.size := fun h => by have := (HCR.out.lt h).2; omega
      have hnk : (Value.slice tA acc2.length tc).ownBlock ≠ some w.heap.size := fun h => by rcases HOW.out _ h with h2 | h2; (have := (hnO _ h2).2; omega); omega
      refine hT 0 (.agg csj) rfl (by kernel_rfl) (by rfl) ?_ hS ?_
      · intro wx hx
        exact run_load_at 27 (.tmp 8) rfl ⟨wr.heap.size, 0, none⟩ rfl csj _ (fun i v hv => (hx _ ⟨by rw [Addr_add_block]; exact hlt7, by rw [Addr_add_block]; exact hnw⟩).trans (r7 i v hv)) Try.underlying27 rfl hsij
      try simp only [tl]
      refine hT 1 ?_ rfl (by kernel_rfl) (by rfl) ?_ hS ?_
      rotate_left; · intro wx hx; clear hx; go_simp; with_reducible rfl
      try simp only [tl]
      refine hT 2 ?_ rfl (by kernel_rfl) (by rfl) ?_ hS ?_
      rotate_left; · intro wx hx; clear hx; go_simp; with_reducible rfl
      try simp only [tl]
      refine hT 3 ?_ rfl (by kernel_rfl) (by rfl) ?_ hS ?_
      rotate_left
      · intro wx hx
        have q0 := (hx ⟨w.heap.size, 0, none⟩ ⟨by show w.heap.size < _; omega, hnk⟩).trans k07
        clear hx
        go_simp
        with_reducible rfl
      try simp only [tl]
      refine hT 4 ?_ rfl (by kernel_rfl) (by rfl) ?_ hS ?_
      rotate_left; · intro wx hx; clear hx; go_simp; with_reducible rfl
      try simp only [tl]
      refine hT 7 ?_ rfl (by kernel_rfl) (by rfl) ?_ hS ?_
      rotate_left; · intro wx hx; clear hx; go_simp; with_reducible rfl
      try simp only [tl]
      refine wpAnyH_alone (i := 5) (by kernel_rfl) rfl (by rfl) fun K hK => ?_
      go_simp
      refine (rbinds_any k j W7.drew).mono ?_
      rintro e w4 ⟨rfl, rfl⟩
      rw [HBB.out]
      refine hK _ _ (fun _ _ => rfl) ?_
      clear hK K; try simp only [tl]
      refine hT 6 ?_ rfl (by kernel_rfl) (by rfl) ?_ hS ?_
      rotate_left; · intro wx hx; clear hx; go_simp; with_reducible rfl
      try simp only [tl]
      refine wpAnyH_alone (i := 8) (by kernel_rfl) rfl (by rfl) fun K hK => ?_
      go_simp
      refine (HIH.out csj D (d + bb) base (.slice tA acc2.length tc) acc2 W7.drew ((HLJ.out.old (hDr.old hu7) (fun _ h => h)).drew) hDb (by show base ≤ W7.heap.size; omega) ((HCR.out.upd hu7 (fun _ f => f.elim) hDr).drew hD7) (by omega) (by omega) (by omega)).mono ?_
      rintro e w8 ⟨v8, rfl, hc8, hu8, ho8⟩
      have HU8 : Hid (Upd (fun q => (Value.slice tA acc2.length tc).ownBlock = some q) W7 w8) := Lib.hid (((Upd.refl nob W7).drew.mono (fun _ f => f.elim)).trans hu8)
      have HC8 := Lib.hid hc8
      have HO8 : Hid (∀ q, v8.ownBlock = some q → (Value.slice tA acc2.length tc).ownBlock = some q ∨ W7.heap.size ≤ q) := Lib.hid ho8
      clear hc8 hu8 ho8
      refine hK _ _ (fun p hp => HU8.out.cell hp.1 hp.2) ?_
      clear hK K; try simp only [tl]
      have hS : ∀ p : Addr, (p.block < W7.heap.size ∧ (Value.slice tA acc2.length tc).ownBlock ≠ some p.block) → w8.cell? p = W7.cell? p := fun p hp => HU8.out.cell hp.1 hp.2
      refine hT 9 ?_ rfl (by kernel_rfl) (by rfl) ?_ hS ?_
      rotate_left; · intro wx hx; clear hx; go_simp; with_reducible rfl
      try simp only [tl]
      refine wpAnyH_done (by kernel_rfl) ?_ _
      refine NoPanic.normal ?_
      go_wp2_with fail
      go_roundg (gk - 1)
      case measure => omega
      case rel =>
       have hnT : ∀ q, (Value.slice tA acc2.length tc).ownBlock = some q → q < w3.heap.size → (Value.slice sA acc.length sc).ownBlock = some q := fun q h h2 => (HOW.out q h).elim id (fun h3 => by omega)
       have hl8 := rends_len ks[j] (d + bb)
       refine ⟨j + 1, acc2 ++ rends ks[j] (d + bb), by omega, by go_num, HC8.out, by rw [← HRS2.out, HBB.out, List.append_assoc], by rw [List.length_append]; omega, hus.trans' ((hu7.mono (fun _ f => f.elim)).trans HU8.out) (fun q hq h => hnT q h hq), HBR.out.upd ((hu7.mono (fun _ f => f.elim)).trans' HU8.out (fun q _ h => h)) (fun h => hnk h), fun q h => ?_⟩
       rcases HO8.out q h with h2 | h2
       · exact HOW.out q h2
       exact .inr (by omega)
    have t2 : decide ((j : Int) < q) = false := by simp; omega
    have hrs := HRS.out
    have e1 : q - j = 0 := by omega
    rw [e1, rendss, List.append_nil] at hrs
    subst hrs
    go_wp2_with fail
    go_ret
    refine ⟨_, rfl, HCR.out, (hu03.mono (fun _ f => f.elim)).trans hus, fun q h => (HOW.out q h).imp id fun h => by omega⟩
end Go.Proofs.Ytiampoebdmflgaa
