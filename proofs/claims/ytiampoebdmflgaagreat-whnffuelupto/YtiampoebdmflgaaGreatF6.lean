/- Texts put one behind the other: Wmajor, Widx, Wcc, Rapp, Wclone, Wconcat, Br, Wmodel. -/
import Derived.Test.YtiampoebdmflgaaGreatF5
import Derived.Lib.AppendZerosOnto
import Derived.Lib.SliceRun
import Derived.Test.YtiampoebdmflgaaGreatF0
/- whnf.major; iota's rule. -/
namespace Go.Proofs.YtiampoebdmflgaaGreat
open Go.RowKit
set_option linter.unusedVariables false
set_option maxRecDepth 100000
set_option maxHeartbeats 4000000
set_option linter.unusedSimpArgs false
def wmajor (p m i n : Int) : Int := if p < 0 ∨ n - 2 < p then -1 else if m < 0 ∨ n - 2 - p < m then -1 else if i < 0 ∨ n - 2 - p - m < i then -1 else p + 1 + m + i
theorem arr0 (p m i : Int) (w : World) : (Instr.index 196 (.agg #[.int .i64 p, .int .i64 m, .int .i64 i]) (.int .i64 0)).run Tryz.prog w = .ok (.int .i64 p) w := by kernel_rfl
theorem arr1 (p m i : Int) (w : World) : (Instr.index 196 (.agg #[.int .i64 p, .int .i64 m, .int .i64 i]) (.int .i64 1)).run Tryz.prog w = .ok (.int .i64 m) w := by kernel_rfl
theorem arr2 (p m i : Int) (w : World) : (Instr.index 196 (.agg #[.int .i64 p, .int .i64 m, .int .i64 i]) (.int .i64 2)).run Tryz.prog w = .ok (.int .i64 i) w := by kernel_rfl
theorem wmajor_any (g : Glb) (gcs : Array Value) (gb n : Nat) (D : Nat → Prop) (w : World) (hg : Blk w gb 50 gcs) (hgl : GlIs D w g gcs) (hn : n ≤ 4611686018427387904) :
    Calls Tryz.prog 121 #[.pointer (some ⟨gb, 0, none⟩), .int .i64 n] w fun e w' => e = .returned (.int .i64 (wmajor g.params g.minors g.indices n)) ∧ Below w.heap.size w w' := by
 obtain ⟨a0, a1, a2, a3, a4, a5, a6, a7, b0, b1, b2, b3, b4, b5, b6, b7, C, cc, R, rc, rfl, _, _, _, _, _, _, _, _⟩ := hgl
 obtain ⟨p, hp⟩ : ∃ p, g.params = p := ⟨_, rfl⟩
 obtain ⟨m, hm⟩ : ∃ p, g.minors = p := ⟨_, rfl⟩
 obtain ⟨i, hi⟩ : ∃ p, g.indices = p := ⟨_, rfl⟩
 have cp : w.cell? ⟨gb, 20, none⟩ = some (.int .i64 p) := by rw [← hp]; exact hg.cell 20
 have cm : w.cell? ⟨gb, 24, none⟩ = some (.int .i64 m) := by rw [← hm]; exact hg.cell 24
 have ci : w.cell? ⟨gb, 21, none⟩ = some (.int .i64 i) := by rw [← hi]; exact hg.cell 21
 have ltg := hg.lt
 rw [hp, hm, hi]
 have hA0 := arr0 p m i
 have hA1 := arr1 p m i
 have hA2 := arr2 p m i
 obtain ⟨X, hX⟩ : ∃ X, wmajor p m i n = X := ⟨_, rfl⟩
 rw [hX]
 unfold wmajor at hX
 have HX := Lib.hid hX
 clear hp hm hi hg hX
 have hw0 : wrap64 ((n : Int) - 2) = n - 2 := by unfold wrap64; omega
 go_enter Tryz.func121, Tryz.ntmps121
 go_wp2_with fail
 refine wp_region_P (by kernel_rfl) ?_
 refine wpAny_of_held (S := fun X : World => ∀ q : Addr, q.block < w.heap.size → X.cell? q = w.cell? q) _ _ _ _ ?_
 have hS : ∀ q : Addr, q.block < w.heap.size → w.drew.cell? q = w.cell? q := fun _ _ => rfl
 refine hT 0 ?_ rfl (by kernel_rfl) (by rfl) ?_ hS ?_
 rotate_left; · intro wx hx; clear hx; go_simp; with_reducible rfl
 try simp only [tl]
 refine hT 1 ?_ rfl (by kernel_rfl) (by rfl) ?_ hS ?_
 rotate_left; · intro wx hx; clear hx; go_simp; with_reducible rfl
 try simp only [tl]
 refine hT 2 ?_ rfl (by kernel_rfl) (by rfl) ?_ hS ?_
 rotate_left; · intro wx hx; clear hx; go_simp; with_reducible rfl
 try simp only [tl]
 refine hT 3 ?_ rfl (by kernel_rfl) (by rfl) ?_ hS ?_
 rotate_left
 · intro wx hx
   have q0 := (hx ⟨gb, 20, none⟩ ltg).trans cp
   clear hx
   go_simp
   with_reducible rfl
 try simp only [tl]
 refine hT 4 ?_ rfl (by kernel_rfl) (by rfl) ?_ hS ?_
 rotate_left; · intro wx hx; clear hx; go_simp; with_reducible rfl
 try simp only [tl]
 refine hT 5 ?_ rfl (by kernel_rfl) (by rfl) ?_ hS ?_
 rotate_left; · intro wx hx; clear hx; go_simp; with_reducible rfl
 try simp only [tl]
 refine hT 6 ?_ rfl (by kernel_rfl) (by rfl) ?_ hS ?_
 rotate_left; · intro wx hx; clear hx; go_simp; with_reducible rfl
 try simp only [tl]
 refine hT 7 ?_ rfl (by kernel_rfl) (by rfl) ?_ hS ?_
 rotate_left
 · intro wx hx
   have q0 := (hx ⟨gb, 24, none⟩ ltg).trans cm
   clear hx
   go_simp
   with_reducible rfl
 try simp only [tl]
 refine hT 8 ?_ rfl (by kernel_rfl) (by rfl) ?_ hS ?_
 rotate_left; · intro wx hx; clear hx; go_simp; with_reducible rfl
 try simp only [tl]
 refine hT 9 ?_ rfl (by kernel_rfl) (by rfl) ?_ hS ?_
 rotate_left; · intro wx hx; clear hx; go_simp; with_reducible rfl
 try simp only [tl]
 refine hT 10 ?_ rfl (by kernel_rfl) (by rfl) ?_ hS ?_
 rotate_left; · intro wx hx; clear hx; go_simp; with_reducible rfl
 try simp only [tl]
 refine hT 11 ?_ rfl (by kernel_rfl) (by rfl) ?_ hS ?_
 rotate_left
 · intro wx hx
   have q0 := (hx ⟨gb, 21, none⟩ ltg).trans ci
   clear hx
   go_simp
   with_reducible rfl
 try simp only [tl]
 refine hT 12 ?_ rfl (by kernel_rfl) (by rfl) ?_ hS ?_
 rotate_left; · intro wx hx; clear hx; go_simp; with_reducible rfl
 try simp only [tl]
 refine hT 13 ?_ rfl (by kernel_rfl) (by rfl) ?_ hS ?_
 rotate_left; · intro wx hx; clear hx; go_simp; with_reducible rfl
 try simp only [tl]
 refine wpAnyH_done (by kernel_rfl) ?_ _
 refine NoPanic.normal ?_
 clear hw0 hS
 go_wp2_with fail
 go_loopg [5, 23] 3 (fun k v5 v23 wr => ∃ j : Nat, j + k = 3 ∧ v23 = .int .i64 j ∧ v5 = .int .i64 (if j = 0 then (n : Int) - 2 else if j = 1 then n - 2 - p else if j = 2 then n - 2 - p - m else n - 2 - p - m - i) ∧
  (1 ≤ j → ¬ (p < 0 ∨ (n : Int) - 2 < p)) ∧ (2 ≤ j → ¬ (m < 0 ∨ (n : Int) - 2 - p < m)) ∧ (3 ≤ j → ¬ (i < 0 ∨ (n : Int) - 2 - p - m < i)) ∧ Upd nob w wr ∧ (∀ q : Addr, q.block < w.heap.size → wr.cell? q = w.cell? q))
 case atStart => exact ⟨0, by omega, rfl, rfl, fun h => by omega, fun h => by omega, fun h => by omega, (Upd.refl nob w).drew, fun q _ => rfl⟩
 case round =>
  obtain ⟨j, hj, rfl, rfl, h1, h2, h3, hu, hc⟩ := hrel
  have hj4 : j = 0 ∨ j = 1 ∨ j = 2 ∨ j = 3 := by omega
  rcases hj4 with rfl | rfl | rfl | rfl
  · simp only [if_true]
    by_cases hb : p < 0 ∨ (n : Int) - 2 < p
    · have hx : X = -1 := by rw [← HX.out, if_pos hb]
      have HXX := Lib.hid hx
      clear hx cp cm ci
      by_cases hb1 : p < 0
      · have e1 : (p < 0) = True := eq_true hb1
        clear hb hb1
        go_wp2_with fail
        go_ret
        exact ⟨by rw [HXX.out]; rfl, hu.below⟩
      have e1 : (p < 0) = False := eq_false hb1
      have e2 : ((n : Int) - 2 < p) = True := eq_true (hb.resolve_left hb1)
      clear hb hb1
      go_wp2_with fail
      go_ret
      exact ⟨by rw [HXX.out]; rfl, hu.below⟩
    have e1 : (p < 0) = False := eq_false (fun h => hb (.inl h))
    have e2 : ((n : Int) - 2 < p) = False := eq_false (fun h => hb (.inr h))
    have hw : wrap64 ((n : Int) - 2 - p) = (n : Int) - 2 - p := by unfold wrap64; omega
    go_wp2_with fail
    go_roundg (gk - 1)
    case measure => omega
    case rel => exact ⟨1, by omega, by go_num, rfl, fun _ => hb, fun h => by omega, fun h => by omega, hu, hc⟩
  · simp only [Nat.one_ne_zero, if_false, if_true]
    have h1 := h1 (by omega)
    by_cases hb : m < 0 ∨ (n : Int) - 2 - p < m
    · have hx : X = -1 := by rw [← HX.out, if_neg h1, if_pos hb]
      have HXX := Lib.hid hx
      clear hx cp cm ci
      by_cases hb1 : m < 0
      · have e1 : (m < 0) = True := eq_true hb1
        clear hb hb1
        go_wp2_with fail
        go_ret
        exact ⟨by rw [HXX.out]; rfl, hu.below⟩
      have e1 : (m < 0) = False := eq_false hb1
      have e2 : ((n : Int) - 2 - p < m) = True := eq_true (hb.resolve_left hb1)
      clear hb hb1
      go_wp2_with fail
      go_ret
      exact ⟨by rw [HXX.out]; rfl, hu.below⟩
    have e1 : (m < 0) = False := eq_false (fun h => hb (.inl h))
    have e2 : ((n : Int) - 2 - p < m) = False := eq_false (fun h => hb (.inr h))
    have hw : wrap64 ((n : Int) - 2 - p - m) = (n : Int) - 2 - p - m := by unfold wrap64; omega
    go_wp2_with fail
    go_roundg (gk - 1)
    case measure => omega
    case rel => exact ⟨2, by omega, by go_num, rfl, fun _ => h1, fun _ => hb, fun h => by omega, hu, hc⟩
  · simp only [show ¬ (2 : Nat) = 0 by omega, show ¬ (2 : Nat) = 1 by omega, if_false, if_true]
    have h1 := h1 (by omega)
    have h2 := h2 (by omega)
    by_cases hb : i < 0 ∨ (n : Int) - 2 - p - m < i
    · have hx : X = -1 := by rw [← HX.out, if_neg h1, if_neg h2, if_pos hb]
      have HXX := Lib.hid hx
      clear hx cp cm ci
      by_cases hb1 : i < 0
      · have e1 : (i < 0) = True := eq_true hb1
        clear hb hb1
        go_wp2_with fail
        go_ret
        exact ⟨by rw [HXX.out]; rfl, hu.below⟩
      have e1 : (i < 0) = False := eq_false hb1
      have e2 : ((n : Int) - 2 - p - m < i) = True := eq_true (hb.resolve_left hb1)
      clear hb hb1
      go_wp2_with fail
      go_ret
      exact ⟨by rw [HXX.out]; rfl, hu.below⟩
    have e1 : (i < 0) = False := eq_false (fun h => hb (.inl h))
    have e2 : ((n : Int) - 2 - p - m < i) = False := eq_false (fun h => hb (.inr h))
    have hw : wrap64 ((n : Int) - 2 - p - m - i) = (n : Int) - 2 - p - m - i := by unfold wrap64; omega
    go_wp2_with fail
    go_roundg (gk - 1)
    case measure => omega
    case rel => exact ⟨3, by omega, by go_num, rfl, fun _ => h1, fun _ => h2, fun _ => hb, hu, hc⟩
  simp only [show ¬ (3 : Nat) = 0 by omega, show ¬ (3 : Nat) = 1 by omega, show ¬ (3 : Nat) = 2 by omega, if_false]
  have h1 := h1 (by omega)
  have h2 := h2 (by omega)
  have h3 := h3 (by omega)
  have cp' : wr.cell? ⟨gb, 20, none⟩ = some (.int .i64 p) := (hc _ ltg).trans cp
  have cm' : wr.cell? ⟨gb, 24, none⟩ = some (.int .i64 m) := (hc _ ltg).trans cm
  have ci' : wr.cell? ⟨gb, 21, none⟩ = some (.int .i64 i) := (hc _ ltg).trans ci
  have hx : X = p + 1 + m + i := by rw [← HX.out, if_neg h1, if_neg h2, if_neg h3]
  have kk : IntKind.i64.wrap (IntKind.i64.wrap (IntKind.i64.wrap (p + 1) + m) + i) = p + 1 + m + i := by
   rw [IntWalk.i64_in (p + 1) ⟨by omega, by omega⟩, IntWalk.i64_in (p + 1 + m) ⟨by omega, by omega⟩, IntWalk.i64_in (p + 1 + m + i) ⟨by omega, by omega⟩]
  have KK := Lib.hid kk
  clear kk
  have hgs : gb < wr.heap.size := Nat.lt_of_lt_of_le ltg hu.size
  have HXX := Lib.hid hx
  clear hx h1 h2 h3
  go_wp2_with fail
  refine wp_region_P (by kernel_rfl) ?_
  refine wpAny_of_held (S := fun X : World => ∀ q : Addr, q.block < w.heap.size → X.cell? q = w.cell? q) _ _ _ _ ?_
  have hS : ∀ q : Addr, q.block < w.heap.size → wr.drew.cell? q = w.cell? q := fun q hq => hc q hq
  refine hT 0 ?_ rfl (by kernel_rfl) (by rfl) ?_ hS ?_
  rotate_left; · intro wx hx; clear hx; go_simp; with_reducible rfl
  try simp only [tl]
  refine hT 1 ?_ rfl (by kernel_rfl) (by rfl) ?_ hS ?_
  rotate_left; · intro wx hx; clear hx; go_simp; with_reducible rfl
  try simp only [tl]
  refine hT 2 ?_ rfl (by kernel_rfl) (by rfl) ?_ hS ?_
  rotate_left; · intro wx hx; clear hx; go_simp; with_reducible rfl
  try simp only [tl]
  refine hT 3 ?_ rfl (by kernel_rfl) (by rfl) ?_ hS ?_
  rotate_left
  · intro wx hx
    have q0 := (hx ⟨gb, 20, none⟩ ltg).trans cp
    clear hx
    go_simp
    with_reducible rfl
  try simp only [tl]
  refine hT 4 ?_ rfl (by kernel_rfl) (by rfl) ?_ hS ?_
  rotate_left; · intro wx hx; clear hx; go_simp; with_reducible rfl
  try simp only [tl]
  refine hT 5 ?_ rfl (by kernel_rfl) (by rfl) ?_ hS ?_
  rotate_left; · intro wx hx; clear hx; go_simp; with_reducible rfl
  try simp only [tl]
  refine hT 6 ?_ rfl (by kernel_rfl) (by rfl) ?_ hS ?_
  rotate_left; · intro wx hx; clear hx; go_simp; with_reducible rfl
  try simp only [tl]
  refine hT 7 ?_ rfl (by kernel_rfl) (by rfl) ?_ hS ?_
  rotate_left; · intro wx hx; clear hx; go_simp; with_reducible rfl
  try simp only [tl]
  refine hT 8 ?_ rfl (by kernel_rfl) (by rfl) ?_ hS ?_
  rotate_left
  · intro wx hx
    have q0 := (hx ⟨gb, 24, none⟩ ltg).trans cm
    clear hx
    go_simp
    with_reducible rfl
  try simp only [tl]
  refine hT 9 ?_ rfl (by kernel_rfl) (by rfl) ?_ hS ?_
  rotate_left; · intro wx hx; clear hx; go_simp; with_reducible rfl
  try simp only [tl]
  refine hT 10 ?_ rfl (by kernel_rfl) (by rfl) ?_ hS ?_
  rotate_left; · intro wx hx; clear hx; go_simp; with_reducible rfl
  try simp only [tl]
  refine hT 11 ?_ rfl (by kernel_rfl) (by rfl) ?_ hS ?_
  rotate_left; · intro wx hx; clear hx; go_simp; with_reducible rfl
  try simp only [tl]
  refine hT 12 ?_ rfl (by kernel_rfl) (by rfl) ?_ hS ?_
  rotate_left; · intro wx hx; clear hx; go_simp; with_reducible rfl
  try simp only [tl]
  refine hT 13 ?_ rfl (by kernel_rfl) (by rfl) ?_ hS ?_
  rotate_left
  · intro wx hx
    have q0 := (hx ⟨gb, 21, none⟩ ltg).trans ci
    clear hx
    go_simp
    with_reducible rfl
  try simp only [tl]
  refine hT 14 ?_ rfl (by kernel_rfl) (by rfl) ?_ hS ?_
  rotate_left; · intro wx hx; clear hx; go_simp; with_reducible rfl
  try simp only [tl]
  refine wpAnyH_alone (i := 15) (by kernel_rfl) rfl (by rfl) fun K hK => ?_
  go_simp
  refine hK _ _ hS ?_
  clear hK K; try simp only [tl]
  refine wpAnyH_done (by kernel_rfl) ?_ _
  refine NoPanic.normal ?_
  go_wp2_with fail
  go_ret
  exact ⟨by rw [HXX.out, ← KK.out]; rfl, hu.drew.below⟩
end Go.Proofs.YtiampoebdmflgaaGreat
/- whnf: which of a recursor's rules (slices.IndexFunc). -/
namespace Go.Proofs.YtiampoebdmflgaaGreat
open Go.RowKit
set_option linter.unusedVariables false
set_option maxRecDepth 100000
set_option maxHeartbeats 4000000
set_option linter.unusedSimpArgs false
def rfind (nm : ByteArray) : List Rul → Int → Int
 | [], _ => -1
 | r :: l, i => if (r.ctor.toList == nm.toList) = true then i else rfind nm l (i + 1)
theorem iota1_any (r : Rul) (rcs : Array Value) (b : Nat) (t : Tm) (D : Nat → Prop) (w : World) (hr : RuIs D w r rcs) (hb : BoxTm D w b t) :
    Calls Tryz.prog 123 #[.agg rcs, .pointer (some ⟨b, 0, none⟩)] w fun e w' => e = .returned (.bool (r.ctor.toList == t.nm.toList)) ∧ Below w.heap.size w w' := by
 obtain ⟨bc, rfl, _, _, hbody⟩ := hr
 obtain ⟨p1, q1, B1, m1, d1, E1, x1, E1', x1', rfl⟩ := hbody.lit8
 obtain ⟨tcs, hb, ht⟩ := hb
 obtain ⟨p2, q2, B2, m2, d2, E2, x2, E2', x2', rfl⟩ := ht.lit8
 have c2 : w.cell? ⟨b, 2, none⟩ = some (.string t.nm) := hb.cell 2
 have lt := hb.lt
 clear hb ht hbody
 go_enter Tryz.func123, Tryz.ntmps123
 go_wp2_with fail
 go_ret
 exact ⟨rfl, ((Upd.refl nob w).alloc _).below⟩
theorem widx_any (l : List Rul) (R : Option Addr) (rc b : Nat) (t : Tm) (D : Nat → Prop) (w : World) (hD : Within D w) (hl : RusAt D w l R) (hll : l.length * 144 ≤ 140737488351232) (hb : BoxTm D w b t) (hbD : b < w.heap.size) :
    Calls Tryz.prog 122 #[.slice R l.length rc, .func (.func 123) #[] #[.pointer (some ⟨b, 0, none⟩)]] w fun e w' => e = .returned (.int .i64 (rfind t.nm l 0)) ∧ Below w.heap.size w w' := by
 obtain ⟨N, hN⟩ : ∃ N, l.length = N := ⟨_, rfl⟩
 rw [hN] at hll
 rw [hN]
 have HN := Lib.hid hN
 obtain ⟨X, hX⟩ : ∃ X, rfind t.nm l 0 = X := ⟨_, rfl⟩
 rw [hX]
 have HX := Lib.hid hX
 clear hN hX
 have he : ∀ (args : Array Value) (wx : World), (callFunc 123 args).run Tryz.prog wx = .ok (.enter 123 args) wx := fun _ _ => by go_simp
 go_enter Tryz.func122, Tryz.ntmps122
 go_wp2_with fail
 go_loopg [8] N (fun k v8 wr => ∃ j : Nat, j + k = N ∧ v8 = .int .i64 j ∧ X = rfind t.nm (l.drop j) j ∧ Upd nob w wr)
 case atStart => exact ⟨0, by omega, rfl, by rw [← HX.out]; rfl, Upd.refl _ _⟩
 case round =>
  obtain ⟨j, hj, rfl, hx, hu⟩ := hrel
  have HXJ := Lib.hid hx
  clear hx
  by_cases hlt : j < N
  · have t2 : decide ((j : Int) < N) = true := by simp [hlt]
    have hlt' : j < l.length := by rw [HN.out]; exact hlt
    obtain ⟨r, hr⟩ : ∃ r, l[j] = r := ⟨_, rfl⟩
    obtain ⟨a, cs, hA, hab, hrow, hru⟩ := hl j r (by rw [List.getElem?_eq_getElem hlt', hr])
    have hrow2 : rowAt wr (a.add (j * 10)) cs := hrow.old (hD.old hu) (by rw [Addr_add_block]; exact hab)
    have hcs := hru.cells
    have hsi : (Tryz.prog.info? 132).map (·.size) = some cs.size := by rw [hcs.1]; exact ru_size
    have hd : l.drop j = r :: l.drop (j + 1) := by rw [List.drop_eq_getElem_cons hlt', hr]
    have hxj := HXJ.out
    rw [hd, rfind] at hxj
    have HXK := Lib.hid hxj
    have HA := Lib.hid hA
    have hcall := iota1_any r cs b t D wr (hru.old (hD.old hu) (fun _ h => h)) (hb.old (hD.old hu) (fun _ h => h) (hu.block b hbD (fun f => f)))
    have HC := Lib.hid hcall
    clear hxj hA hrow hr hd hcall
    go_wp2_with (first
     | (refine wpList_index_at rfl 48 (.tmp 12) (.tmp 13) rfl _ a _ _ rfl HA.out j rfl hlt 132 Tryz.underlying48 10 ru_size ?_)
     | ((with_reducible refine this_op (.load 132 (.tmp 14)) ?_); refine wpList_at rfl 132 (.tmp 14) rfl (a.add (j * 10)) rfl _ _ hrow2 Tryz.underlying132 rfl hsi ?_))
    refine HC.out.mono ?_
    rintro e w2 ⟨rfl, hb2⟩
    have hu2 := hu.trans (Upd.of_below hb2)
    cases hc : (r.ctor.toList == t.nm.toList) with
    | true =>
     have HH := Lib.hid hc
     clear hc
     go_wp2_with fail
     go_ret
     have h1 := HXK.out
     rw [HH.out, if_pos rfl] at h1
     exact ⟨by rw [h1]; rfl, hu2.below⟩
    | false =>
     have HH := Lib.hid hc
     clear hc
     go_wp2_with fail
     go_roundg (gk - 1)
     case measure => omega
     case rel =>
      have h1 := HXK.out
      rw [HH.out, if_neg (by decide)] at h1
      exact ⟨j + 1, by omega, by go_num, by rw [h1]; rfl, hu2⟩
  have t2 : decide ((j : Int) < N) = false := by simp; omega
  have h1 := HXJ.out
  rw [List.drop_of_length_le (by rw [HN.out]; omega), rfind] at h1
  have H1 := Lib.hid h1
  clear h1
  go_wp2_with fail
  go_ret
  exact ⟨by rw [H1.out]; rfl, hu.below⟩
end Go.Proofs.YtiampoebdmflgaaGreat
/- slices.Grow, Concat of terms. -/
namespace Go.Proofs.YtiampoebdmflgaaGreat
open Go.RowKit
set_option linter.unusedVariables false
set_option maxRecDepth 100000
set_option maxHeartbeats 4000000
set_option linter.unusedSimpArgs false
theorem grow_any (n : Nat) (w : World) (hn : n * 120 ≤ 140737488351232) :
    Calls Tryz.prog 151 #[.slice none 0 0, .int .i64 n] w fun e w' => ∃ v, e = .returned v ∧ Rows w' w.heap.size 28 8 v [] ∧ Upd nob w w' := by
 obtain ⟨i0, hi0, hiz, his, hib⟩ := info_split tm_info
 have h2 : wrap64 ((n : Int) - 0) = n := by unfold wrap64; omega
 by_cases h0 : n = 0
 · subst h0
   go_enter Tryz.func151, Tryz.ntmps151
   go_wp2_with fail
   go_ret
   exact ⟨_, rfl, Rows.nil_, Upd.refl _ _⟩
 have hpos : (0 < (n : Int)) = True := eq_true (by omega)
 have hneg : ((n : Int) < 0) = False := eq_false (by omega)
 have hold : (Builtin.firstCells i0.size 0 (.slice none 0 0)).run Tryz.prog w.drew = .ok ([] : List Value).toArray w.drew := run_firstCells_none w.drew i0.size 0 0 0
 have hfit : Builtin.nextslicecap (0 + n) 0 * i0.bytes ≤ 281474976710656 := growslice_fits (by omega) (by rw [hib]; omega)
 have hrz : ∀ ty, (Builtin.append_ #[26, 3] ty #[.slice none 0 0, .int .i64 (n : Int)]).run Tryz.prog w =
     .ok (.slice (some ⟨w.heap.size, 0, none⟩) n (grownCap w n 0 28)) (w.drew.alloc (.cells (([] : List Value).toArray ++ Builtin.zeroCells (.agg #[.int .i64 0, .int .i64 0, .string ByteArray.empty, .int .i64 0, .int .i64 0, .slice none 0 0, .slice none 0 0, .slice none 0 0] : Value).cells n ++ Builtin.zeroCells (.agg #[.int .i64 0, .int .i64 0, .string ByteArray.empty, .int .i64 0, .int .i64 0, .slice none 0 0, .slice none 0 0, .slice none 0 0] : Value).cells (grownCap w n 0 28 - n)) 28)) := fun ty => by
  have h := Lib.run_append_grow_zeros w 26 3 ty 28 i0 (.agg #[.int .i64 0, .int .i64 0, .string ByteArray.empty, .int .i64 0, .int .i64 0, .slice none 0 0, .slice none 0 0, .slice none 0 0] : Value) .i64 .i64 Tryz.underlying26 Tryz.underlying3 hi0 hiz none 0 0 [] hold n (by omega) (by rw [his]; omega) (by omega) (by omega) (by rw [hib]; omega) hfit
  simpa using h
 have hge := grownCap_ge w n 0 28
 have hle := grownCap_le_maxLen w n 0 28 (by unfold maxLen; omega)
 obtain ⟨G, hG⟩ : ∃ G, grownCap w n 0 28 = G := ⟨_, rfl⟩
 rw [hG] at hrz hge hle
 have hG63 : G ≤ 9223372036854775807 := by unfold maxLen at hle; omega
 obtain ⟨Cs, hCs⟩ : ∃ Cs, ([] : List Value).toArray ++ Builtin.zeroCells (.agg #[.int .i64 0, .int .i64 0, .string ByteArray.empty, .int .i64 0, .int .i64 0, .slice none 0 0, .slice none 0 0, .slice none 0 0] : Value).cells n ++ Builtin.zeroCells (.agg #[.int .i64 0, .int .i64 0, .string ByteArray.empty, .int .i64 0, .int .i64 0, .slice none 0 0, .slice none 0 0, .slice none 0 0] : Value).cells (G - n) = Cs := ⟨_, rfl⟩
 have hsz : Cs.size = G * 8 := by
  rw [← hCs]
  simp only [Array.size_append, List.size_toArray, List.length_nil, size_zeroCells]
  have e : ((.agg #[.int .i64 0, .int .i64 0, .string ByteArray.empty, .int .i64 0, .int .i64 0, .slice none 0 0, .slice none 0 0, .slice none 0 0] : Value)).cells.size = 8 := rfl
  rw [e]; omega
 rw [hCs] at hrz
 have HZ := Lib.hid hrz
 clear hold hfit hG hCs hrz hi0 hiz his hib
 go_enter Tryz.func151, Tryz.ntmps151
 go_wp2_with (at_builtin; refine Lib.wpList_append_run _ rfl _ _ _ _ rfl _ _ rfl rfl _ _ (HZ.out _) ?_)
 all_goals
  go_ret
  refine ⟨_, rfl, ⟨⟨by simp [cat], .inr ⟨w.heap.size, G, Cs, rfl, Nat.le_refl _, heap_alloc_new w.drew _, by simp, hle, hsz, by simp [cat]⟩⟩, fun _ h => by cases h⟩, ((Upd.refl nob w).drew).alloc _⟩
theorem run_append_none {P : Program} (w : World) (t ty e : TypeId) (i : TypeInfo) (ht : P.underlying t = some (.slice e)) (hi : P.info? e = some i) (B : Option Addr) (n c c2 : Nat) (hn : n ≤ c) :
    (Builtin.append_ #[t, t] ty #[.slice B n c, .slice none 0 c2]).run P w = .ok (.slice B n c) w := by
 cases B with
 | none => simp [Builtin.append_, run_underlying ht, sizeOf, typeInfo, hi, Builtin.lenOf, Builtin.firstCells, loadCells, loadCellsFrom, hn, asInt, asIntOf]
 | some b => simp [Builtin.append_, run_underlying ht, sizeOf, typeInfo, hi, Builtin.lenOf, Builtin.firstCells, loadCells, loadCellsFrom, hn, asInt, asIntOf, storeCells]
theorem cat_of {D : Nat → Prop} {w : World} {A : Option Addr} {a : Addr} (hA : A = some a) : ∀ (ms : List Tm) (i : Nat), TmsAt D w ms A i → ∃ rows : List (Array Value), rows.length = ms.length ∧ (∀ (j : Nat) m r, ms[j]? = some m → rows[j]? = some r → TmIs D w m r ∧ rowAt w (a.add ((i + j) * 8)) r) ∧ (∀ r ∈ rows, r.size = 8 ∧ r.all (·.oneCell') = true)
 | [], i, _ => ⟨[], rfl, fun j m r h => by simp at h, fun r h => by cases h⟩
 | m :: ms, i, h => by
  simp only [TmsAt] at h
  obtain ⟨⟨a', cs, ha', _, hr, ht⟩, h2⟩ := h
  rw [hA] at ha'
  injection ha' with ha'
  subst ha'
  obtain ⟨rows, k1, k2, k3⟩ := cat_of hA ms (i + 1) h2
  refine ⟨cs :: rows, by simp [k1], fun j m' r hm hr' => ?_, fun r hr' => ?_⟩
  · cases j with
    | zero =>
     simp only [List.getElem?_cons_zero, Option.some.injEq] at hm hr'
     subst hm hr'
     exact ⟨ht, hr⟩
    | succ j =>
     have := k2 j m' r (by simpa using hm) (by simpa using hr')
     rwa [show i + 1 + j = i + (j + 1) by omega] at this
  rcases List.mem_cons.1 hr' with rfl | hr'
  · exact ht.oneCell
  exact k3 r hr'
theorem cat_at {w : World} {a : Addr} : ∀ (rows : List (Array Value)) (i : Nat), (∀ r ∈ rows, r.size = 8) → (∀ (j : Nat) r, rows[j]? = some r → rowAt w (a.add ((i + j) * 8)) r) → ∀ (j : Nat) u, (cat rows)[j]? = some u → w.cell? (a.add (i * 8 + j)) = some u
 | [], i, _, _, j, u, h => by simp [cat] at h
 | r :: rows, i, hs, hr, j, u, h => by
  have h8 := hs r (by simp)
  rw [kat_cons] at h
  by_cases hj : j < 8
  · rw [List.getElem?_append_left (by rw [Array.length_toList, h8]; exact hj)] at h
    have := hr 0 r rfl j u (by simpa using h)
    rw [Addr_add_add] at this
    simpa using this
  rw [List.getElem?_append_right (by rw [Array.length_toList, h8]; omega), Array.length_toList, h8] at h
  have := cat_at rows (i + 1) (fun x hx => hs x (by simp [hx])) (fun j' r' hj' => by
   have := hr (j' + 1) r' (by simpa using hj')
   rwa [show i + (j' + 1) = i + 1 + j' by omega] at this) (j - 8) u h
  rwa [show (i + 1) * 8 + (j - 8) = i * 8 + j by omega] at this
theorem wpList_appends {ops : Array Oper} {rest : List Oper} {o : Oper} {a : Act} {w : World} {Q : Exit → Act → World → Prop} (hgd : o.guard = none) (s x : Operand)
    (ho : o.op = .call { callee := .builtin .append, args := #[s, x], argTypes := #[26, 26] })
    (E : Nat → Prop) (base : Nat) (v : Value) (ls : List Tm) (hs : a.eval s = v) (hc : Coll tmR E base 28 w v ls) (hE : ∀ k, E k → k < base) (A : Option Addr) (c m : Nat) (ms : List Tm) (hm : ms.length = m) (hx : a.eval x = .slice A m c) (hms : TmsAt E w ms A 0)
    (hlen : (ls.length + ms.length) * 120 ≤ 140737488351232) (hb : base ≤ w.heap.size)
    (h : ∀ v' w', Coll tmR E base 28 w' v' (ls ++ ms) → Upd (fun k => v.ownBlock = some k) w w' → (v'.ownBlock = v.ownBlock ∨ v'.ownBlock = some w.heap.size) → wpList Tryz.prog ops Q rest (a.put o.dst v') w') : wpList Tryz.prog ops Q (o :: rest) a w := by
 obtain ⟨i0, hi0, hiz, his, hib⟩ := info_split tm_info
 subst hm
 cases A with
 | none =>
  obtain rfl : ms = [] := by
   cases ms with
   | nil => rfl
   | cons t ts => simp only [TmsAt] at hms; obtain ⟨⟨a, _, h, _⟩, _⟩ := hms; cases h
  obtain ⟨B, cb, hv, hcb⟩ := hc.form
  subst hv
  refine wpList_plain hgd fun K hK => ?_
  unfold Oper.wp execOp
  have hr := run_append_none (P := Tryz.prog) w 26 o.type 28 i0 Tryz.underlying26 hi0 B ls.length cb c hcb
  simp only [ho, resolve, invoke, builtin, Sem.run_bind, Sem.run_pure, Result.andThen_ok, List.map_toArray, List.map_cons, List.map_nil, hs, hx, List.length_nil, hr]
  exact hK _ _ (h _ _ (by rw [List.append_nil]; exact hc) (Upd.refl _ _) (.inl rfl))
 | some ad =>
  obtain ⟨rows, hrr⟩ := hc.rows
  obtain ⟨nr, k1, k2, k3⟩ := cat_of rfl ms 0 hms
  have hns : ∀ r ∈ nr, r.size = 8 := fun r hr => (k3 r hr).1
  have hlr := hrr.2.1
  refine wpList_append_own_at w hgd s x 26 ho base 28 i0 (.agg #[.int .i64 0, .int .i64 0, .string ByteArray.empty, .int .i64 0, .int .i64 0, .slice none 0 0, .slice none 0 0, .slice none 0 0] : Value) 8 120 Tryz.underlying26 hi0 hiz his hib rfl (by omega) v rows.length (cat rows) hs hrr.1.own ad ms.length c (cat nr) hx (by rw [kat_len nr hns, k1]) ?_ ?_ (by rw [hlr]; unfold maxLen; omega) (by rw [hlr]; omega) hb ?_
  · intro j u hj
    have := cat_at nr 0 hns (fun j r hj => by
     have hjl : j < ms.length := by rw [← k1]; exact (List.getElem?_eq_some_iff.1 hj).1
     exact (k2 j _ r (List.getElem?_eq_getElem hjl) hj).2) j u hj
    simpa using this
  · intro u hu
    simp only [cat, List.mem_flatMap] at hu
    obtain ⟨r, hr, hu⟩ := hu
    have h1 := Array.all_eq_true.1 (k3 r hr).2
    obtain ⟨j, hj, e⟩ := Array.getElem_of_mem (Array.mem_toList_iff.1 hu)
    exact e ▸ h1 j hj
  intro v' w' how hgr _ hat
  have hu : Upd (fun k => v.ownBlock = some k) w w' := (Upd.refl _ w).grown hgr fun k hk => .inl hk
  have ho : Old (cd E base w v) w w' := fun k hk => hu.block k (hk.1.elim (fun h1 => Nat.lt_of_lt_of_le (hE k h1) hb) (fun h1 => h1.2)) hk.2
  have hd : ∀ k, cd E base w v k → cd E base w' v' k := fun k hk => by
   refine ⟨hk.1.imp id (fun h => ⟨h.1, Nat.lt_of_lt_of_le h.2 hu.size⟩), ?_⟩
   rcases hat with h1 | h1
   · rw [h1]; exact hk.2
   rw [h1]; intro h2
   have h2 : w.heap.size = k := by simpa using h2
   rcases hk.1 with h3 | h3
   · have := hE k h3; omega
   omega
  have hEd : ∀ k, E k → cd E base w v k := fun k hk => ⟨.inl hk, fun h => by have := hc.lt h; have := hE k hk; omega⟩
  refine h v' w' ⟨rows ++ nr, ⟨by rw [List.length_append, k1, cat_app]; exact how, fun r hr => (List.mem_append.1 hr).elim (hrr.1.sz r) (hns r)⟩, ?_, fun j l r hj hr => ?_⟩ hu hat
  · rw [List.length_append, List.length_append, k1, hlr]
  by_cases hjl : j < ls.length
  · rw [List.getElem?_append_left hjl] at hj
    rw [List.getElem?_append_left (by rw [hlr]; exact hjl)] at hr
    exact tmR.old ho hd (hrr.2.2 j l r hj hr)
  rw [List.getElem?_append_right (by omega)] at hj
  rw [List.getElem?_append_right (by rw [hlr]; omega), hlr] at hr
  exact tmR.old (ho.mono hEd) (fun k hk => hd k (hEd k hk)) (k2 _ l r hj hr).1
end Go.Proofs.YtiampoebdmflgaaGreat
/- A row of things in memory; several are appended to a row of the call's own. Globals, rules, strings, pointers as readings. -/
namespace Go.Proofs.YtiampoebdmflgaaGreat
open Go.RowKit
set_option linter.unusedVariables false
set_option maxRecDepth 100000
set_option maxHeartbeats 4000000
set_option linter.unusedSimpArgs false
section
variable {α : Type} {n : Nat}
def RAt (R : Reading α n) (D : Nat → Prop) (w : World) (l : List α) (A : Option Addr) : Prop := ∀ (j : Nat) x, l[j]? = some x → ∃ a cs, A = some a ∧ D a.block ∧ rowAt w (a.add (j * n)) cs ∧ R.is D w x cs
theorem RAt.old {R : Reading α n} {D D' : Nat → Prop} {w w' : World} {l : List α} {A : Option Addr} (h : RAt R D w l A) (ho : Old D w w') (hD : ∀ k, D k → D' k) : RAt R D' w' l A := fun j x hj => by
 obtain ⟨a, cs, h1, h2, h3, h4⟩ := h j x hj
 exact ⟨a, cs, h1, hD _ h2, h3.old ho (by rw [Addr_add_block]; exact h2), R.old ho hD h4⟩
theorem RAt.nil_ {R : Reading α n} {D : Nat → Prop} {w : World} {A : Option Addr} : RAt R D w [] A := fun j x h => by simp at h
theorem Coll.rat {R : Reading α n} {E D : Nat → Prop} {base : Nat} {e : TypeId} {w : World} {v : Value} {ls : List α} (h : Coll R E base e w v ls) (hD : ∀ x, E x ∨ (base ≤ x ∧ x < w.heap.size) → D x) : ∃ A c, v = .slice A ls.length c ∧ ls.length ≤ c ∧ RAt R D w ls A := by
 obtain ⟨rows, hr, hrr⟩ := h.rows
 obtain ⟨A, c, hv, hcp⟩ := hr.form
 refine ⟨A, c, by rw [hv, ← hrr.1], by rw [← hrr.1]; exact hcp, fun j l hj => ?_⟩
 have hjl : j < rows.length := by have := (List.getElem?_eq_some_iff.1 hj).1; rw [hrr.1]; exact this
 obtain ⟨g, cap, hv2, hrow⟩ := hr.at_ hjl
 have hA : A = some ⟨g, 0, none⟩ := by rw [hv] at hv2; injection hv2
 have hlt := hr.lt (g := g) (by rw [hv2]; rfl)
 exact ⟨⟨g, 0, none⟩, rows[j], hA, hD _ (.inr hlt), hrow, R.old (Old.refl _ _) (fun k hk => hD k hk.1) (hrr.2 j l rows[j] hj (List.getElem?_eq_getElem hjl))⟩
theorem rat_rows {R : Reading α n} {D : Nat → Prop} {w : World} {A : Option Addr} {a : Addr} (hA : A = some a) (ms : List α) (h : RAt R D w ms A) : ∃ rows : List (Array Value), rows.length = ms.length ∧ (∀ (j : Nat) m r, ms[j]? = some m → rows[j]? = some r → R.is D w m r ∧ rowAt w (a.add (j * n)) r) ∧ (∀ r ∈ rows, r.size = n ∧ r.all (·.oneCell') = true) := by
 have key : ∀ k, k ≤ ms.length → ∃ rows : List (Array Value), rows.length = k ∧ (∀ (j : Nat) m r, ms[j]? = some m → rows[j]? = some r → R.is D w m r ∧ rowAt w (a.add (j * n)) r) ∧ (∀ r ∈ rows, r.size = n ∧ r.all (·.oneCell') = true) := by
  intro k
  induction k with
  | zero => exact fun _ => ⟨[], rfl, fun j m r _ h => by simp at h, fun r h => by cases h⟩
  | succ k ih =>
   intro hk
   obtain ⟨rows, h1, h2, h3⟩ := ih (by omega)
   obtain ⟨a', cs, q1, _, q3, q4⟩ := h k ms[k] (List.getElem?_eq_getElem (by omega))
   rw [hA] at q1
   injection q1 with q1
   subst q1
   refine ⟨rows ++ [cs], by simp [h1], fun j m r hm hr => ?_, fun r hr => ?_⟩
   · by_cases hj : j < k
     · rw [List.getElem?_append_left (by omega)] at hr
       exact h2 j m r hm hr
     have hl := (List.getElem?_eq_some_iff.1 hr).1
     simp at hl
     obtain rfl : j = k := by omega
     rw [List.getElem?_append_right (by omega)] at hr
     simp [h1] at hr
     rw [List.getElem?_eq_getElem (by omega)] at hm
     simp at hm
     subst hm hr
     exact ⟨q4, q3⟩
   rcases List.mem_append.1 hr with hr | hr
   · exact h3 r hr
   rw [List.mem_singleton.1 hr]; exact R.cells q4
 exact key ms.length (Nat.le_refl _)
theorem cat_atN {w : World} {a : Addr} : ∀ (rows : List (Array Value)) (i : Nat), (∀ r ∈ rows, r.size = n) → (∀ (j : Nat) r, rows[j]? = some r → rowAt w (a.add ((i + j) * n)) r) → ∀ (j : Nat) u, (cat rows)[j]? = some u → w.cell? (a.add (i * n + j)) = some u
 | [], i, _, _, j, u, h => by simp [cat] at h
 | r :: rows, i, hs, hr, j, u, h => by
  have h8 := hs r (by simp)
  rw [kat_cons] at h
  by_cases hj : j < n
  · rw [List.getElem?_append_left (by rw [Array.length_toList, h8]; exact hj)] at h
    have := hr 0 r rfl j u (by simpa using h)
    rw [Addr_add_add] at this
    simpa using this
  rw [List.getElem?_append_right (by rw [Array.length_toList, h8]; omega), Array.length_toList, h8] at h
  have := cat_atN rows (i + 1) (fun x hx => hs x (by simp [hx])) (fun j' r' hj' => by
   have := hr (j' + 1) r' (by simpa using hj')
   rwa [show i + (j' + 1) = i + 1 + j' by omega] at this) (j - n) u h
  rwa [show (i + 1) * n + (j - n) = i * n + j by rw [Nat.add_mul]; omega] at this
theorem wpList_appendsR {R : Reading α n} {P : Program} {ops : Array Oper} {rest : List Oper} {o : Oper} {a : Act} {w : World} {Q : Exit → Act → World → Prop} (hgd : o.guard = none) (s x : Operand) (t e : TypeId)
    (ho : o.op = .call { callee := .builtin .append, args := #[s, x], argTypes := #[t, t] }) (z : Value) (bytes : Nat) (ht : P.underlying t = some (.slice e)) (hi : (P.info? e).map (fun i => (i.zero, i.size, i.bytes)) = some (some z, n, bytes)) (hzs : z.cells.size = n) (hn0 : 0 < n)
    (E : Nat → Prop) (base : Nat) (v : Value) (ls : List α) (hs : a.eval s = v) (hc : Coll R E base e w v ls) (hE : ∀ k, E k → k < base) (A : Option Addr) (c m : Nat) (ms : List α) (hm : ms.length = m) (hx : a.eval x = .slice A m c) (hms : RAt R E w ms A)
    (hlen : (ls.length + ms.length) * bytes ≤ 140737488351232) (hl63 : ls.length + ms.length ≤ 140737488351232) (hb : base ≤ w.heap.size)
    (h : ∀ v' w', Coll R E base e w' v' (ls ++ ms) → Upd (fun k => v.ownBlock = some k) w w' → (v'.ownBlock = v.ownBlock ∨ v'.ownBlock = some w.heap.size) → wpList P ops Q rest (a.put o.dst v') w') : wpList P ops Q (o :: rest) a w := by
 obtain ⟨i0, hi0, hiz, his, hib⟩ := info_split hi
 subst hm
 cases A with
 | none =>
  obtain rfl : ms = [] := by
   cases ms with
   | nil => rfl
   | cons t ts => obtain ⟨a, _, h, _⟩ := hms 0 t rfl; cases h
  obtain ⟨B, cb, hv, hcb⟩ := hc.form
  subst hv
  refine wpList_plain hgd fun K hK => ?_
  unfold Oper.wp execOp
  have hr := run_append_none (P := P) w t o.type e i0 ht hi0 B ls.length cb c hcb
  simp only [ho, resolve, invoke, builtin, Sem.run_bind, Sem.run_pure, Result.andThen_ok, List.map_toArray, List.map_cons, List.map_nil, hs, hx, List.length_nil, hr]
  exact hK _ _ (h _ _ (by rw [List.append_nil]; exact hc) (Upd.refl _ _) (.inl rfl))
 | some ad =>
  obtain ⟨rows, hrr⟩ := hc.rows
  obtain ⟨nr, k1, k2, k3⟩ := rat_rows rfl ms hms
  have hns : ∀ r ∈ nr, r.size = n := fun r hr => (k3 r hr).1
  have hlr := hrr.2.1
  refine wpList_append_own_at w hgd s x t ho base e i0 z n bytes ht hi0 hiz his hib hzs hn0 v rows.length (cat rows) hs hrr.1.own ad ms.length c (cat nr) hx (by rw [kat_len nr hns, k1]) ?_ ?_ (by rw [hlr]; unfold maxLen; omega) (by rw [hlr]; omega) hb ?_
  · intro j u hj
    have := cat_atN nr 0 hns (fun j r hj => by
     have hjl : j < ms.length := by rw [← k1]; exact (List.getElem?_eq_some_iff.1 hj).1
     rw [Nat.zero_add]
     exact (k2 j _ r (List.getElem?_eq_getElem hjl) hj).2) j u hj
    simpa using this
  · intro u hu
    simp only [cat, List.mem_flatMap] at hu
    obtain ⟨r, hr, hu⟩ := hu
    have h1 := Array.all_eq_true.1 (k3 r hr).2
    obtain ⟨j, hj, e⟩ := Array.getElem_of_mem (Array.mem_toList_iff.1 hu)
    exact e ▸ h1 j hj
  intro v' w' how hgr _ hat
  have hu : Upd (fun k => v.ownBlock = some k) w w' := (Upd.refl _ w).grown hgr fun k hk => .inl hk
  have ho : Old (cd E base w v) w w' := fun k hk => hu.block k (hk.1.elim (fun h1 => Nat.lt_of_lt_of_le (hE k h1) hb) (fun h1 => h1.2)) hk.2
  have hd : ∀ k, cd E base w v k → cd E base w' v' k := fun k hk => by
   refine ⟨hk.1.imp id (fun h => ⟨h.1, Nat.lt_of_lt_of_le h.2 hu.size⟩), ?_⟩
   rcases hat with h1 | h1
   · rw [h1]; exact hk.2
   rw [h1]; intro h2
   have h2 : w.heap.size = k := by simpa using h2
   rcases hk.1 with h3 | h3
   · have := hE k h3; omega
   omega
  have hEd : ∀ k, E k → cd E base w v k := fun k hk => ⟨.inl hk, fun h => by have := hc.lt h; have := hE k hk; omega⟩
  refine h v' w' ⟨rows ++ nr, ⟨by rw [List.length_append, k1, cat_app]; exact how, fun r hr => (List.mem_append.1 hr).elim (hrr.1.sz r) (hns r)⟩, ?_, fun j l r hj hr => ?_⟩ hu hat
  · rw [List.length_append, List.length_append, k1, hlr]
  by_cases hjl : j < ls.length
  · rw [List.getElem?_append_left hjl] at hj
    rw [List.getElem?_append_left (by rw [hlr]; exact hjl)] at hr
    exact R.old ho hd (hrr.2.2 j l r hj hr)
  rw [List.getElem?_append_right (by omega)] at hj
  rw [List.getElem?_append_right (by rw [hlr]; omega), hlr] at hr
  exact R.old (ho.mono hEd) (fun k hk => hd k (hEd k hk)) (k2 _ l r hj hr).1
end
def strR : Reading ByteArray 1 := ⟨fun _ _ s cs => cs = #[.string s], fun _ _ h => h, fun h => by subst h; exact ⟨rfl, by simp [Value.oneCell']⟩⟩
def glR : Reading Glb 26 := ⟨GlIs, fun ho hD h => GlIs.old ho hD h, fun h => h.cells⟩
theorem strs_rat {D : Nat → Prop} {w : World} {l : List ByteArray} {A : Option Addr} : StrsAt D w l A ↔ RAt strR D w l A := by
 constructor
 · intro h j s hj
   obtain ⟨a, h1, h2, h3⟩ := h j s hj
   refine ⟨a, _, h1, h2, ?_, rfl⟩
   intro i x hx
   have : i = 0 := by have := (Array.getElem?_eq_some_iff.1 hx).1; simp at this; omega
   subst this
   simp at hx
   subst hx
   rw [Addr_add_add, Nat.mul_one, Nat.add_zero]; exact h3
 intro h j s hj
 obtain ⟨a, cs, h1, h2, h3, h4⟩ := h j s hj
 have h4 : cs = #[.string s] := h4
 subst h4
 have := h3 0 _ rfl
 rw [Addr_add_add, Nat.mul_one, Nat.add_zero] at this
 exact ⟨a, h1, h2, this⟩
end Go.Proofs.YtiampoebdmflgaaGreat
/- slices.Clone of strings, of pointers. -/
namespace Go.Proofs.YtiampoebdmflgaaGreat
open Go.RowKit
set_option linter.unusedVariables false
set_option maxRecDepth 100000
set_option maxHeartbeats 4000000
set_option linter.unusedSimpArgs false
theorem str_info : (Tryz.prog.info? 9).map (fun i => (i.zero, i.size, i.bytes)) = some (some (.string ByteArray.empty), 1, 16) := by kernel_rfl
theorem gp_info : (Tryz.prog.info? 88).map (fun i => (i.zero, i.size, i.bytes)) = some (some (.pointer none), 1, 8) := by kernel_rfl
def GpIs (D : Nat → Prop) (w : World) (x : Glb × Nat) (cs : Array Value) : Prop := cs = #[.pointer (some ⟨x.2, 0, none⟩)] ∧ D x.2 ∧ ∃ gc, Blk w x.2 50 gc ∧ GlIs D w x.1 gc
theorem GpIs.old {D D' : Nat → Prop} {w w' : World} {x : Glb × Nat} {cs : Array Value} (ho : Old D w w') (hD : ∀ k, D k → D' k) (h : GpIs D w x cs) : GpIs D' w' x cs := by
 obtain ⟨h1, h2, gc, h3, h4⟩ := h
 exact ⟨h1, hD _ h2, gc, (ho _ h2).trans h3, h4.old ho hD⟩
def gpR : Reading (Glb × Nat) 1 := ⟨GpIs, fun ho hD h => GpIs.old ho hD h, fun h => by obtain ⟨rfl, _⟩ := h; exact ⟨rfl, by simp [Value.oneCell']⟩⟩
theorem Coll.empty {α : Type} {n : Nat} {R : Reading α n} {E : Nat → Prop} (w : World) (e : TypeId) (hE : ∀ k, E k → k < w.heap.size) : Coll R E w.heap.size e (w.alloc (.cells #[] e)) (.slice (some ⟨w.heap.size, 0, none⟩) 0 0) [] :=
 ⟨[], ⟨⟨by simp [cat], .inr ⟨w.heap.size, 0, #[], rfl, Nat.le_refl _, heap_alloc_new w _, by simp, by simp, by simp, by simp [cat]⟩⟩, fun _ h => by cases h⟩, RRows.nil_⟩
theorem clone_str (l : List ByteArray) (A : Option Addr) (c : Nat) (D : Nat → Prop) (w : World) (hD : Within D w) (hs : RAt strR D w l A) (hl : l.length * 16 ≤ 140737488351232) :
    Calls Tryz.prog 65 #[.slice A l.length c] w fun e w' => ∃ A' c', e = .returned (.slice A' l.length c') ∧ Coll strR D w.heap.size 9 w' (.slice A' l.length c') l ∧ l.length ≤ c' ∧ Upd nob w w' := by
 have hq : ∀ (w : World) (a : Option Addr) (n c : Nat), (binOp .eql 47 (.slice a n c) (.slice none 0 0)).run Tryz.prog w = .ok (.bool a.isNone) w := fun w a n c => Lib.run_eql_slice_nil w 47 9 a n c 0 0 Tryz.underlying47
 cases A with
 | none =>
  obtain rfl : l = [] := by
   cases l with
   | nil => rfl
   | cons x l => obtain ⟨a, _, h, _⟩ := hs 0 x rfl; cases h
  go_enter Tryz.func65, Tryz.ntmps65
  go_wp2_with fail
  go_ret
  exact ⟨none, 0, rfl, Coll.nil_, Nat.le_refl _, Upd.refl _ _⟩
 | some ad =>
  have hu1 : Upd nob w (w.alloc (.cells #[] 9)) := (Upd.refl nob w).alloc _
  have hE : ∀ k, D k → k < w.heap.size := fun k hk => hD k hk
  have hc1 : Coll strR D w.heap.size 9 (w.alloc (.cells #[] 9)) (.slice (some ⟨w.heap.size, 0, none⟩) 0 0) [] := Coll.empty w 9 hE
  have HC := Lib.hid hc1
  have HS := Lib.hid (hs.old (hD.old hu1) (fun _ h => h))
  obtain ⟨n, hn⟩ : ∃ n, l.length = n := ⟨_, rfl⟩
  have HN := Lib.hid hn
  rw [hn] at hl ⊢
  clear hs hc1 hn
  go_enter Tryz.func65, Tryz.ntmps65
  go_wp2_with (first
   | (at_builtin; refine wpList_appendsR (R := strR) rfl (.tmp 5) (.tmp 6) 47 9 rfl _ 16 Tryz.underlying47 str_info (by kernel_rfl) (by decide) D w.heap.size _ [] rfl HC.out hE (some ad) c n l HN.out rfl HS.out (by have := HN.out; simp only [List.length_nil]; omega) (by have := HN.out; simp only [List.length_nil]; omega) (by simp) ?_
      intro v' w2 hc2 hu2 hat2
      simp only [List.nil_append] at hc2
      obtain ⟨A', c', hv', hle⟩ := hc2.form
      rw [HN.out] at hv'
      subst hv'
      have hr := hc2
      have hfin : Upd nob w w2 := hu1.trans' hu2 (fun q hq h => by have h : some w.heap.size = some q := h; injection h with h; omega)
      have HF := Lib.hid hfin
      have HR := Lib.hid hr
      clear hfin hr hc2 hu2 hat2))
  go_ret
  exact ⟨A', c', rfl, HR.out, by have := HN.out; omega, HF.out⟩
theorem clone_ptr (l : List (Glb × Nat)) (A : Option Addr) (c : Nat) (D : Nat → Prop) (w : World) (hD : Within D w) (hs : RAt gpR D w l A) (hl : l.length * 8 ≤ 140737488351232) :
    Calls Tryz.prog 56 #[.slice A l.length c] w fun e w' => ∃ A' c', e = .returned (.slice A' l.length c') ∧ Coll gpR D w.heap.size 88 w' (.slice A' l.length c') l ∧ l.length ≤ c' ∧ Upd nob w w' := by
 have hq : ∀ (w : World) (a : Option Addr) (n c : Nat), (binOp .eql 116 (.slice a n c) (.slice none 0 0)).run Tryz.prog w = .ok (.bool a.isNone) w := fun w a n c => Lib.run_eql_slice_nil w 116 88 a n c 0 0 Tryz.underlying116
 cases A with
 | none =>
  obtain rfl : l = [] := by
   cases l with
   | nil => rfl
   | cons x l => obtain ⟨a, _, h, _⟩ := hs 0 x rfl; cases h
  go_enter Tryz.func56, Tryz.ntmps56
  go_wp2_with fail
  go_ret
  exact ⟨none, 0, rfl, Coll.nil_, Nat.le_refl _, Upd.refl _ _⟩
 | some ad =>
  have hu1 : Upd nob w (w.alloc (.cells #[] 88)) := (Upd.refl nob w).alloc _
  have hE : ∀ k, D k → k < w.heap.size := fun k hk => hD k hk
  have hc1 : Coll gpR D w.heap.size 88 (w.alloc (.cells #[] 88)) (.slice (some ⟨w.heap.size, 0, none⟩) 0 0) [] := Coll.empty w 88 hE
  have HC := Lib.hid hc1
  have HS := Lib.hid (hs.old (hD.old hu1) (fun _ h => h))
  obtain ⟨n, hn⟩ : ∃ n, l.length = n := ⟨_, rfl⟩
  have HN := Lib.hid hn
  rw [hn] at hl ⊢
  clear hs hc1 hn
  go_enter Tryz.func56, Tryz.ntmps56
  go_wp2_with (first
   | (at_builtin; refine wpList_appendsR (R := gpR) rfl (.tmp 5) (.tmp 6) 116 88 rfl _ 8 Tryz.underlying116 gp_info (by kernel_rfl) (by decide) D w.heap.size _ [] rfl HC.out hE (some ad) c n l HN.out rfl HS.out (by have := HN.out; simp only [List.length_nil]; omega) (by have := HN.out; simp only [List.length_nil]; omega) (by simp) ?_
      intro v' w2 hc2 hu2 hat2
      simp only [List.nil_append] at hc2
      obtain ⟨A', c', hv', hle⟩ := hc2.form
      rw [HN.out] at hv'
      subst hv'
      have hr := hc2
      have hfin : Upd nob w w2 := hu1.trans' hu2 (fun q hq h => by have h : some w.heap.size = some q := h; injection h with h; omega)
      have HF := Lib.hid hfin
      have HR := Lib.hid hr
      clear hfin hr hc2 hu2 hat2))
  go_ret
  exact ⟨A', c', rfl, HR.out, by have := HN.out; omega, HF.out⟩
end Go.Proofs.YtiampoebdmflgaaGreat
/- slices.Concat of three rows of terms. -/
namespace Go.Proofs.YtiampoebdmflgaaGreat
open Go.RowKit
set_option linter.unusedVariables false
set_option maxRecDepth 100000
set_option maxHeartbeats 4000000
set_option linter.unusedSimpArgs false
theorem Coll.of_rows {E : Nat → Prop} {base : Nat} {w : World} {v : Value} (h : Rows w base 28 8 v []) : Coll tmR E base 28 w v [] := ⟨[], h, RRows.nil_⟩
theorem concat_any (l0 l1 l2 : List Tm) (A0 A1 A2 : Option Addr) (c0 c1 c2 b : Nat) (D : Nat → Prop) (w : World) (hD : Within D w) (hb : Blk w b 26 #[.slice A0 l0.length c0, .slice A1 l1.length c1, .slice A2 l2.length c2])
    (h0 : TmsAt D w l0 A0 0) (h1 : TmsAt D w l1 A1 0) (h2 : TmsAt D w l2 A2 0) (hlen : (l0.length + l1.length + l2.length) * 120 ≤ 140737488351232) :
    Calls Tryz.prog 124 #[.slice (some ⟨b, 0, none⟩) 3 3] w fun e w' => ∃ A c, e = .returned (.slice A (l0 ++ l1 ++ l2).length c) ∧ (l0 ++ l1 ++ l2).length ≤ c ∧ TmsAt (grow D w w') w' (l0 ++ l1 ++ l2) A 0 ∧ Upd nob w w' := by
 obtain ⟨n0, hn0⟩ : ∃ n, l0.length = n := ⟨_, rfl⟩
 obtain ⟨n1, hn1⟩ : ∃ n, l1.length = n := ⟨_, rfl⟩
 obtain ⟨n2, hn2⟩ : ∃ n, l2.length = n := ⟨_, rfl⟩
 rw [hn0, hn1, hn2] at hb hlen
 have HN0 := Lib.hid hn0
 have HN1 := Lib.hid hn1
 have HN2 := Lib.hid hn2
 have k0 : w.cell? ⟨b, 0, none⟩ = some (.slice A0 n0 c0) := hb.cell 0
 have k1 : w.cell? ⟨b, 1, none⟩ = some (.slice A1 n1 c1) := hb.cell 1
 have k2 : w.cell? ⟨b, 2, none⟩ = some (.slice A2 n2 c2) := hb.cell 2
 have ltb := hb.lt
 have T0 := Lib.hid h0
 have T1 := Lib.hid h1
 have T2 := Lib.hid h2
 clear hb h0 h1 h2 hn0 hn1 hn2
 go_enter Tryz.func124, Tryz.ntmps124
 go_wp2_with fail
 go_loopg [3, 11] 3 (fun k v3 v11 wr => ∃ j : Nat, j + k = 3 ∧ v11 = .int .i64 j ∧ v3 = .int .i64 (((if j = 0 then 0 else if j = 1 then n0 else if j = 2 then n0 + n1 else n0 + n1 + n2 : Nat)) : Int) ∧ w = wr)
 case atStart => exact ⟨0, by omega, rfl, rfl, rfl⟩
 case round =>
  obtain ⟨j, hj, rfl, rfl, rfl⟩ := hrel
  have hj4 : j = 0 ∨ j = 1 ∨ j = 2 ∨ j = 3 := by omega
  rcases hj4 with rfl | rfl | rfl | rfl
  · simp only [if_true]
    have e1 : wrap64 (((0 : Nat) : Int) + n0) = n0 := by unfold wrap64; omega
    have e2 : ((n0 : Int) < 0) = False := eq_false (by omega)
    go_wp2_with fail
    go_roundg (gk - 1)
    case measure => omega
    case rel => exact ⟨1, by omega, by go_num, by simp, rfl⟩
  · simp only [Nat.one_ne_zero, if_false, if_true]
    have e1 : wrap64 ((n0 : Int) + n1) = ((n0 + n1 : Nat) : Int) := by unfold wrap64; omega
    have e2 : (((n0 + n1 : Nat) : Int) < 0) = False := eq_false (by omega)
    go_wp2_with fail
    go_roundg (gk - 1)
    case measure => omega
    case rel => exact ⟨2, by omega, by go_num, by simp [e1], rfl⟩
  · simp only [show ¬ (2 : Nat) = 0 by omega, show ¬ (2 : Nat) = 1 by omega, if_false, if_true]
    have e1 : wrap64 (((n0 + n1 : Nat) : Int) + n2) = ((n0 + n1 + n2 : Nat) : Int) := by unfold wrap64; omega
    have e2 : (((n0 + n1 + n2 : Nat) : Int) < 0) = False := eq_false (by omega)
    go_wp2_with fail
    go_roundg (gk - 1)
    case measure => omega
    case rel => exact ⟨3, by omega, by go_num, by simp [e1], rfl⟩
  simp only [show ¬ (3 : Nat) = 0 by omega, show ¬ (3 : Nat) = 1 by omega, show ¬ (3 : Nat) = 2 by omega, if_false]
  go_wp2_with fail
  refine (grow_any (n0 + n1 + n2) w (by omega)).mono ?_
  rintro e w2 ⟨v2, rfl, hr2, hu2⟩
  have hc2 : Coll tmR D w.heap.size 28 w2 v2 [] := Coll.of_rows hr2
  have HC2 := Lib.hid hc2
  clear hc2 hr2
  go_wp2_with fail
  go_loopg [6, 27] 3 (fun k v6 v27 wr => ∃ j : Nat, j + k = 3 ∧ v27 = .int .i64 j ∧ Coll tmR D w.heap.size 28 wr v6 (if j = 0 then [] else if j = 1 then l0 else if j = 2 then l0 ++ l1 else l0 ++ l1 ++ l2) ∧ Upd nob w wr)
  case atStart => exact ⟨0, by omega, rfl, HC2.out, hu2⟩
  case round =>
   clear HC2 hu2
   obtain ⟨j, hj, rfl, hc, hu⟩ := hrel
   have q0 : wr.cell? ⟨b, 0, none⟩ = some (.slice A0 n0 c0) := (hu.cell ltb (fun f => f)).trans k0
   have q1 : wr.cell? ⟨b, 1, none⟩ = some (.slice A1 n1 c1) := (hu.cell ltb (fun f => f)).trans k1
   have q2 : wr.cell? ⟨b, 2, none⟩ = some (.slice A2 n2 c2) := (hu.cell ltb (fun f => f)).trans k2
   have ltb2 : b < wr.heap.size := Nat.lt_of_lt_of_le ltb hu.size
   have hbs := hu.size
   have hj4 : j = 0 ∨ j = 1 ∨ j = 2 ∨ j = 3 := by omega
   rcases hj4 with rfl | rfl | rfl | rfl
   · have HC := Lib.hid (show Coll tmR D w.heap.size 28 wr u6 [] from hc)
     clear hc
     go_wp2_with (first
      | (at_builtin; refine wpList_appends rfl (.tmp 31) (.tmp 32) rfl D w.heap.size u6 ([]) rfl HC.out (fun k hk => hD k hk) A0 c0 n0 l0 HN0.out rfl (T0.out.old (hD.old hu) (fun _ h => h)) (by simp only [List.length_nil, List.length_append, HN0.out, HN1.out, HN2.out]; omega) hbs ?_
         intro v9 w9 hc9 hu9 hat9
         have HC9 := Lib.hid hc9
         have HU9 := Lib.hid hu9
         clear hc9 hu9 hat9))
     go_roundg (gk - 1)
     case measure => omega
     case rel => exact ⟨1, by omega, by go_num, by simpa using HC9.out, hu.trans' HU9.out (fun q hq h => by have := (HC.out.lt h).1; omega)⟩
   · have HC := Lib.hid (show Coll tmR D w.heap.size 28 wr u6 l0 from hc)
     clear hc
     go_wp2_with (first
      | (at_builtin; refine wpList_appends rfl (.tmp 31) (.tmp 32) rfl D w.heap.size u6 (l0) rfl HC.out (fun k hk => hD k hk) A1 c1 n1 l1 HN1.out rfl (T1.out.old (hD.old hu) (fun _ h => h)) (by simp only [List.length_nil, List.length_append, HN0.out, HN1.out, HN2.out]; omega) hbs ?_
         intro v9 w9 hc9 hu9 hat9
         have HC9 := Lib.hid hc9
         have HU9 := Lib.hid hu9
         clear hc9 hu9 hat9))
     go_roundg (gk - 1)
     case measure => omega
     case rel => exact ⟨2, by omega, by go_num, by simpa using HC9.out, hu.trans' HU9.out (fun q hq h => by have := (HC.out.lt h).1; omega)⟩
   · have HC := Lib.hid (show Coll tmR D w.heap.size 28 wr u6 (l0 ++ l1) from hc)
     clear hc
     go_wp2_with (first
      | (at_builtin; refine wpList_appends rfl (.tmp 31) (.tmp 32) rfl D w.heap.size u6 (l0 ++ l1) rfl HC.out (fun k hk => hD k hk) A2 c2 n2 l2 HN2.out rfl (T2.out.old (hD.old hu) (fun _ h => h)) (by simp only [List.length_nil, List.length_append, HN0.out, HN1.out, HN2.out]; omega) hbs ?_
         intro v9 w9 hc9 hu9 hat9
         have HC9 := Lib.hid hc9
         have HU9 := Lib.hid hu9
         clear hc9 hu9 hat9))
     go_roundg (gk - 1)
     case measure => omega
     case rel => exact ⟨3, by omega, by go_num, by simpa using HC9.out, hu.trans' HU9.out (fun q hq h => by have := (HC.out.lt h).1; omega)⟩
   have hc' : Coll tmR D w.heap.size 28 wr u6 (l0 ++ l1 ++ l2) := hc
   obtain ⟨A9, c9, hv9, hcap9, hat⟩ := hc'.tms (D := grow D w wr) (fun q hq => hq.elim (fun h => .inl h) (fun h => .inr h))
   have HAT := Lib.hid hat
   have HV := Lib.hid hv9
   clear hat hc hc' hv9
   go_wp2_with fail
   go_ret
   exact ⟨A9, c9, by rw [← HV.out]; rfl, hcap9, HAT.out, hu⟩
end Go.Proofs.YtiampoebdmflgaaGreat
/- A drawn region: two operations of which either may come first. -/
namespace Go.Proofs.YtiampoebdmflgaaGreat
open Go.RowKit
set_option linter.unusedVariables false
section
variable {P : Program} {ops : Array Oper} {Q : Exit → Act → World → Prop} {md : Region.Mode} {S : World → Prop}
theorem wpAnyE_br {z i j : Nat} {oi oj : Oper} {fuel : Nat} {listed : Array Bool} {a : Act} {w : World} (hr : Region.ready md ops listed = [i, j]) (hiz : (i == z) = false) (hjz : (j == z) = false)
    (hoi : ops[i]? = some oi) (hoj : ops[j]? = some oj) (hgi : Region.wanted oi (yielded ops a.tmps) = true) (hgj : Region.wanted oj (yielded ops a.tmps) = true)
    (h1 : ∀ K : Act → World → Prop, (∀ a' w', S w' → wpAnyE P md ops Q S z fuel (listed.setIfInBounds i true) a' w' → K a' w') → oi.wp P a w K Q)
    (h2 : ∀ K : Act → World → Prop, (∀ a' w', S w' → wpAnyE P md ops Q S z fuel (listed.setIfInBounds j true) a' w' → K a' w') → oj.wp P a w K Q) : wpAnyE P md ops Q S z (fuel + 1) listed a w := by
 refine ⟨fun h => (by rw [hr] at h; cases h), fun q hq => ?_⟩
 rw [hr] at hq
 have hi' : i ≠ z := by simpa using hiz
 have hj' : j ≠ z := by simpa using hjz
 rcases List.mem_cons.1 hq with rfl | hq
 · unfold wpOp
   rw [hoi]
   simp only [hgi, if_true]
   exact .inl (h1 _ fun a' w' h1 h2 => ⟨fun _ => ⟨h1, h2⟩, fun h => absurd h hi'⟩)
 obtain rfl : q = j := by simpa using hq
 unfold wpOp
 rw [hoj]
 simp only [hgj, if_true]
 exact .inl (h2 _ fun a' w' h1 h2 => ⟨fun _ => ⟨h1, h2⟩, fun h => absurd h hj'⟩)
end
end Go.Proofs.YtiampoebdmflgaaGreat
/- whnf: its model; what its parts promise. -/
namespace Go.Proofs.YtiampoebdmflgaaGreat
open Go.RowKit
set_option linter.unusedVariables false
set_option maxRecDepth 100000
set_option maxHeartbeats 1000000
abbrev Nx := Option (Tm × Bool)
abbrev WRes := Tm × Int × Nat
def wpick (G : List Glb) (g : Glb) (h : Tm) (args : List Tm) (j : Nat) (hd : Tm) (fs : List Tm) : Nx :=
 if hd.k ≠ 7 then none else match gfind G hd.nm with
  | none => none
  | some c => if c.kind ≠ 4 ∨ (c.ind.toList == g.ind.toList) = false ∨ rfind hd.nm g.rules 0 < 0 then none else match g.rules[(rfind hd.nm g.rules 0).toNat]? with
   | none => none
   | some r => if r.fields < 0 ∨ wrap64 ((fs.length : Int) - g.params) ≠ r.fields then none
    else some (wlevels r.body h.ls (args.take (g.params + 1 + g.minors).toNat ++ fs.drop g.params.toNat ++ args.drop (j + 1)))
def wiota (G : List Glb) (rec : Nat → Tm → Option WRes) (fuel : Nat) (g : Glb) (h : Tm) (args : List Tm) : Option (Nat × Nx × Int) :=
 if wmajor g.params g.minors g.indices args.length < 0 then some (fuel, none, 0) else
 match args[(wmajor g.params g.minors g.indices args.length).toNat]? with
 | none => none
 | some a => match rec fuel a with
  | none => none
  | some r => if r.2.1 ≠ 0 then some (r.2.2, none, r.2.1) else some (r.2.2, wpick G g h args (wmajor g.params g.minors g.indices args.length).toNat (tspine r.1).1 (tspine r.1).2, 0)
def wstep (G : List Glb) (rec : Nat → Tm → Option WRes) (fuel : Nat) (t : Tm) : Option (Nat × Nx × Int) :=
 let h := (tspine t).1
 let args := (tspine t).2
 if h.k = 4 ∧ h.ks.length = 2 ∧ 0 < args.length then (match h.ks, args with | [_, b], v :: vs => some (fuel, some (winst b v vs), 0) | _, _ => none)
 else if h.k = 5 ∧ h.ks.length = 3 then (match h.ks with | [_, v, b] => some (fuel, some (winst b v args), 0) | _ => none)
 else if h.k ≠ 7 then some (fuel, none, 0)
 else match gfind G h.nm with
  | none => some (fuel, none, 0)
  | some g => if (h.ls.length : Int) ≠ g.vars then some (fuel, none, 0)
   else if g.kind = 2 then some (fuel, some (wlevels g.val h.ls args), 0)
   else if g.kind = 5 then wiota G rec fuel g h args
   else some (fuel, none, 0)
def wloop (G : List Glb) : Nat → Nat → Tm → Option WRes
 | 0, _, _ => none
 | n + 1, fuel, t => match wstep G (fun f x => if wfits x = true then wloop G n f x else some (tmz, 6, f)) fuel t with
  | none => none
  | some (f1, nx, e) => if e ≠ 0 then some (tmz, e, f1) else match nx with
   | none => some (wown t, 0, f1)
   | some (t', ok) => if f1 = 0 then some (tmz, 5, 0) else if ok = true then wloop G n (f1 - 1) t' else some (tmz, 6, f1 - 1)
def wwhnf (G : List Glb) (n fuel : Nat) (t : Tm) : Option WRes := if wfits t = true then wloop G n fuel t else some (tmz, 6, fuel)
def NextIs (D : Nat → Prop) (w : World) (fv : Value) (nx : Nx) : Prop :=
 (nx = none ∧ fv = .nilFunc) ∨ ∃ (t : Tm) (ok : Bool) (id : FuncId) (caps : Array Value), nx = some (t, ok) ∧ fv = .func (.func id) #[] caps ∧ (∀ args w, (callFunc id args).run Tryz.prog w = .ok (.enter id args) w) ∧
  ∀ W, Old D w W → Within D W → Calls Tryz.prog id caps W fun e W' => ∃ cs, e = .returned (.tuple #[.agg cs, .bool ok]) ∧ TmIs (grow D W W') W' t cs ∧ Below W.heap.size W W'
theorem NextIs.old {D D' : Nat → Prop} {w w' : World} {fv : Value} {nx : Nx} (h : NextIs D w fv nx) (ho : Old D w w') (hD : ∀ k, D k → D' k) : NextIs D' w' fv nx := by
 rcases h with h | ⟨t, ok, id, caps, h1, h2, h3, h4⟩
 · exact .inl h
 refine .inr ⟨t, ok, id, caps, h1, h2, h3, fun W hW hin => (h4 W (ho.trans (hW.mono hD)) (fun q hq => hin q (hD q hq))).mono ?_⟩
 rintro e W' ⟨cs, q1, q2, q3⟩
 exact ⟨cs, q1, q2.old (Old.refl _ _) (fun q hq => hq.imp (hD q) (fun h => h)), q3⟩
def MacIs (w : World) (mb : Nat) (ev : Value) (fuel : Nat) : Prop := Blk w mb 81 #[ev, .int .i64 fuel]
def WhnfC (G : List Glb) (ev : Value) (mb fuel : Nat) (x : Tm) : Prop :=
 ∀ (D : Nat → Prop) (w : World) (cs : Array Value), Within D w → ¬ D mb → EnvV D w ev G → TmIs D w x cs → MacIs w mb ev fuel →
  Calls Tryz.prog 36 #[.pointer (some ⟨mb, 0, none⟩), .agg cs] w fun e w' => ∃ (n : Nat) (u : Tm) (err : Int) (left : Nat) (cs' : Array Value), wwhnf G n fuel x = some (u, err, left) ∧
   e = .returned (.tuple #[.agg cs', .int .i64 err]) ∧ TmIs (grow D w w') w' u cs' ∧ MacIs w' mb ev left ∧ Upd (fun q => q = mb) w w' ∧ left ≤ fuel
theorem wmajor_lt {p m i n : Int} (h : ¬ wmajor p m i n < 0) : 0 ≤ p ∧ 0 ≤ m ∧ 0 ≤ i ∧ wmajor p m i n = p + 1 + m + i ∧ p + 1 + m + i + 1 ≤ n := by
 unfold wmajor at h ⊢
 by_cases h1 : p < 0 ∨ n - 2 < p
 · rw [if_pos h1] at h; omega
 by_cases h2 : m < 0 ∨ n - 2 - p < m
 · rw [if_neg h1, if_pos h2] at h; omega
 by_cases h3 : i < 0 ∨ n - 2 - p - m < i
 · rw [if_neg h1, if_neg h2, if_pos h3] at h; omega
 rw [if_neg h1, if_neg h2, if_neg h3]; omega
theorem spineF_len : ∀ (n : Nat) (t : Tm) (acc : List Tm), (spineF n t acc).2.length ≤ acc.length + n
 | 0, _, _ => Nat.le_refl _
 | n + 1, t, acc => by
  rw [spineF]
  split
  · split
    · rename_i f a _ _
      have := spineF_len n f (acc ++ [town a])
      simp only [List.length_append, List.length_cons, List.length_nil] at this
      omega
    show acc.length ≤ _; omega
  show acc.length ≤ _; omega
theorem tspine_len (t : Tm) : (tspine t).2.length ≤ 2000 := by
 unfold tspine
 cases hg : tgreat t with
 | true => simp
 | false =>
  have h1 := great_vh hg
  have h2 := spineF_len t.vh t []
  simp only [List.length_nil] at h2
  rw [if_neg (by decide)]
  simp only [List.length_reverse]
  omega
theorem rfind_spec (nm : ByteArray) : ∀ (l : List Rul) (i : Int), rfind nm l i = -1 ∨ ∃ j : Nat, rfind nm l i = i + j ∧ j < l.length
 | [], i => .inl rfl
 | r :: l, i => by
  rw [rfind]
  split
  · exact .inr ⟨0, by omega, by simp⟩
  rcases rfind_spec nm l (i + 1) with h | ⟨j, h1, h2⟩
  · exact .inl h
  exact .inr ⟨j + 1, by rw [h1]; omega, by simpa using h2⟩
end Go.Proofs.YtiampoebdmflgaaGreat
