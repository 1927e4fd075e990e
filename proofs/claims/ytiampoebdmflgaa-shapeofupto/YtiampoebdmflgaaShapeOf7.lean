/- Texts put one behind the other: Zends, Zment, Ctor. -/
import Derived.Test.YtiampoebdmflgaaShapeOf6
import Derived.Test.YtiampoebdmflgaaShapeOf5

/- The reference's ends. -/
namespace Go.Proofs.Ytiampoebdmflgaa
open Go.RowKit
set_option linter.unusedVariables false
set_option maxRecDepth 100000
set_option maxHeartbeats 4000000
set_option linter.unusedSimpArgs false
theorem rbinds_any (k : Int) (i : Nat) (w : World) : Calls Try.prog 69 #[.int .i64 k, .int .i64 i] w fun e w' => e = .returned (.int .i64 (bnd k i)) ∧ w' = w := by
 obtain ⟨q, hq⟩ : ∃ q, tar k = q := ⟨_, rfl⟩
 have hqb := tar_le k
 rw [hq] at hqb
 obtain ⟨X, hX⟩ : ∃ X, bnd k i = X := ⟨_, rfl⟩
 rw [hX]
 unfold bnd at hX
 rw [hq] at hX
 have HX := Lib.hid hX; clear hX
 have hTA : ∀ wx : World, Calls Try.prog 68 #[.int .i64 k] wx fun e w' => e = .returned (.int .i64 q) ∧ w' = wx := fun wx => hq ▸ rkids_any k wx
 have TA := Lib.hid hTA; clear hTA hq
 have hw : IntKind.i64.wrap (q - 1) = q - 1 := IntWalk.i64_in _ (by omega)
 by_cases h6 : k = 6
 · subst h6
   have e : (0 : Int) = X := by rw [← HX.out, if_neg (by simp)]
   subst e
   clear HX
   go_enter Try.func69, Try.ntmps69
   go_wp2_with fail
   go_ret
   exact ⟨rfl, rfl⟩
 · have t6 : (k != 6) = true := by simpa using h6
   by_cases hi : (i : Int) = q - 1
   · have e : (1 : Int) = X := by rw [← HX.out, if_pos ⟨hi, h6⟩]
     subst e
     have t7 : ((i : Int) == q - 1) = true := by simpa using hi
     clear HX h6 hi
     go_enter Try.func69, Try.ntmps69
     go_wp2_with fail
     refine (TA.out _).mono ?_
     rintro e w2 ⟨rfl, rfl⟩
     go_wp2_with fail
     go_ret
     exact ⟨rfl, rfl⟩
   · have e : (0 : Int) = X := by rw [← HX.out, if_neg (fun h => hi h.1)]
     subst e
     have t7 : ((i : Int) == q - 1) = false := by simpa using hi
     clear HX h6 hi
     go_enter Try.func69, Try.ntmps69
     go_wp2_with fail
     refine (TA.out _).mono ?_
     rintro e w2 ⟨rfl, rfl⟩
     go_wp2_with fail
     go_ret
     exact ⟨rfl, rfl⟩
mutual
/-- assizeref7.ends: all nodes without kids that count, and how many binders are around them. -/
def rends : Tm → Int → List (Tm × Int)
 | .mk k n nm lv ls ks, d => if (rlf k ks.length || (tar k == 0)) = true then [(.mk k n nm lv ls ks, d)] else rendss k (tar k).toNat 0 ks d
def rendss (k : Int) : Nat → Nat → List Tm → Int → List (Tm × Int)
 | 0, _, _, _ => []
 | _ + 1, _, [], _ => []
 | m + 1, i, t :: l, d => rends t (d + bnd k i) ++ rendss k m (i + 1) l d
end
mutual
theorem rends_len : ∀ (t : Tm) (d : Int), (rends t d).length ≤ rsz t
 | .mk k _ _ _ _ ks, d => by
  rw [rends, rsz]
  by_cases h1 : rlf k ks.length = true
  · rw [if_pos (by rw [h1]; rfl), if_pos h1]; simp
  · rw [if_neg h1]
    split
    · simp only [List.length_singleton]; omega
    · have := rendss_len k (tar k).toNat 0 ks d; omega
theorem rendss_len : ∀ (k : Int) (m i : Nat) (l : List Tm) (d : Int), (rendss k m i l d).length ≤ rszs m l
 | _, 0, _, _, _ => by simp [rendss]
 | _, _ + 1, _, [], _ => by simp [rendss]
 | k, m + 1, i, t :: l, d => by
  rw [rendss, rszs, List.length_append]
  have h1 := rends_len t (d + bnd k i)
  have h2 := rendss_len k m (i + 1) l d
  omega
end
theorem bnd_le' (k : Int) (i : Nat) : 0 ≤ bnd k i ∧ bnd k i ≤ 1 := by unfold bnd; split <;> omega
/-- A node without kids, and a number. -/
def EnIs (D : Nat → Prop) (w : World) (x : Tm × Int) (cs : Array Value) : Prop := ∃ ct : Array Value, cs = ct ++ #[Value.int .i64 x.2] ∧ TmIs D w x.1 ct
theorem EnIs.old {D D' : Nat → Prop} {w w' : World} {x : Tm × Int} {cs : Array Value} (h : EnIs D w x cs) (ho : Old D w w') (hD : ∀ k, D k → D' k) : EnIs D' w' x cs := by
 obtain ⟨ct, h1, h2⟩ := h
 exact ⟨ct, h1, h2.old ho hD⟩
theorem EnIs.cells {D : Nat → Prop} {w : World} {x : Tm × Int} {cs : Array Value} (h : EnIs D w x cs) : cs.size = 9 ∧ cs.all (·.oneCell') = true := by
 obtain ⟨ct, rfl, h2⟩ := h
 have := h2.oneCell
 refine ⟨by simp [this.1], ?_⟩
 rw [Array.all_append, this.2]
 simp [Value.oneCell']
def enR : Reading (Tm × Int) 9 := ⟨EnIs, fun ho hD h => h.old ho hD, fun h => h.cells⟩
theorem en_size : (Try.prog.info? 101).map (·.size) = some 9 := by kernel_rfl
theorem en_zero (w : World) : (zeroValue 101).run Try.prog w = .ok (.agg #[.int .i64 0, .int .i64 0, .string ByteArray.empty, .int .i64 0, .int .i64 0, .slice none 0 0, .slice none 0 0, .slice none 0 0, .int .i64 0]) w := by kernel_rfl
theorem en_info : (Try.prog.info? 101).map (fun i => (i.zero, i.size, i.bytes)) = some (some (.agg #[.int .i64 0, .int .i64 0, .string ByteArray.empty, .int .i64 0, .int .i64 0, .slice none 0 0, .slice none 0 0, .slice none 0 0, .int .i64 0]), 9, 128) := by kernel_rfl
theorem rends_any (t : Tm) : ∀ (cs : Array Value) (D : Nat → Prop) (d : Int) (base : Nat) (v : Value) (acc : List (Tm × Int)) (w : World), TmIs D w t cs → (∀ q, D q → q < base) → base ≤ w.heap.size → Coll enR D base 101 w v acc →
    0 ≤ d → d + t.height ≤ 4611686018427387904 → acc.length + rsz t ≤ 1000000000 →
    Calls Try.prog 45 #[.agg cs, .int .i64 d, v] w fun e w' =>
     ∃ v', e = .returned v' ∧ Coll enR D base 101 w' v' (acc ++ rends t d) ∧ Upd (fun q => v.ownBlock = some q) w w' ∧ ∀ q, v'.ownBlock = some q → v.ownBlock = some q ∨ w.heap.size ≤ q := by
 induction t using Tm.ind with
 | h k n nm lv ls ks ih =>
  intro cs D d base v acc w hl hDb hbase hco hd0 hdh hsz
  have hz := tm_zero
  have hz2 := en_zero
  have hl0 := hl
  obtain ⟨x, y, z, A, c, A', c', rfl, _, _, _, _, _, _, hks1, hks⟩ := hl.lit
  simp only [Tm.k, Tm.n, Tm.nm, Tm.lv, Tm.ls, Tm.ks] at hks1 hks hl0 ⊢
  have hD : Within D w := fun q hq => Nat.lt_of_lt_of_le (hDb q hq) hbase
  simp only [Tm.height] at hdh
  obtain ⟨X, hX⟩ : ∃ X, rends (.mk k n nm lv ls ks) d = X := ⟨_, rfl⟩
  have hXl := rends_len (.mk k n nm lv ls ks) d
  rw [hX] at hXl ⊢
  rw [rends] at hX
  rw [rsz] at hsz
  have HX := Lib.hid hX; clear hX hl
  obtain ⟨W1, hW1⟩ : ∃ W1, w.alloc (.cells #[.int .i64 k, .int .i64 n, .string nm, x, y, z, .slice A ls.length c, .slice A' ks.length c'] 27) = W1 := ⟨_, rfl⟩
  have huW1 : Upd nob w W1 := by rw [← hW1]; exact (Upd.refl nob w).alloc _
  have hsW1 : W1.heap.size = w.heap.size + 1 := by rw [← hW1]; simp
  have bk0 : Blk W1 (w.heap.size) 27 #[.int .i64 k, .int .i64 n, .string nm, x, y, z, .slice A ls.length c, .slice A' ks.length c'] := by
   rw [← hW1]
   have h := Blk.new (w) 27 #[.int .i64 k, .int .i64 n, .string nm, x, y, z, .slice A ls.length c, .slice A' ks.length c']
   exact h
  have hl1 := hl0.old (hD.old huW1) (fun _ h => h)
  have hks1b := hks.old (hD.old huW1) (fun _ h => h)
  have hD1 := hD.up huW1
  have hco1 := hco.upd huW1 (fun _ f => f.elim) hD
  obtain ⟨sA, sc, hsv, hscp⟩ := hco.form
  subst hsv
  have r1 := bk0.rowAt
  have k0 : W1.cell? ⟨w.heap.size, 0, none⟩ = some (.int .i64 k) := bk0.cell 0
  have k7 : W1.cell? ⟨w.heap.size, 7, none⟩ = some (.slice A' ks.length c') := bk0.cell 7
  have hlt1 := bk0.lt
  have HL1 := Lib.hid hl1
  have HCO1 := Lib.hid hco1
  have HK1 := Lib.hid hks1b
  have HBK := Lib.hid bk0
  have hnO : ∀ q, (Value.slice sA acc.length sc).ownBlock = some q → base ≤ q ∧ q < w.heap.size := fun q h => hco.lt h
  have HW1 := Lib.hid hW1
  rw [← hW1] at r1
  clear hW1 bk0 hl1 hco1 hks1b hks hl0 hco
  go_enter Try.func45, Try.ntmps45
  go_wp2_with (first
          | ((with_reducible refine this_op (.load 27 (.tmp 3)) ?_); refine wpList_at rfl 27 (.tmp 3) rfl ⟨w.heap.size, 0, none⟩ rfl _ _ r1 Try.underlying27 rfl tm_size ?_))
  rw [HW1.out]
  clear r1 HW1
  refine (rleaf_any _ _ D W1 HL1.out).mono ?_
  rintro e w3 ⟨rfl, hb3⟩
  have hu3 : Upd nob W1 w3 := Upd.of_below hb3
  have hw3s := hu3.size
  obtain ⟨lf, hlf⟩ : ∃ q, (Tm.mk k n nm lv ls ks).rleaf = q := ⟨_, rfl⟩
  have hlf2 : rlf k ks.length = lf := hlf
  have hx := HX.out
  rw [hlf]
  rw [hlf2] at hx hsz
  have r3 : rowAt w3 ⟨w.heap.size, 0, none⟩ #[.int .i64 k, .int .i64 n, .string nm, x, y, z, .slice A ls.length c, .slice A' ks.length c'] := (HBK.out.upd hu3 (fun f => f)).rowAt
  have j0 : w3.cell? ⟨w.heap.size, 0, none⟩ = some (.int .i64 k) := (hu3.cell hlt1 (fun f => f)).trans k0
  have j7 : w3.cell? ⟨w.heap.size, 7, none⟩ = some (.slice A' ks.length c') := (hu3.cell hlt1 (fun f => f)).trans k7
  have hlt3 : w.heap.size < w3.heap.size := by omega
  have hD3 := hD1.up hu3
  have hl3 := HL1.out.old (hD1.old hu3) (fun _ h => h)
  have hk3 := HK1.out.old (hD1.old hu3) (fun _ h => h)
  have hco3 := HCO1.out.upd hu3 (fun _ f => f.elim) hD1
  have hu03 := huW1.trans hu3
  have HL3 := Lib.hid hl3
  have HK3 := Lib.hid hk3
  have HCO3 := Lib.hid hco3
  have HX2 := Lib.hid hx
  clear hlf hl3 hk3 hco3 hx HX HL1 HK1 HCO1 k0 k7
  have appd : ∀ (X : List (Tm × Int)), X = [(.mk k n nm lv ls ks, d)] → True := fun _ _ => trivial
  cases lf with
  | true =>
   have hx := HX2.out
   rw [if_pos (by rfl)] at hx
   subst hx
   clear HX2 hlf2
   go_wp2_with (first
             | ((with_reducible refine this_op (.load 27 (.tmp 3)) ?_); refine wpList_at rfl 27 (.tmp 3) rfl ⟨w.heap.size, 0, none⟩ rfl _ _ r3 Try.underlying27 rfl tm_size ?_)
             | ((with_reducible refine this_op (.buildSlice 98 1 #[(0, .tmp 20)]) ?_); refine wpList_build1 rfl 98 101 (.tmp 20) rfl _ 9 128 Try.underlying98 en_info (by decide) (by decide) #[.int .i64 k, .int .i64 n, .string nm, x, y, z, .slice A ls.length c, .slice A' ks.length c', .int .i64 d] rfl rfl ?_
                obtain ⟨W4, hW4⟩ : ∃ W4, w3.alloc (.cells #[.int .i64 k, .int .i64 n, .string nm, x, y, z, .slice A ls.length c, .slice A' ks.length c', .int .i64 d] 101) = W4 := ⟨_, rfl⟩
                have hu4 : Upd nob w3 W4 := by rw [← hW4]; exact (Upd.refl nob w3).alloc _
                have hb4 : Blk W4 w3.heap.size 101 #[.int .i64 k, .int .i64 n, .string nm, x, y, z, .slice A ls.length c, .slice A' ks.length c', .int .i64 d] := by rw [← hW4]; exact Blk.new _ _ _
                have hco4 := HCO3.out.upd hu4 (fun _ f => f.elim) hD3
                have hen : EnIs D W4 (.mk k n nm lv ls ks, d) #[.int .i64 k, .int .i64 n, .string nm, x, y, z, .slice A ls.length c, .slice A' ks.length c', .int .i64 d] := ⟨#[.int .i64 k, .int .i64 n, .string nm, x, y, z, .slice A ls.length c, .slice A' ks.length c'], rfl, HL3.out.old (hD3.old hu4) (fun _ h => h)⟩
                have HCO4 := Lib.hid hco4
                have HEN := Lib.hid hen
                have hw4s := hu4.size
                rw [hW4]
                clear hW4 hco4 hen)
             | (at_builtin; refine wpList_collect rfl (.tmp 17) (.tmp 21) 98 rfl _ 128 Try.underlying98 en_info (by kernel_rfl) (by decide) rfl HCO4.out hDb w3.heap.size #[.int .i64 k, .int .i64 n, .string nm, x, y, z, .slice A ls.length c, .slice A' ks.length c', .int .i64 d] rfl hb4 (.mk k n nm lv ls ks, d) D HEN.out (fun q hq => ⟨.inl hq, fun h => by have := (hnO q h).1; have := hDb q hq; omega⟩) acc.length rfl (by omega) (by omega) (by omega) ?_
                intro sA6 sc6 w6 hc6 hu6 hat6
                have HU6 : Hid (Upd (fun q => (Value.slice sA acc.length sc).ownBlock = some q) w w6) := Lib.hid (((hu03.trans hu4).mono (fun _ f => f.elim)).trans hu6)
                have HC6 : Hid (Coll enR D base 101 w6 (.slice sA6 (acc.length + 1) sc6) (acc ++ [(.mk k n nm lv ls ks, d)])) := Lib.hid hc6
                have HO6 : Hid (∀ q, (Value.slice sA6 (acc.length + 1) sc6).ownBlock = some q → (Value.slice sA acc.length sc).ownBlock = some q ∨ w.heap.size ≤ q) := Lib.hid fun q hq => by
                 rcases hat6 with h | h
                 · exact .inl (h ▸ hq)
                 · rw [h] at hq; injection hq with hq; exact .inr (by omega)
                clear hc6 hu6))
   go_ret
   exact ⟨_, rfl, HC6.out, HU6.out, HO6.out⟩
  | false =>
   have hq : 0 ≤ tar k ∧ tar k ≤ ks.length := by
    unfold rlf at hlf2
    simp at hlf2
    exact hlf2
   obtain ⟨q, hqn⟩ : ∃ q : Nat, tar k = q := ⟨(tar k).toNat, by omega⟩
   have hqn2 : (tar k).toNat = q := by omega
   have HQ := Lib.hid hqn
   by_cases hq0 : q = 0
   · have hx := HX2.out
     rw [if_pos (by rw [hqn, hq0]; rfl)] at hx
     subst hx
     subst hq0
     rw [hqn2] at hsz
     simp only [rszs] at hsz
     clear HX2 hlf2 hq hqn hqn2
     go_wp2_with fail
     refine (rkids_any k w3).mono ?_
     rintro e w4 ⟨rfl, hw4⟩
     obtain rfl : w3 = w4 := hw4.symm
     rw [HQ.out]
     go_wp2_with (first
                 | ((with_reducible refine this_op (.load 27 (.tmp 3)) ?_); refine wpList_at rfl 27 (.tmp 3) rfl ⟨w.heap.size, 0, none⟩ rfl _ _ r3 Try.underlying27 rfl tm_size ?_)
                 | ((with_reducible refine this_op (.buildSlice 98 1 #[(0, .tmp 20)]) ?_); refine wpList_build1 rfl 98 101 (.tmp 20) rfl _ 9 128 Try.underlying98 en_info (by decide) (by decide) #[.int .i64 k, .int .i64 n, .string nm, x, y, z, .slice A ls.length c, .slice A' ks.length c', .int .i64 d] rfl rfl ?_
                    obtain ⟨W4, hW4⟩ : ∃ W4, w3.alloc (.cells #[.int .i64 k, .int .i64 n, .string nm, x, y, z, .slice A ls.length c, .slice A' ks.length c', .int .i64 d] 101) = W4 := ⟨_, rfl⟩
                    have hu4 : Upd nob w3 W4 := by rw [← hW4]; exact (Upd.refl nob w3).alloc _
                    have hb4 : Blk W4 w3.heap.size 101 #[.int .i64 k, .int .i64 n, .string nm, x, y, z, .slice A ls.length c, .slice A' ks.length c', .int .i64 d] := by rw [← hW4]; exact Blk.new _ _ _
                    have hco4 := HCO3.out.upd hu4 (fun _ f => f.elim) hD3
                    have hen : EnIs D W4 (.mk k n nm lv ls ks, d) #[.int .i64 k, .int .i64 n, .string nm, x, y, z, .slice A ls.length c, .slice A' ks.length c', .int .i64 d] := ⟨#[.int .i64 k, .int .i64 n, .string nm, x, y, z, .slice A ls.length c, .slice A' ks.length c'], rfl, HL3.out.old (hD3.old hu4) (fun _ h => h)⟩
                    have HCO4 := Lib.hid hco4
                    have HEN := Lib.hid hen
                    have hw4s := hu4.size
                    rw [hW4]
                    clear hW4 hco4 hen)
                 | (at_builtin; refine wpList_collect rfl (.tmp 17) (.tmp 21) 98 rfl _ 128 Try.underlying98 en_info (by kernel_rfl) (by decide) rfl HCO4.out hDb w3.heap.size #[.int .i64 k, .int .i64 n, .string nm, x, y, z, .slice A ls.length c, .slice A' ks.length c', .int .i64 d] rfl hb4 (.mk k n nm lv ls ks, d) D HEN.out (fun q hq => ⟨.inl hq, fun h => by have := (hnO q h).1; have := hDb q hq; omega⟩) acc.length rfl (by omega) (by omega) (by omega) ?_
                    intro sA6 sc6 w6 hc6 hu6 hat6
                    have HU6 : Hid (Upd (fun q => (Value.slice sA acc.length sc).ownBlock = some q) w w6) := Lib.hid (((hu03.trans hu4).mono (fun _ f => f.elim)).trans hu6)
                    have HC6 : Hid (Coll enR D base 101 w6 (.slice sA6 (acc.length + 1) sc6) (acc ++ [(.mk k n nm lv ls ks, d)])) := Lib.hid hc6
                    have HO6 : Hid (∀ q, (Value.slice sA6 (acc.length + 1) sc6).ownBlock = some q → (Value.slice sA acc.length sc).ownBlock = some q ∨ w.heap.size ≤ q) := Lib.hid fun q hq => by
                     rcases hat6 with h | h
                     · exact .inl (h ▸ hq)
                     · rw [h] at hq; injection hq with hq; exact .inr (by omega)
                    clear hc6 hu6))
     go_ret
     exact ⟨_, rfl, HC6.out, HU6.out, HO6.out⟩
   · have hq1 : ((q : Int) == 0) = false := by simp; omega
     have hx := HX2.out
     rw [if_neg (by rw [hqn]; simp; omega), hqn2] at hx
     rw [if_neg (by decide), hqn2] at hsz
     have HX4 := Lib.hid hx
     have hqk : q ≤ ks.length := by omega
     have hqc : q ≤ c' := by omega
     clear hx HX2 hlf2 hqn hqn2 hq
     go_wp2_with fail
     refine (rkids_any k w3).mono ?_
     rintro e w4 ⟨rfl, hw4⟩
     obtain rfl : w3 = w4 := hw4.symm
     rw [HQ.out]
     go_wp2_with fail
     refine wp_region_P (by kernel_rfl) ?_
     refine wpAny_of_held (S := fun X : World => ∀ p : Addr, p.block < w3.heap.size → X.cell? p = w3.cell? p) _ _ _ _ ?_
     have hS : ∀ p : Addr, p.block < w3.heap.size → w3.drew.cell? p = w3.cell? p := fun _ _ => rfl
     refine wpAnyH_take (i := 0) (v := ?_) rfl (by kernel_rfl) (by kernel_rfl) (by kernel_rfl) (fun _ _ _ h => h) (Or.inl ⟨by rfl, ?_⟩) hS ?_
     rotate_left
     · intro wx hx
       clear hx
       go_simp
       with_reducible rfl
     try simp only [tl]
     refine wpAnyH_take (i := 1) (v := ?_) rfl (by kernel_rfl) (by kernel_rfl) (by kernel_rfl) (fun _ _ _ h => h) (Or.inl ⟨by rfl, ?_⟩) hS ?_
     rotate_left
     · intro wx hx
       have q0 := (hx ⟨w.heap.size, 7, none⟩ hlt3).trans j7
       clear hx
       go_simp
       with_reducible rfl
     try simp only [tl]
     refine wpAnyH_take (i := 2) (v := ?_) rfl (by kernel_rfl) (by kernel_rfl) (by kernel_rfl) (fun _ _ _ h => h) (Or.inl ⟨by rfl, ?_⟩) hS ?_
     rotate_left
     · intro wx hx
       clear hx
       go_simp
       with_reducible rfl
     try simp only [tl]
     refine wpAnyH_take (i := 3) (v := ?_) rfl (by kernel_rfl) (by kernel_rfl) (by kernel_rfl) (fun _ _ _ h => h) (Or.inl ⟨by rfl, ?_⟩) hS ?_
     rotate_left
     · intro wx hx
       have q0 := (hx ⟨w.heap.size, 0, none⟩ hlt3).trans j0
       clear hx
       go_simp
       with_reducible rfl
     try simp only [tl]
     refine wpAnyH_take (i := 7) (v := ?_) rfl (by kernel_rfl) (by kernel_rfl) (by kernel_rfl) (fun _ _ _ h => h) (Or.inl ⟨by rfl, ?_⟩) hS ?_
     rotate_left
     · intro wx hx
       clear hx
       go_simp
       with_reducible rfl
     try simp only [tl]
     refine wpAnyH_alone (i := 4) (by kernel_rfl) rfl (by rfl) fun K hK => ?_
     go_simp
     refine (rkids_any k w3.drew).mono ?_
     rintro e w4 ⟨rfl, rfl⟩
     rw [HQ.out]
     refine hK _ _ (fun _ _ => rfl) ?_
     clear hK K
     try simp only [tl]
     refine wpAnyH_take (i := 5) (v := (.slice A' q c')) rfl (by kernel_rfl) (by kernel_rfl) (by kernel_rfl) (fun _ _ _ h => h) (Or.inl ⟨by rfl, ?_⟩) hS ?_
     · intro wx hx
       exact run_slice_h8 25 (.tmp 24) (.tmp 27) rfl A' ks.length c' rfl q rfl hqc und_tms 8 sz_tms
     try simp only [tl]
     refine wpAnyH_take (i := 6) (v := ?_) rfl (by kernel_rfl) (by kernel_rfl) (by kernel_rfl) (fun _ _ _ h => h) (Or.inl ⟨by rfl, ?_⟩) hS ?_
     rotate_left
     · intro wx hx
       clear hx
       go_simp
       with_reducible rfl
     try simp only [tl]
     refine wpAnyH_done (by kernel_rfl) ?_ _
     refine NoPanic.normal ?_
     go_wp2_with fail
     have hbk3 := HBK.out.upd hu3 (fun f => f)
     have HBK3 := Lib.hid hbk3
     clear hbk3 HBK j0 j7 r3
     go_loopg [2, 30] q (fun m v2 v30 wr => ∃ (j : Nat) (acc2 : List (Tm × Int)), j + m = q ∧ v30 = .int .i64 j ∧ Coll enR D base 101 wr v2 acc2 ∧ acc2 ++ rendss k (q - j) j (ks.drop j) d = acc ++ X ∧ acc2.length + rszs (q - j) (ks.drop j) ≤ 1000000000 ∧
      Upd (fun q => (Value.slice sA acc.length sc).ownBlock = some q) w3 wr ∧ Blk wr w.heap.size 27 #[.int .i64 k, .int .i64 n, .string nm, x, y, z, .slice A ls.length c, .slice A' ks.length c'] ∧ ∀ q, v2.ownBlock = some q → (Value.slice sA acc.length sc).ownBlock = some q ∨ w3.heap.size ≤ q)
     case atStart => exact ⟨0, acc, by omega, rfl, HCO3.out.drew hD3, by rw [List.drop_zero, Nat.sub_zero, HX4.out], by rw [List.drop_zero, Nat.sub_zero]; omega, (Upd.refl nob w3).drew.mono (fun _ f => f.elim), HBK3.out, fun q h => .inl h⟩
     case round =>
      clear HX4 HCO3 HBK3
      obtain ⟨j, acc2, hj, rfl, hcr, hrs, hsr, hus, hbr, how⟩ := hrel
      have hws := hus.size
      obtain ⟨tA, tc, htv, htcp⟩ := hcr.form
      subst htv
      have ho3 : Old D w3 wr := Old.of_upd hus fun q hq => ⟨fun h => by have := (hnO q h).1; have := hDb q hq; omega, hD3 q hq⟩
      have hDr : Within D wr := hD3.up hus
      have HCR := Lib.hid hcr
      have HRS := Lib.hid hrs
      have HBR := Lib.hid hbr
      have HOW := Lib.hid how
      clear hcr hrs hbr how
      by_cases hlt : j < q
      · have t2 : decide ((j : Int) < q) = true := by simp [hlt]
        have hjn : j < ks.length := by omega
        obtain ⟨a, csj, hA, hab, hrow, hlj⟩ := HK3.out.at_ (List.getElem?_eq_getElem hjn)
        rw [Nat.zero_add] at hrow
        have hrow' := hrow.old ho3 (by rw [Addr_add_block]; exact hab)
        have hlj' := hlj.old ho3 (fun _ h => h)
        have hsj := hlj.oneCell
        have hsij : (Try.prog.info? 27).map (·.size) = some csj.size := by rw [hsj.1]; exact tm_size
        have hdr : ks.drop j = ks[j] :: ks.drop (j + 1) := List.drop_eq_getElem_cons hjn
        have hhj : ks[j].height ≤ Tm.heights ks := Tm.height_mem (List.getElem_mem hjn)
        have e1 : q - j = (q - (j + 1)) + 1 := by omega
        have hrs := HRS.out
        rw [hdr, e1, rendss] at hrs
        rw [hdr, e1, rszs] at hsr
        have HRS2 := Lib.hid hrs
        have HA := Lib.hid hA
        have HLJ := Lib.hid hlj'
        have HIH := Lib.hid (ih ks[j] (List.getElem_mem hjn))
        have hbl := bnd_le' k j
        obtain ⟨bb, hbb⟩ : ∃ bb, bnd k j = bb := ⟨_, rfl⟩
        rw [hbb] at hbl
        have hdb : IntKind.i64.wrap (d + bb) = d + bb := IntWalk.i64_in _ (by omega)
        have HBB := Lib.hid hbb
        clear hA hrs hdr e1 HRS hrow hlj hlj' hbb
        go_wp2_with (first
                        | ((with_reducible refine this_op (.indexAddr 25 (.tmp 28) (.tmp 30)) ?_); refine wpList_index_at rfl 25 (.tmp 28) (.tmp 30) rfl _ a _ _ rfl HA.out j rfl hlt 27 Try.underlying25 8 tm_size ?_)
                        | ((with_reducible refine this_op (.load 27 (.tmp 33)) ?_); refine wpList_at rfl 27 (.tmp 33) rfl (a.add (j * 8)) rfl _ _ hrow' Try.underlying27 rfl hsij ?_)
                        | ((with_reducible refine this_op (.store 27 (.tmp 8) (.tmp 34)) ?_); refine wpList_store_row rfl 27 (.tmp 8) (.tmp 34) rfl wr.heap.size _ rfl rfl 27 _ (Blk.new wr _ _) hsij (by rw [hsj.1]; rfl) hsj.2 ?_
                           obtain ⟨W7, hW7⟩ : ∃ W7, (wr.alloc (.cells #[.int .i64 0, .int .i64 0, .string ByteArray.empty, .int .i64 0, .int .i64 0, .slice none 0 0, .slice none 0 0, .slice none 0 0] 27)).setRow wr.heap.size csj = W7 := ⟨_, rfl⟩
                           have hu7 : Upd nob wr W7 := by rw [← hW7]; exact ((Upd.refl nob wr).alloc _).setRow (.inr (Nat.le_refl _)) _
                           have hb7 : Blk W7 wr.heap.size 27 csj := by rw [← hW7]; exact (Blk.new wr _ _).row _
                           rw [hW7]
                           clear hW7
                           have r7 := hb7.rowAt
                           have hlt7 := hb7.lt
                           have k07 : W7.cell? ⟨w.heap.size, 0, none⟩ = some (.int .i64 k) := (HBR.out.upd hu7 (fun f => f)).cell 0
                           clear hb7))
        have hw7s := hu7.size
        have hD7 : Within D W7 := hDr.up hu7
        refine wp_region_P (by kernel_rfl) ?_
        refine wpAny_of_held (S := fun X : World => ∀ p : Addr, (p.block < W7.heap.size ∧ (Value.slice tA acc2.length tc).ownBlock ≠ some p.block) → X.cell? p = W7.cell? p) _ _ _ _ ?_
        have hS : ∀ p : Addr, (p.block < W7.heap.size ∧ (Value.slice tA acc2.length tc).ownBlock ≠ some p.block) → W7.drew.cell? p = W7.cell? p := fun _ _ => rfl
        have hnw : (Value.slice tA acc2.length tc).ownBlock ≠ some wr.heap.size := fun h => by have := (HCR.out.lt h).2; omega
        have hnk : (Value.slice tA acc2.length tc).ownBlock ≠ some w.heap.size := fun h => by rcases HOW.out _ h with h2 | h2; (have := (hnO _ h2).2; omega); omega
        refine wpAnyH_take (i := 0) (v := (.agg csj)) rfl (by kernel_rfl) (by kernel_rfl) (by kernel_rfl) (fun _ _ _ h => h) (Or.inl ⟨by rfl, ?_⟩) hS ?_
        · intro wx hx
          exact run_load_at 27 (.tmp 8) rfl ⟨wr.heap.size, 0, none⟩ rfl csj _ (fun i v hv => (hx _ ⟨by rw [Addr_add_block]; exact hlt7, by rw [Addr_add_block]; exact hnw⟩).trans (r7 i v hv)) Try.underlying27 rfl hsij
        try simp only [tl]
        refine wpAnyH_take (i := 1) (v := ?_) rfl (by kernel_rfl) (by kernel_rfl) (by kernel_rfl) (fun _ _ _ h => h) (Or.inl ⟨by rfl, ?_⟩) hS ?_
        rotate_left
        · intro wx hx
          clear hx
          go_simp
          with_reducible rfl
        try simp only [tl]
        refine wpAnyH_take (i := 2) (v := ?_) rfl (by kernel_rfl) (by kernel_rfl) (by kernel_rfl) (fun _ _ _ h => h) (Or.inl ⟨by rfl, ?_⟩) hS ?_
        rotate_left
        · intro wx hx
          clear hx
          go_simp
          with_reducible rfl
        try simp only [tl]
        refine wpAnyH_take (i := 3) (v := ?_) rfl (by kernel_rfl) (by kernel_rfl) (by kernel_rfl) (fun _ _ _ h => h) (Or.inl ⟨by rfl, ?_⟩) hS ?_
        rotate_left
        · intro wx hx
          have q0 := (hx ⟨w.heap.size, 0, none⟩ ⟨by show w.heap.size < _; omega, hnk⟩).trans k07
          clear hx
          go_simp
          with_reducible rfl
        try simp only [tl]
        refine wpAnyH_take (i := 4) (v := ?_) rfl (by kernel_rfl) (by kernel_rfl) (by kernel_rfl) (fun _ _ _ h => h) (Or.inl ⟨by rfl, ?_⟩) hS ?_
        rotate_left
        · intro wx hx
          clear hx
          go_simp
          with_reducible rfl
        try simp only [tl]
        refine wpAnyH_take (i := 7) (v := ?_) rfl (by kernel_rfl) (by kernel_rfl) (by kernel_rfl) (fun _ _ _ h => h) (Or.inl ⟨by rfl, ?_⟩) hS ?_
        rotate_left
        · intro wx hx
          clear hx
          go_simp
          with_reducible rfl
        try simp only [tl]
        refine wpAnyH_alone (i := 5) (by kernel_rfl) rfl (by rfl) fun K hK => ?_
        go_simp
        refine (rbinds_any k j W7.drew).mono ?_
        rintro e w4 ⟨rfl, rfl⟩
        rw [HBB.out]
        refine hK _ _ (fun _ _ => rfl) ?_
        clear hK K
        try simp only [tl]
        refine wpAnyH_take (i := 6) (v := ?_) rfl (by kernel_rfl) (by kernel_rfl) (by kernel_rfl) (fun _ _ _ h => h) (Or.inl ⟨by rfl, ?_⟩) hS ?_
        rotate_left
        · intro wx hx
          clear hx
          go_simp
          with_reducible rfl
        try simp only [tl]
        refine wpAnyH_alone (i := 8) (by kernel_rfl) rfl (by rfl) fun K hK => ?_
        go_simp
        refine (HIH.out csj D (d + bb) base (.slice tA acc2.length tc) acc2 W7.drew ((HLJ.out.old (hDr.old hu7) (fun _ h => h)).drew) hDb (by show base ≤ W7.heap.size; omega) ((HCR.out.upd hu7 (fun _ f => f.elim) hDr).drew hD7) (by omega) (by omega) (by omega)).mono ?_
        rintro e w8 ⟨v8, rfl, hc8, hu8, ho8⟩
        have HU8 : Hid (Upd (fun q => (Value.slice tA acc2.length tc).ownBlock = some q) W7 w8) := Lib.hid (((Upd.refl nob W7).drew.mono (fun _ f => f.elim)).trans hu8)
        have HC8 := Lib.hid hc8
        have HO8 : Hid (∀ q, v8.ownBlock = some q → (Value.slice tA acc2.length tc).ownBlock = some q ∨ W7.heap.size ≤ q) := Lib.hid ho8
        clear hc8 hu8 ho8
        refine hK _ _ (fun p hp => HU8.out.cell hp.1 hp.2) ?_
        clear hK K
        try simp only [tl]
        have hS : ∀ p : Addr, (p.block < W7.heap.size ∧ (Value.slice tA acc2.length tc).ownBlock ≠ some p.block) → w8.cell? p = W7.cell? p := fun p hp => HU8.out.cell hp.1 hp.2
        refine wpAnyH_take (i := 9) (v := ?_) rfl (by kernel_rfl) (by kernel_rfl) (by kernel_rfl) (fun _ _ _ h => h) (Or.inl ⟨by rfl, ?_⟩) hS ?_
        rotate_left
        · intro wx hx
          clear hx
          go_simp
          with_reducible rfl
        try simp only [tl]
        refine wpAnyH_done (by kernel_rfl) ?_ _
        refine NoPanic.normal ?_
        go_wp2_with fail
        go_roundg (gk - 1)
        case measure => omega
        case rel =>
         have hnT : ∀ q, (Value.slice tA acc2.length tc).ownBlock = some q → q < w3.heap.size → (Value.slice sA acc.length sc).ownBlock = some q := fun q h h2 => (HOW.out q h).elim id (fun h3 => by omega)
         have hl8 := rends_len ks[j] (d + bb)
         refine ⟨j + 1, acc2 ++ rends ks[j] (d + bb), by omega, by go_num, HC8.out, by rw [← HRS2.out, HBB.out, List.append_assoc], by rw [List.length_append]; omega, hus.trans' ((hu7.mono (fun _ f => f.elim)).trans HU8.out) (fun q hq h => hnT q h hq), HBR.out.upd ((hu7.mono (fun _ f => f.elim)).trans' HU8.out (fun q _ h => h)) (fun h => hnk h), fun q h => ?_⟩
         rcases HO8.out q h with h2 | h2
         · exact HOW.out q h2
         · exact .inr (by omega)
      · have t2 : decide ((j : Int) < q) = false := by simp; omega
        have hrs := HRS.out
        have e1 : q - j = 0 := by omega
        rw [e1, rendss, List.append_nil] at hrs
        subst hrs
        go_wp2_with fail
        go_ret
        refine ⟨_, rfl, HCR.out, (hu03.mono (fun _ f => f.elim)).trans hus, fun q h => (HOW.out q h).imp id fun h => by omega⟩
end Go.Proofs.Ytiampoebdmflgaa

/- The reference's Mentions. -/
namespace Go.Proofs.Ytiampoebdmflgaa
open Go.RowKit
set_option linter.unusedVariables false
set_option maxRecDepth 100000
set_option maxHeartbeats 4000000
set_option linter.unusedSimpArgs false
theorem Coll.row_at2 {α : Type} {n : Nat} {R : Reading α n} {E : Nat → Prop} {base : Nat} {e : TypeId} {w : World} {v : Value} {ls : List α} (h : Coll R E base e w v ls) : ∃ A c, v = .slice A ls.length c ∧ ls.length ≤ c ∧
    ∀ (j : Nat) l, ls[j]? = some l → ∃ a cs, A = some a ∧ (base ≤ a.block ∧ a.block < w.heap.size) ∧ rowAt w (a.add (j * n)) cs ∧ R.is (fun x => E x ∨ (base ≤ x ∧ x < w.heap.size)) w l cs := by
 obtain ⟨rows, hr, hrr⟩ := h.rows
 obtain ⟨A, c, hv, hcp⟩ := hr.form
 refine ⟨A, c, by rw [hv, ← hrr.1], by rw [← hrr.1]; exact hcp, fun j l hj => ?_⟩
 have hjl : j < rows.length := by have := (List.getElem?_eq_some_iff.1 hj).1; rw [hrr.1]; exact this
 obtain ⟨g, cap, hv2, hrow⟩ := hr.at_ hjl
 have hA : A = some ⟨g, 0, none⟩ := by rw [hv] at hv2; injection hv2
 have hlt := hr.lt (g := g) (by rw [hv2]; rfl)
 exact ⟨⟨g, 0, none⟩, rows[j], hA, hlt, hrow, R.old (Old.refl _ _) (fun k hk => hk.1) (hrr.2 j l rows[j] hj (List.getElem?_eq_getElem hjl))⟩
def isCon (nm : ByteArray) (x : Tm × Int) : Bool := decide (x.1.k = 7) && (x.1.nm.toList == nm.toList)
/-- assizeref7.Mentions. -/
def rment (t : Tm) (nm : ByteArray) : Bool := !rgreat t && (rends t 0).any (isCon nm)
theorem rment_any (t : Tm) (nm : ByteArray) (cs : Array Value) (D : Nat → Prop) (w : World) (hD : Within D w) (hl : TmIs D w t cs) (hh : t.height ≤ 4000000000000) :
    Calls Try.prog 16 #[.agg cs, .string nm] w fun e w' => e = .returned (.bool (rment t nm)) ∧ Below w.heap.size w w' := by
 have hz := en_zero
 have hs := hl.oneCell
 have hsi : (Try.prog.info? 27).map (·.size) = some cs.size := by rw [hs.1]; exact tm_size
 obtain ⟨X, hX⟩ : ∃ X, rment t nm = X := ⟨_, rfl⟩
 rw [hX]
 have HX := Lib.hid hX; clear hX
 obtain ⟨W1, hW1⟩ : ∃ W1, w.alloc (.cells cs 27) = W1 := ⟨_, rfl⟩
 have huW1 : Upd nob w W1 := by rw [← hW1]; exact (Upd.refl nob w).alloc _
 have hsW1 : W1.heap.size = w.heap.size + 1 := by rw [← hW1]; simp
 have bk0 : Blk W1 (w.heap.size) 27 cs := by
  rw [← hW1]
  have h := Blk.new (w) 27 cs
  exact h
 have hl1 := hl.old (hD.old huW1) (fun _ h => h)
 have hD1 := hD.up huW1
 have r0 := bk0.rowAt
 have HB0 := Lib.hid bk0
 have HW1 := Lib.hid hW1
 rw [← hW1] at r0
 have HL1 := Lib.hid hl1
 clear hW1 bk0 hl hl1
 go_enter Try.func16, Try.ntmps16
 go_wp2_with (first
       | ((with_reducible refine this_op (.load 27 (.tmp 2)) ?_); refine wpList_at rfl 27 (.tmp 2) rfl ⟨w.heap.size, 0, none⟩ rfl _ _ r0 Try.underlying27 rfl hsi ?_))
 rw [HW1.out]
 refine (rgreat_any t cs D W1 hD1 HL1.out).mono ?_
 rintro e w2 ⟨rfl, hb2⟩
 have hu2 : Upd nob W1 w2 := Upd.of_below hb2
 have hw2s := hu2.size
 have r2 := (HB0.out.upd hu2 (fun f => f)).rowAt
 have hl2 := HL1.out.old (hD1.old hu2) (fun _ h => h)
 have hD2 := hD1.up hu2
 have hu02 := huW1.trans hu2
 clear r0
 cases hg : rgreat t with
 | true =>
  have hx : X = false := by rw [← HX.out, rment, hg]; rfl
  subst hx
  clear HX hg
  go_wp2_with fail
  go_ret
  exact ⟨rfl, hu02.below⟩
 | false =>
  have hsz := rgreat_sz hg
  have hx : (rends t 0).any (isCon nm) = X := by rw [← HX.out, rment, hg]; rfl
  have hrl := rends_len t 0
  obtain ⟨es, hes⟩ : ∃ l, rends t 0 = l := ⟨_, rfl⟩
  rw [hes] at hx hrl
  have HX2 := Lib.hid hx
  have HES := Lib.hid hes
  clear hg HX hx hes
  go_wp2_with (first
          | ((with_reducible refine this_op (.load 27 (.tmp 2)) ?_); refine wpList_at rfl 27 (.tmp 2) rfl ⟨w.heap.size, 0, none⟩ rfl _ _ r2 Try.underlying27 rfl hsi ?_))
  refine (rends_any t cs D 0 w2.heap.size (.slice none 0 0) [] w2 hl2 hD2 (Nat.le_refl _) Coll.nil_ (by omega) (by omega) (by simp; omega)).mono ?_
  rintro e w3 ⟨v3, rfl, hc3, hu3, _⟩
  rw [HES.out, List.nil_append] at hc3
  have hu23 : Upd nob w2 w3 := hu3.mono (fun q h => by simp [Value.ownBlock] at h)
  have hw3s := hu23.size
  obtain ⟨vA, vc, hv, hvc, hrows⟩ := hc3.row_at2
  subst hv
  have HROWS := Lib.hid hrows
  have hu03 := hu02.trans hu23
  obtain ⟨q, hq⟩ : ∃ q, es.length = q := ⟨_, rfl⟩
  have HQ := Lib.hid hq
  rw [hq] at hrl ⊢
  clear hrows hc3 hq
  go_wp2_with fail
  go_loopg [5, 13] q (fun m v5 v13 wr => ∃ (j : Nat) (b : Bool), j + m = q ∧ v13 = .int .i64 j ∧ v5 = .bool b ∧ (b || (es.drop j).any (isCon nm)) = X ∧ Upd nob w3 wr)
  case atStart => exact ⟨0, false, by omega, rfl, rfl, by rw [List.drop_zero, Bool.false_or]; exact HX2.out, Upd.refl _ _⟩
  case round =>
   clear HX2
   obtain ⟨j, b, hj, rfl, rfl, hbx, hus⟩ := hrel
   have HBX := Lib.hid hbx
   clear hbx
   by_cases hlt : j < q
   · have t2 : decide ((j : Int) < q) = true := by simp [hlt]
     have hjn : j < es.length := by rw [HQ.out]; exact hlt
     obtain ⟨a, csj, hA, hab, hrow, hen⟩ := HROWS.out j _ (List.getElem?_eq_getElem hjn)
     obtain ⟨⟨tj, d⟩, htj⟩ : ∃ y, es[j] = y := ⟨_, rfl⟩
     rw [htj] at hen
     obtain ⟨ct, hct, htm⟩ := hen
     have hdr : es.drop j = es[j] :: es.drop (j + 1) := List.drop_eq_getElem_cons hjn
     have hbx := HBX.out
     rw [hdr, htj, List.any_cons, isCon] at hbx
     obtain ⟨x, y, z, A, c, A', c', hlit, _, _, _, _, _, _, _, _⟩ := htm.lit
     obtain ⟨k, hk⟩ : ∃ k, tj.k = k := ⟨_, rfl⟩
     obtain ⟨m, hm⟩ : ∃ m, tj.nm = m := ⟨_, rfl⟩
     obtain ⟨n, hn⟩ : ∃ n, tj.n = n := ⟨_, rfl⟩
     obtain ⟨lsn, hlsn⟩ : ∃ n, tj.ls.length = n := ⟨_, rfl⟩
     obtain ⟨ksn, hksn⟩ : ∃ n, tj.ks.length = n := ⟨_, rfl⟩
     simp only at hbx hct
     have hct1 := hct
     rw [hk, hm] at hbx
     rw [hlit, hk, hm, hn, hlsn, hksn] at hct
     have hct2 : csj = #[.int .i64 k, .int .i64 n, .string m, x, y, z, .slice A lsn c, .slice A' ksn c', .int .i64 d] := by rw [hct]; rfl
     have hone : csj.all (·.oneCell') = true := by rw [hct1]; exact (EnIs.cells ⟨ct, rfl, htm⟩ : _ ∧ _).2
     subst hct2
     have HONE := Lib.hid hone
     clear hone hct1
     have hrow' : rowAt wr (a.add (j * 9)) #[.int .i64 k, .int .i64 n, .string m, x, y, z, .slice A lsn c, .slice A' ksn c', .int .i64 d] := fun i v hv => (hus.cell (by rw [Addr_add_block, Addr_add_block]; exact hab.2) (fun f => f)).trans (hrow i v hv)
     have HA := Lib.hid hA
     have HBX2 := Lib.hid hbx
     clear hA hct hlit hdr hbx htj hk hm hn hlsn hksn HBX hrow htm
     have fin : ∀ (W9 : World) (b' : Bool), (b' || (es.drop (j + 1)).any (isCon nm)) = X → Upd nob wr W9 → ∃ (j' : Nat) (b : Bool), j' + (gk - 1) = q ∧ Value.int IntKind.i64 ((j : Int) + 1) = .int .i64 j' ∧ Value.bool b' = .bool b ∧ (b || (es.drop j').any (isCon nm)) = X ∧ Upd nob w3 W9 := fun W9 b' h1 h2 => ⟨j + 1, b', by omega, by go_num, rfl, h1, hus.trans h2⟩
     have hone : (#[.int .i64 k, .int .i64 n, .string m, x, y, z, .slice A lsn c, .slice A' ksn c', .int .i64 d]).all (·.oneCell') = true := HONE.out
     have FIN := Lib.hid fin
     clear fin
     cases b with
     | true =>
      have hbx := HBX2.out
      rw [Bool.true_or] at hbx
      have HB3 : Hid ((true || (es.drop (j + 1)).any (isCon nm)) = X) := Lib.hid (by rw [Bool.true_or]; exact hbx)
      clear hbx HBX2
      go_wp2_with (first
                    | ((with_reducible refine this_op (.indexAddr 98 (.tmp 11) (.tmp 13)) ?_); refine wpList_index_at rfl 98 (.tmp 11) (.tmp 13) rfl _ a _ _ rfl HA.out j rfl hlt 101 Try.underlying98 9 en_size ?_)
                    | ((with_reducible refine this_op (.load 101 (.tmp 15)) ?_); refine wpList_at rfl 101 (.tmp 15) rfl (a.add (j * 9)) rfl _ _ hrow' Try.underlying101 rfl en_size ?_)
                    | ((with_reducible refine this_op (.store 101 (.tmp 7) (.tmp 16)) ?_); refine wpList_store_row rfl 101 (.tmp 7) (.tmp 16) rfl wr.heap.size _ rfl rfl 101 _ (Blk.new wr _ _) en_size rfl hone ?_
                       obtain ⟨W7, hW7⟩ : ∃ W7, (wr.alloc (.cells #[.int .i64 0, .int .i64 0, .string ByteArray.empty, .int .i64 0, .int .i64 0, .slice none 0 0, .slice none 0 0, .slice none 0 0, .int .i64 0] 101)).setRow wr.heap.size #[.int .i64 k, .int .i64 n, .string m, x, y, z, .slice A lsn c, .slice A' ksn c', .int .i64 d] = W7 := ⟨_, rfl⟩
                       have hu7 : Upd nob wr W7 := by rw [← hW7]; exact ((Upd.refl nob wr).alloc _).setRow (.inr (Nat.le_refl _)) _
                       have hb7 : Blk W7 wr.heap.size 101 #[.int .i64 k, .int .i64 n, .string m, x, y, z, .slice A lsn c, .slice A' ksn c', .int .i64 d] := by rw [← hW7]; exact (Blk.new wr _ _).row _
                       rw [hW7]
                       clear hW7
                       have s0 : W7.cell? ⟨wr.heap.size, 0, none⟩ = some (.int .i64 k) := hb7.cell 0
                       have s2 : W7.cell? ⟨wr.heap.size, 2, none⟩ = some (.string m) := hb7.cell 2
                       clear hb7))
      go_roundg (gk - 1)
      case measure => omega
      case rel => exact FIN.out _ _ HB3.out hu7
     | false =>
      have hbx := HBX2.out
      rw [Bool.false_or] at hbx
      by_cases hk7 : k = 7
      · subst hk7
        have e : (decide ((7 : Int) = 7) && (m.toList == nm.toList)) = (m.toList == nm.toList) := by simp
        rw [e] at hbx
        have HB3 := Lib.hid hbx
        clear hbx HBX2 e
        go_wp2_with (first
                        | ((with_reducible refine this_op (.indexAddr 98 (.tmp 11) (.tmp 13)) ?_); refine wpList_index_at rfl 98 (.tmp 11) (.tmp 13) rfl _ a _ _ rfl HA.out j rfl hlt 101 Try.underlying98 9 en_size ?_)
                        | ((with_reducible refine this_op (.load 101 (.tmp 15)) ?_); refine wpList_at rfl 101 (.tmp 15) rfl (a.add (j * 9)) rfl _ _ hrow' Try.underlying101 rfl en_size ?_)
                        | ((with_reducible refine this_op (.store 101 (.tmp 7) (.tmp 16)) ?_); refine wpList_store_row rfl 101 (.tmp 7) (.tmp 16) rfl wr.heap.size _ rfl rfl 101 _ (Blk.new wr _ _) en_size rfl hone ?_
                           obtain ⟨W7, hW7⟩ : ∃ W7, (wr.alloc (.cells #[.int .i64 0, .int .i64 0, .string ByteArray.empty, .int .i64 0, .int .i64 0, .slice none 0 0, .slice none 0 0, .slice none 0 0, .int .i64 0] 101)).setRow wr.heap.size #[.int .i64 7, .int .i64 n, .string m, x, y, z, .slice A lsn c, .slice A' ksn c', .int .i64 d] = W7 := ⟨_, rfl⟩
                           have hu7 : Upd nob wr W7 := by rw [← hW7]; exact ((Upd.refl nob wr).alloc _).setRow (.inr (Nat.le_refl _)) _
                           have hb7 : Blk W7 wr.heap.size 101 #[.int .i64 7, .int .i64 n, .string m, x, y, z, .slice A lsn c, .slice A' ksn c', .int .i64 d] := by rw [← hW7]; exact (Blk.new wr _ _).row _
                           rw [hW7]
                           clear hW7
                           have s0 : W7.cell? ⟨wr.heap.size, 0, none⟩ = some (.int .i64 7) := hb7.cell 0
                           have s2 : W7.cell? ⟨wr.heap.size, 2, none⟩ = some (.string m) := hb7.cell 2
                           clear hb7))
        go_roundg (gk - 1)
        case measure => omega
        case rel => exact FIN.out _ _ HB3.out hu7
      · have e : (decide (k = 7) && (m.toList == nm.toList)) = false := by simp [hk7]
        rw [e] at hbx
        have HB3 := Lib.hid hbx
        have t7 : (k == 7) = false := by simpa using hk7
        clear hbx HBX2 e hk7
        go_wp2_with (first
                        | ((with_reducible refine this_op (.indexAddr 98 (.tmp 11) (.tmp 13)) ?_); refine wpList_index_at rfl 98 (.tmp 11) (.tmp 13) rfl _ a _ _ rfl HA.out j rfl hlt 101 Try.underlying98 9 en_size ?_)
                        | ((with_reducible refine this_op (.load 101 (.tmp 15)) ?_); refine wpList_at rfl 101 (.tmp 15) rfl (a.add (j * 9)) rfl _ _ hrow' Try.underlying101 rfl en_size ?_)
                        | ((with_reducible refine this_op (.store 101 (.tmp 7) (.tmp 16)) ?_); refine wpList_store_row rfl 101 (.tmp 7) (.tmp 16) rfl wr.heap.size _ rfl rfl 101 _ (Blk.new wr _ _) en_size rfl hone ?_
                           obtain ⟨W7, hW7⟩ : ∃ W7, (wr.alloc (.cells #[.int .i64 0, .int .i64 0, .string ByteArray.empty, .int .i64 0, .int .i64 0, .slice none 0 0, .slice none 0 0, .slice none 0 0, .int .i64 0] 101)).setRow wr.heap.size #[.int .i64 k, .int .i64 n, .string m, x, y, z, .slice A lsn c, .slice A' ksn c', .int .i64 d] = W7 := ⟨_, rfl⟩
                           have hu7 : Upd nob wr W7 := by rw [← hW7]; exact ((Upd.refl nob wr).alloc _).setRow (.inr (Nat.le_refl _)) _
                           have hb7 : Blk W7 wr.heap.size 101 #[.int .i64 k, .int .i64 n, .string m, x, y, z, .slice A lsn c, .slice A' ksn c', .int .i64 d] := by rw [← hW7]; exact (Blk.new wr _ _).row _
                           rw [hW7]
                           clear hW7
                           have s0 : W7.cell? ⟨wr.heap.size, 0, none⟩ = some (.int .i64 k) := hb7.cell 0
                           have s2 : W7.cell? ⟨wr.heap.size, 2, none⟩ = some (.string m) := hb7.cell 2
                           clear hb7))
        go_roundg (gk - 1)
        case measure => omega
        case rel => exact FIN.out _ _ HB3.out hu7
   · have t2 : decide ((j : Int) < q) = false := by simp; omega
     have hbx := HBX.out
     rw [List.drop_eq_nil_of_le (by rw [HQ.out]; omega)] at hbx
     have e : b = X := by simpa using hbx
     subst e
     go_wp2_with fail
     go_ret
     exact ⟨rfl, (hu03.trans hus).below⟩
end Go.Proofs.Ytiampoebdmflgaa

/- shape's former.ctor. -/
namespace Go.Proofs.Ytiampoebdmflgaa
open Go.RowKit
set_option linter.unusedVariables false
set_option maxRecDepth 100000
set_option maxHeartbeats 4000000
set_option linter.unusedSimpArgs false
def allSame : List Tm → List Tm → Bool
 | a :: l, b :: r => tSame a b && allSame l r
 | _, _ => true
def ctorF (nm : ByteArray) (p idx : Nat) (itself : Tm) : Nat → List (Int × Int) → List Tm → (Int × List (Int × Int)) × Int
 | i, sl, [] => (((i : Int), sl), 0)
 | i, sl, a :: l =>
  if tment a nm = true then
   (if ((trow a).1.any fun t => tment t nm) = true then ((0, []), 15)
    else if (tends nm p idx itself (trow a).2 ((p : Int) + i + (trow a).1.length - 1)).1 = false then ((0, []), 15)
    else if (tends nm p idx itself (trow a).2 ((p : Int) + i + (trow a).1.length - 1)).2 = true then ((0, []), 15)
    else ctorF nm p idx itself (i + 1) (sl ++ [((i : Int), ((trow a).1.length : Int))]) l)
  else ctorF nm p idx itself (i + 1) sl l
/-- former.ctor: how many fields, which of them are of the type itself; and what is wrong. -/
def tctor (nm : ByteArray) (p idx : Nat) (itself : Tm) (fdoms : List Tm) (t : Tm) : (Int × List (Int × Int)) × Int :=
 if (trow t).1.length < p then ((0, []), 14)
 else if allSame ((trow t).1.take p) fdoms = false then ((0, []), 14)
 else if (tends nm p idx itself (trow t).2 ((trow t).1.length - 1)).1 = false then ((0, []), 14)
 else if (tends nm p idx itself (trow t).2 ((trow t).1.length - 1)).2 = true then ((0, []), 15)
 else ctorF nm p idx itself 0 [] ((trow t).1.drop p)
theorem rowF_le : ∀ (n : Nat) (t : Tm) (acc : List Tm), (rowF n t acc).1.length ≤ acc.length + n
 | 0, _, _ => Nat.le_refl _
 | n + 1, t, acc => by
  rw [rowF]
  split
  · split
    · rename_i d b r h
      have := rowF_le n b (acc ++ [d])
      simp at this; omega
    · simp only; omega
  · simp only; omega
theorem rowF_mem : ∀ (n : Nat) (t : Tm) (acc : List Tm) (x : Tm), x ∈ (rowF n t acc).1 → x ∈ acc ∨ x.height ≤ t.height
 | 0, _, _, _, h => .inl h
 | n + 1, t, acc, x, h => by
  rw [rowF] at h
  split at h
  · split at h
    · rename_i d b r hks
      obtain ⟨k, nn, nm, lv, ls, ks⟩ := t
      simp only [Tm.ks] at hks
      subst hks
      have hd : d.height ≤ Tm.heights (d :: b :: r) := Tm.height_mem (by simp)
      have hb : b.height ≤ Tm.heights (d :: b :: r) := Tm.height_mem (by simp)
      simp only [Tm.height]
      rcases rowF_mem n b (acc ++ [d]) x h with h1 | h1
      · rcases List.mem_append.1 h1 with h1 | h1
        · exact .inl h1
        · rw [List.mem_singleton.1 h1]; exact .inr (by omega)
      · exact .inr (by omega)
    · exact .inl h
  · exact .inl h
theorem trow_le (t : Tm) : (trow t).1.length ≤ t.height := by have := rowF_le t.height t []; simpa [trow] using this
theorem trow_mem {t x : Tm} (h : x ∈ (trow t).1) : x.height ≤ t.height := (rowF_mem t.height t [] x h).elim (fun h => by simp at h) id
/-- A field that is of the type itself: two numbers. -/
def fdR : Reading (Int × Int) 2 := ⟨fun _ _ x cs => cs = #[.int .i64 x.1, .int .i64 x.2], fun _ _ h => h, fun h => by subst h; exact ⟨rfl, by simp [Value.oneCell']⟩⟩
theorem Coll.row_at {α : Type} {n : Nat} {R : Reading α n} {E : Nat → Prop} {base : Nat} {e : TypeId} {w : World} {v : Value} {ls : List α} (h : Coll R E base e w v ls) : ∃ A c, v = .slice A ls.length c ∧ ls.length ≤ c ∧
    ∀ (j : Nat) l, ls[j]? = some l → ∃ a cs, A = some a ∧ (base ≤ a.block ∧ a.block < w.heap.size) ∧ rowAt w (a.add (j * n)) cs ∧ R.is (fun x => E x ∨ (base ≤ x ∧ x < w.heap.size)) w l cs := by
 obtain ⟨rows, hr, hrr⟩ := h.rows
 obtain ⟨A, c, hv, hcp⟩ := hr.form
 refine ⟨A, c, by rw [hv, ← hrr.1], by rw [← hrr.1]; exact hcp, fun j l hj => ?_⟩
 have hjl : j < rows.length := by have := (List.getElem?_eq_some_iff.1 hj).1; rw [hrr.1]; exact this
 obtain ⟨g, cap, hv2, hrow⟩ := hr.at_ hjl
 have hA : A = some ⟨g, 0, none⟩ := by rw [hv] at hv2; injection hv2
 have hlt := hr.lt (g := g) (by rw [hv2]; rfl)
 exact ⟨⟨g, 0, none⟩, rows[j], hA, hlt, hrow, R.old (Old.refl _ _) (fun k hk => hk.1) (hrr.2 j l rows[j] hj (List.getElem?_eq_getElem hjl))⟩
/-- A constructor's shape lies in memory. -/
def CsIs (D : Nat → Prop) (w : World) (x : Int × List (Int × Int)) (cs : Array Value) : Prop :=
 ∃ A c, cs = #[.int .i64 x.1, .slice A x.2.length c] ∧ ∀ (j : Nat) y, x.2[j]? = some y → ∃ a : Addr, A = some a ∧ D a.block ∧ rowAt w (a.add (j * 2)) #[.int .i64 y.1, .int .i64 y.2]
theorem CsIs.old {D D' : Nat → Prop} {w w' : World} {x : Int × List (Int × Int)} {cs : Array Value} (h : CsIs D w x cs) (ho : Old D w w') (hD : ∀ k, D k → D' k) : CsIs D' w' x cs := by
 obtain ⟨A, c, h1, h2⟩ := h
 refine ⟨A, c, h1, fun j y hy => ?_⟩
 obtain ⟨a, g1, g2, g3⟩ := h2 j y hy
 exact ⟨a, g1, hD _ g2, g3.old ho (by rw [Addr_add_block]; exact g2)⟩
def csR : Reading (Int × List (Int × Int)) 2 := ⟨CsIs, fun ho hD h => h.old ho hD, fun h => by obtain ⟨A, c, rfl, _⟩ := h; exact ⟨rfl, by simp [Value.oneCell']⟩⟩
theorem cs_size : (Try.prog.info? 50).map (·.size) = some 2 := by kernel_rfl
theorem cs_zero (w : World) : (zeroValue 50).run Try.prog w = .ok (.agg #[.int .i64 0, .slice none 0 0]) w := by kernel_rfl
theorem fd_info : (Try.prog.info? 52).map (fun i => (i.zero, i.size, i.bytes)) = some (some (.agg #[.int .i64 0, .int .i64 0]), 2, 16) := by kernel_rfl
set_option maxHeartbeats 8000000 in
theorem tctor_any (t : Tm) (cs : Array Value) (D : Nat → Prop) (w : World) (fb : Nat) (nm : ByteArray) (p idx : Nat) (itself : Tm) (fdoms : List Tm) (hD : Within D w) (hl : TmIs D w t cs) (hf : FIs D w fb nm p itself fdoms idx)
    (hpd : p ≤ fdoms.length) (hfl : fdoms.length ≤ 140737488351232) (hi : idx ≤ 140737488351232) (ht : t.height * 120 ≤ 140737488351232) :
    Calls Try.prog 39 #[.pointer (some ⟨fb, 0, none⟩), .agg cs] w fun e w' =>
     ∃ cs', e = .returned (.tuple #[.agg cs', .int .i64 (tctor nm p idx itself fdoms t).2]) ∧ CsIs (fresh w w') w' (tctor nm p idx itself fdoms t).1 cs' ∧ Below w.heap.size w w' := by
 have hz := tm_zero
 have hz2 := cs_zero
 have hs := hl.oneCell
 have hsi : (Try.prog.info? 27).map (·.size) = some cs.size := by rw [hs.1]; exact tm_size
 have HHT : Hid (∀ a, a ∈ (trow t).1 → a.height * 120 ≤ 140737488351232) := Lib.hid (fun a h => by have := trow_mem h; omega)
 have hlen := trow_le t
 obtain ⟨⟨⟨X1, X2⟩, X3⟩, hX⟩ : ∃ X, tctor nm p idx itself fdoms t = X := ⟨_, rfl⟩
 rw [hX]
 have HX := Lib.hid hX; clear hX
 obtain ⟨W1, hW1⟩ : ∃ W1, ((w.alloc (.cells cs 27)).alloc (.cells #[.int .i64 0, .slice none 0 0] 50)).alloc (.cells #[.int .i64 0, .slice none 0 0] 50) = W1 := ⟨_, rfl⟩
 have huW1 : Upd nob w W1 := by rw [← hW1]; exact (((Upd.refl nob w).alloc _).alloc _).alloc _
 have hsW1 : W1.heap.size = w.heap.size + 3 := by rw [← hW1]; simp
 have bk0 : Blk W1 (w.heap.size) 27 cs := by
  rw [← hW1]
  have h := Blk.new (w) 27 cs
  exact (h.alloc _).alloc _
 have bk1 : Blk W1 (w.heap.size + 1) 50 #[.int .i64 0, .slice none 0 0] := by
  rw [← hW1]
  have h := Blk.new (w.alloc (.cells cs 27)) 50 #[.int .i64 0, .slice none 0 0]
  rw [World.size_alloc] at h
  exact h.alloc _
 have bk2 : Blk W1 (w.heap.size + 1 + 1) 50 #[.int .i64 0, .slice none 0 0] := by
  rw [← hW1]
  have h := Blk.new ((w.alloc (.cells cs 27)).alloc (.cells #[.int .i64 0, .slice none 0 0] 50)) 50 #[.int .i64 0, .slice none 0 0]
  rw [World.size_alloc, World.size_alloc] at h
  exact h
 have hl1 := hl.old (hD.old huW1) (fun _ h => h)
 have hf1 := hf.upd huW1 (fun f => f) (hD.old huW1) (fun _ h => h)
 have hD1 := hD.up huW1
 have hfw := hf.lt
 have r0 := bk0.rowAt
 have HK1 := Lib.hid bk1
 have HK2 := Lib.hid bk2
 clear hl hf bk0 bk1 bk2
 have HW1 := Lib.hid hW1; clear hW1
 go_enter Try.func39, Try.ntmps39
 rw [← HW1.out] at r0
 go_wp2_with (first
       | ((with_reducible refine this_op (.load 27 (.tmp 3)) ?_); refine wpList_at rfl 27 (.tmp 3) rfl ⟨w.heap.size, 0, none⟩ rfl _ _ r0 Try.underlying27 rfl hsi ?_))
 rw [HW1.out]
 clear r0 HW1
 refine (trow_any t cs D W1 hD1 hl1 (by omega)).mono ?_
 rintro e w2 ⟨cs2, A, c, rfl, hl2, hlc, hat2, hb2⟩
 have hu2 : Upd nob W1 w2 := Upd.of_below hb2
 have hf2 := hf1.upd hu2 (fun f => f) (hD1.old hu2) (fun _ h => h)
 have HX2 := HX.out
 unfold tctor at HX2
 obtain ⟨⟨ds, rs⟩, hsp⟩ : ∃ x, trow t = x := ⟨_, rfl⟩
 have HHT2 := HHT.out
 rw [hsp] at HX2 HHT2 hl2 hlc hat2 hlen ⊢
 simp only at HX2 HHT2 hl2 hlc hat2 hlen
 have HX3 := Lib.hid HX2
 have HHT3 := Lib.hid HHT2
 clear hsp HX2 HX HHT HHT2 hl1 hf1
 obtain ⟨n, hn⟩ : ∃ n, ds.length = n := ⟨_, rfl⟩
 rw [hn] at hlc hlen
 have HN := Lib.hid hn
 have hs2 := hl2.oneCell
 have hsi2 : (Try.prog.info? 27).map (·.size) = some cs2.size := by rw [hs2.1]; exact tm_size
 have HL2 := Lib.hid hl2
 have HAT2 := Lib.hid hat2
 have HF2 := Lib.hid hf2
 clear hl2 hat2 hf2
 simp only []
 rw [hn]
 clear hn
 by_cases hlp : n < p
 · have t1 : decide ((n : Int) < (p : Int)) = true := by simp; omega
   have hx := HX3.out
   rw [HN.out, if_pos hlp] at hx
   injection hx with hx1 hx3
   injection hx1 with hx1 hx2
   subst hx1 hx2 hx3
   clear HX3
   go_wp2_with (first
           | ((with_reducible refine this_op (.store 27 (.tmp 8) (.tmp 23)) ?_); refine wpList_store_row rfl 27 (.tmp 8) (.tmp 23) rfl w2.heap.size _ rfl rfl 27 _ (Blk.new w2 _ _) hsi2 (by rw [hs2.1]; rfl) hs2.2 ?_
              obtain ⟨W3, hW3⟩ : ∃ W3, (w2.alloc (.cells #[.int .i64 0, .int .i64 0, .string ByteArray.empty, .int .i64 0, .int .i64 0, .slice none 0 0, .slice none 0 0, .slice none 0 0] 27)).setRow w2.heap.size cs2 = W3 := ⟨_, rfl⟩
              have hu3 : Upd nob w2 W3 := by rw [← hW3]; exact ((Upd.refl nob w2).alloc _).setRow (.inr (Nat.le_refl _)) _
              have hb3 : Blk W3 w2.heap.size 27 cs2 := by rw [← hW3]; exact (Blk.new w2 _ _).row _
              rw [hW3]
              clear hW3
              have p19 : W3.cell? ⟨fb, 19, none⟩ = some (.int .i64 p) := (hu3.cell HF2.out.lt (fun f => f)).trans HF2.out.par
              have HB3 := Lib.hid hb3
              have u1 := (HK1.out.upd hu2 (fun f => f)).upd hu3 (fun f => f)
              have u2 := (HK2.out.upd hu2 (fun f => f)).upd hu3 (fun f => f)
              have U1 := Lib.hid u1
              have U2 := Lib.hid u2
              have r6 := u2.rowAt
              clear hb3 u1 u2)
           | ((with_reducible refine this_op (.load 50 (.tmp 6)) ?_); refine wpList_at rfl 50 (.tmp 6) rfl ⟨w.heap.size + 1 + 1, 0, none⟩ rfl _ _ r6 Try.underlying50 rfl cs_size ?_)
           | ((with_reducible refine this_op (.store 50 (.tmp 4) (.tmp 32)) ?_); refine wpList_store_row rfl 50 (.tmp 4) (.tmp 32) rfl (w.heap.size + 1) _ rfl rfl 50 _ U1.out cs_size rfl (by simp [Value.oneCell']) ?_))
   refine bodyPost_ret (results_cell_tmp rfl _ _ (w.heap.size + 1) 50 #[.int .i64 0, .slice none 0 0] (0, 0) _ (.int .i64 14) rfl rfl (U1.out.row _) Try.underlying50 rfl cs_size) rfl ?_
   exact ⟨_, rfl, ⟨none, 0, rfl, fun j y h => by simp at h⟩, (((huW1.trans hu2).trans hu3).trans' ((Upd.refl (fun q => q = w.heap.size + 1) _).setRow (.inl rfl) _) (fun q hq h => by omega)).below⟩
 · have t1 : decide ((n : Int) < (p : Int)) = false := by simp; omega
   have hx := HX3.out
   rw [HN.out, if_neg hlp] at hx
   have HX4 := Lib.hid hx
   clear hx HX3
   have hpc : p ≤ c := by omega
   have hpn : p ≤ n := by omega
   go_wp2_with (first
           | ((with_reducible refine this_op (.store 27 (.tmp 8) (.tmp 23)) ?_); refine wpList_store_row rfl 27 (.tmp 8) (.tmp 23) rfl w2.heap.size _ rfl rfl 27 _ (Blk.new w2 _ _) hsi2 (by rw [hs2.1]; rfl) hs2.2 ?_
              obtain ⟨W3, hW3⟩ : ∃ W3, (w2.alloc (.cells #[.int .i64 0, .int .i64 0, .string ByteArray.empty, .int .i64 0, .int .i64 0, .slice none 0 0, .slice none 0 0, .slice none 0 0] 27)).setRow w2.heap.size cs2 = W3 := ⟨_, rfl⟩
              have hu3 : Upd nob w2 W3 := by rw [← hW3]; exact ((Upd.refl nob w2).alloc _).setRow (.inr (Nat.le_refl _)) _
              have hb3 : Blk W3 w2.heap.size 27 cs2 := by rw [← hW3]; exact (Blk.new w2 _ _).row _
              rw [hW3]
              clear hW3
              have p19 : W3.cell? ⟨fb, 19, none⟩ = some (.int .i64 p) := (hu3.cell HF2.out.lt (fun f => f)).trans HF2.out.par
              have HB3 := Lib.hid hb3
              have u1 := (HK1.out.upd hu2 (fun f => f)).upd hu3 (fun f => f)
              have u2 := (HK2.out.upd hu2 (fun f => f)).upd hu3 (fun f => f)
              have U1 := Lib.hid u1
              have U2 := Lib.hid u2
              have r6 := u2.rowAt
              clear hb3 u1 u2)
           | ((with_reducible refine this_op (.slice 25 (.tmp 33) none (some (.tmp 38)) none) ?_); refine wpList_run rfl _ _ (run_slice_h8 25 _ _ rfl A n c rfl p rfl hpc und_tms 8 sz_tms) ?_))
   have hD2 : Within (grow D W1 w2) w2 := fun q hq => hq.elim (fun h => hD1.up hu2 q h) (fun h => h.2)
   have hDn : ∀ q, grow D W1 w2 q → q ≠ w.heap.size + 1 ∧ q ≠ w.heap.size + 1 + 1 := fun q hq => hq.elim (fun h => by have := hD q h; exact ⟨by omega, by omega⟩) (fun h => by have := h.1; exact ⟨by omega, by omega⟩)
   have hl3 := HL2.out.old (hD2.old hu3) (fun _ h => h)
   have hat3 := HAT2.out.old (hD2.old hu3) (fun _ h => h)
   have hf3 := HF2.out.upd hu3 (fun f => f) ((hD1.up hu2).old hu3) (D' := grow D W1 w2) (fun _ h => .inl h)
   have hD3 := hD2.up hu3
   have hu03 : Upd nob w W3 := (huW1.trans hu2).trans hu3
   have HF3 := Lib.hid hf3
   have HL3 := Lib.hid hl3
   have HAT3 := Lib.hid hat3
   have hw23 := hu2.size
   have hw33 := hu3.size
   clear hf3 hl3 hat3 HF2 HL2 HAT2 r6
   generalize grow D W1 w2 = D2 at *
   obtain ⟨V, hV⟩ : ∃ V, allSame (ds.take p) fdoms = V := ⟨_, rfl⟩
   have hx := HX4.out
   rw [hV] at hx
   have HX5 := Lib.hid hx
   have HV := Lib.hid hV
   clear hx hV HX4 t1
   go_loopg [41] p (fun k v wr => ∃ j : Nat, j + k = p ∧ v = .int .i64 j ∧ allSame ((ds.take p).drop j) (fdoms.drop j) = V ∧ Upd nob W3 wr)
   case atStart => exact ⟨0, by omega, rfl, by rw [List.drop_zero, List.drop_zero]; exact HV.out, Upd.refl _ _⟩
   case round =>
    clear p19
    obtain ⟨j, hj, rfl, hvd, hu⟩ := hrel
    have HVD := Lib.hid hvd; clear hvd
    have hD5 := hD3.up hu
    by_cases hlt : j < p
    · have t2 : decide ((j : Int) < p) = true := by simp [hlt]
      have hjn : j < ds.length := by rw [HN.out]; omega
      have hjf : j < fdoms.length := by omega
      obtain ⟨a, csj, hA, hab, hrow, hlj⟩ := HAT3.out.at_ (List.getElem?_eq_getElem hjn)
      rw [Nat.zero_add] at hrow
      have hf5 := HF3.out.upd hu (fun f => f) (hD3.old hu) (fun _ h => h)
      have hfl5 := hf5.lt
      obtain ⟨Af, cf, hcf, hatf⟩ := hf5.doms
      obtain ⟨b, csb, hB, hbb, hrowb, hlb⟩ := hatf.at_ (List.getElem?_eq_getElem hjf)
      rw [Nat.zero_add] at hrowb
      have hdr : (ds.take p).drop j = ds[j] :: (ds.take p).drop (j + 1) := by
       rw [List.drop_eq_getElem_cons (by rw [List.length_take]; omega), List.getElem_take]
      have hdr2 : fdoms.drop j = fdoms[j] :: fdoms.drop (j + 1) := List.drop_eq_getElem_cons hjf
      have hvd := HVD.out
      rw [hdr, hdr2, allSame] at hvd
      have HVD2 := Lib.hid hvd
      have hrow' := hrow.old (hD3.old hu) (by rw [Addr_add_block]; exact hab)
      have hlj' := hlj.old (hD3.old hu) (fun _ h => h)
      have hsj := hlj.oneCell
      have hsij : (Try.prog.info? 27).map (·.size) = some csj.size := by rw [hsj.1]; exact tm_size
      have hsb := hlb.oneCell
      have hsib : (Try.prog.info? 27).map (·.size) = some csb.size := by rw [hsb.1]; exact tm_size
      have HA := Lib.hid hA
      have HB := Lib.hid hB
      have HLJ := Lib.hid hlj'
      have HLB := Lib.hid hlb
      have hbl := hD5 _ hbb
      clear hA hB hvd hdr hdr2 HVD hrow hlj hlj' hlb hatf hf5
      go_wp2_with (first
                  | ((with_reducible refine this_op (.indexAddr 25 (.tmp 39) (.tmp 41)) ?_); refine wpList_index_at rfl 25 (.tmp 39) (.tmp 41) rfl _ a _ _ rfl HA.out j rfl hlt 27 Try.underlying25 8 tm_size ?_)
                  | ((with_reducible refine this_op (.load 27 (.tmp 44)) ?_); refine wpList_at rfl 27 (.tmp 44) rfl (a.add (j * 8)) rfl _ _ hrow' Try.underlying27 rfl hsij ?_)
                  | ((with_reducible refine this_op (.store 27 (.tmp 10) (.tmp 45)) ?_); refine wpList_store_row rfl 27 (.tmp 10) (.tmp 45) rfl wr.heap.size _ rfl rfl 27 _ (Blk.new wr _ _) hsij (by rw [hsj.1]; rfl) hsj.2 ?_))
      obtain ⟨W5, hW5⟩ : ∃ W5, (wr.alloc (.cells #[.int .i64 0, .int .i64 0, .string ByteArray.empty, .int .i64 0, .int .i64 0, .slice none 0 0, .slice none 0 0, .slice none 0 0] 27)).setRow wr.heap.size csj = W5 := ⟨_, rfl⟩
      have hu5 : Upd nob wr W5 := by rw [← hW5]; exact ((Upd.refl nob wr).alloc _).setRow (.inr (Nat.le_refl _)) _
      have hb5 : Blk W5 wr.heap.size 27 csj := by rw [← hW5]; exact (Blk.new wr _ _).row _
      rw [hW5]
      clear hW5
      have hr5 := hb5.rowAt
      have hlt5 := hb5.lt
      have hs5 := hu5.size
      have hlj5 := HLJ.out.old (hD5.old hu5) (fun _ h => h)
      have hlb5 := HLB.out.old (hD5.old hu5) (fun _ h => h)
      have hrb5 := hrowb.old (hD5.old hu5) (by rw [Addr_add_block]; exact hbb)
      have hcf5 : W5.cell? ⟨fb, 29, none⟩ = some (.slice Af fdoms.length cf) := (hu5.cell hfl5 (fun f => f)).trans hcf
      have hfl6 : fb < W5.heap.size := by omega
      have hbl6 : b.block < W5.heap.size := by omega
      have hD6 := hD5.up hu5
      have HLJ5 := Lib.hid hlj5
      have HLB5 := Lib.hid hlb5
      clear hlj5 hlb5 HLJ HLB hb5 hrow' hrowb hcf
      refine wp_region_P (by kernel_rfl) ?_
      refine wpAny_of_E (fun X : World => ∀ p : Addr, p.block < W5.heap.size → X.cell? p = W5.cell? p) 9 _ _ _ _ ?_
      have hS : ∀ p : Addr, p.block < W5.heap.size → W5.drew.cell? p = W5.cell? p := fun _ _ => rfl
      refine wpAnyE_take (i := 0) (v := (.agg csj)) [8] rfl (by kernel_rfl) (fun _ _ _ h => h) (Or.inl ⟨by rfl, ?_⟩) hS ?_
      · intro wx hx
        exact run_load_at 27 (.tmp 10) rfl ⟨wr.heap.size, 0, none⟩ rfl csj _ (row_on hr5 hlt5 hx) Try.underlying27 rfl hsij
      try simp only [tl]
      refine wpAnyE_take (i := 1) (v := ?_) [8, 7, 6, 4, 3, 2] rfl (by kernel_rfl) (fun _ _ _ h => h) (Or.inl ⟨by rfl, ?_⟩) hS ?_
      rotate_left
      · intro wx hx
        clear hx
        go_simp
        with_reducible rfl
      try simp only [tl]
      refine wpAnyE_take (i := 2) (v := ?_) [8, 7, 6, 4, 3] rfl (by kernel_rfl) (fun _ _ _ h => h) (Or.inl ⟨by rfl, ?_⟩) hS ?_
      rotate_left
      · intro wx hx
        clear hx
        go_simp
        with_reducible rfl
      try simp only [tl]
      refine wpAnyE_take (i := 3) (v := ?_) [8, 7, 6, 4] rfl (by kernel_rfl) (fun _ _ _ h => h) (Or.inl ⟨by rfl, ?_⟩) hS ?_
      rotate_left
      · intro wx hx
        clear hx
        go_simp
        with_reducible rfl
      try simp only [tl]
      refine wpAnyE_take (i := 4) (v := ?_) [8, 7, 6] rfl (by kernel_rfl) (fun _ _ _ h => h) (Or.inl ⟨by rfl, ?_⟩) hS ?_
      rotate_left
      · intro wx hx
        have q0 := (hx ⟨fb, 29, none⟩ hfl6).trans hcf5
        clear hx
        go_simp
        with_reducible rfl
      try simp only [tl]
      refine wpAnyE_take (i := 5) (v := ?_) [8, 7, 6] rfl (by kernel_rfl) (fun _ _ _ h => h) (Or.inl ⟨by rfl, ?_⟩) hS ?_
      rotate_left
      · intro wx hx
        clear hx
        go_simp
        with_reducible rfl
      try simp only [tl]
      refine wpAnyE_take (i := 6) (v := (.pointer (some (Addr.add b (j * 8))))) [8, 7] rfl (by kernel_rfl) (fun _ _ _ h => h) (Or.inl ⟨by rfl, ?_⟩) hS ?_
      · intro wx hx
        exact run_index_at 25 (.tmp 50) (.tmp 51) rfl _ b _ _ rfl HB.out j rfl hjf 27 Try.underlying25 8 tm_size
      try simp only [tl]
      refine wpAnyE_take (i := 7) (v := (.agg csb)) [8] rfl (by kernel_rfl) (fun _ _ _ h => h) (Or.inl ⟨by rfl, ?_⟩) hS ?_
      · intro wx hx
        exact run_load_at 27 (.tmp 52) rfl (Addr.add b (j * 8)) rfl csb _ (row_on hrb5 (by rw [Addr_add_block]; exact hbl6) hx) Try.underlying27 rfl hsib
      try simp only [tl]
      refine wpAnyE_one (i := 8) (by kernel_rfl) (by kernel_rfl) rfl (by rfl) fun K hK => ?_
      go_simp
      refine (tSame_any ds[j] fdoms[j] csj csb D2 W5.drew hD6.drew HLJ5.out.drew HLB5.out.drew).mono ?_
      rintro e w7 ⟨rfl, hb7⟩
      have hu7 : Upd nob W5 w7 := ((Upd.refl nob W5).drew).trans (Upd.of_below hb7)
      refine hK _ _ (cells_of_upd hu7) ?_
      clear hK K
      try simp only [tl]
      refine wpAnyE_z (by kernel_rfl) rfl (by rfl) fun K hK => ?_
      go_simp
      refine hK _ _ ?_
      clear hK K
      try simp only [tl]
      refine wpAny_done (by kernel_rfl) ?_ _
      refine NoPanic.normal ?_
      have hu37 : Upd nob W3 w7 := hu.trans (hu5.trans hu7)
      cases hq : tSame ds[j] fdoms[j] with
      | true =>
       have hvd := HVD2.out
       rw [hq, Bool.true_and] at hvd
       have HVD3 := Lib.hid hvd
       clear hvd HVD2 hq
       go_wp2_with fail
       go_roundg (gk - 1)
       case measure => omega
       case rel => exact ⟨j + 1, by omega, by go_num, HVD3.out, hu37⟩
      | false =>
       have hvd := HVD2.out
       rw [hq, Bool.false_and] at hvd
       have hx := HX5.out
       rw [← hvd, if_pos rfl] at hx
       injection hx with hx1 hx3
       injection hx1 with hx1 hx2
       subst hx1 hx2 hx3
       have e1 := U1.out.upd hu37 (fun f => f)
       have r6 := (U2.out.upd hu37 (fun f => f)).rowAt
       have E1 := Lib.hid e1
       clear HX5 HVD2 hvd hq HV e1
       go_wp2_with (first
                     | ((with_reducible refine this_op (.load 50 (.tmp 6)) ?_); refine wpList_at rfl 50 (.tmp 6) rfl ⟨w.heap.size + 1 + 1, 0, none⟩ rfl _ _ r6 Try.underlying50 rfl cs_size ?_)
                     | ((with_reducible refine this_op (.store 50 (.tmp 4) (.tmp 56)) ?_); refine wpList_store_row rfl 50 (.tmp 4) (.tmp 56) rfl (w.heap.size + 1) _ rfl rfl 50 _ E1.out cs_size rfl (by simp [Value.oneCell']) ?_))
       refine bodyPost_ret (results_cell_tmp rfl _ _ (w.heap.size + 1) 50 #[.int .i64 0, .slice none 0 0] (0, 0) _ (.int .i64 14) rfl rfl (E1.out.row _) Try.underlying50 rfl cs_size) rfl ?_
       exact ⟨_, rfl, ⟨none, 0, rfl, fun j y h => by simp at h⟩, ((hu03.trans hu37).trans' ((Upd.refl (fun q => q = w.heap.size + 1) _).setRow (.inl rfl) _) (fun q hq h => by omega)).below⟩
    · have t2 : decide ((j : Int) < p) = false := by simp; omega
      have hjp : p = j := by omega
      subst hjp
      have hvd := HVD.out
      have h0 : (ds.take p).drop p = [] := List.drop_eq_nil_of_le (by rw [List.length_take]; omega)
      rw [h0] at hvd
      clear h0
      simp only [allSame] at hvd
      have hx := HX5.out
      rw [← hvd, if_neg (by decide)] at hx
      have HX6 := Lib.hid hx
      clear hx hvd HX5 HVD HV
      have hu0r := hu03.trans hu
      have hwrs := hu.size
      have hf5 := HF3.out.upd hu (fun f => f) (hD3.old hu) (fun _ h => h)
      have hl5 := HL3.out.old (hD3.old hu) (fun _ h => h)
      have r8 := (HB3.out.upd hu (fun f => f)).rowAt
      have hwn : IntKind.i64.wrap ((n : Int) - 1) = (n : Int) - 1 := IntWalk.i64_in _ (by omega)
      have HF5 := Lib.hid hf5
      have HL5 := Lib.hid hl5
      clear hf5 hl5
      go_wp2_with (first
                  | ((with_reducible refine this_op (.load 27 (.tmp 8)) ?_); refine wpList_at rfl 27 (.tmp 8) rfl ⟨w2.heap.size, 0, none⟩ rfl _ _ r8 Try.underlying27 rfl hsi2 ?_))
      refine (tends_any rs cs2 ((n : Int) - 1) D2 wr fb nm p idx itself fdoms hD5 HL5.out HF5.out (by omega) (by omega) (by omega) hi).mono ?_
      rintro e w6 ⟨rfl, hb6⟩
      have hu6 : Upd nob wr w6 := Upd.of_below hb6
      have hw6s := hu6.size
      have hx := HX6.out
      obtain ⟨⟨E1, E2⟩, hE⟩ : ∃ x, tends nm p idx itself rs ((n : Int) - 1) = x := ⟨_, rfl⟩
      rw [hE] at hx ⊢
      simp only at hx ⊢
      have hu06 := hu0r.trans hu6
      have e1 := U1.out.upd (hu.trans hu6) (fun f => f)
      have e2 := U2.out.upd (hu.trans hu6) (fun f => f)
      have E1b := Lib.hid e1
      have r6 := e2.rowAt
      clear e1 r8 hE HX6
      cases E1 with
      | false =>
       rw [if_pos rfl] at hx
       injection hx with hx1 hx3
       injection hx1 with hx1 hx2
       subst hx1 hx2 hx3
       clear e2
       go_wp2_with (first
                     | ((with_reducible refine this_op (.load 50 (.tmp 6)) ?_); refine wpList_at rfl 50 (.tmp 6) rfl ⟨w.heap.size + 1 + 1, 0, none⟩ rfl _ _ r6 Try.underlying50 rfl cs_size ?_)
                     | ((with_reducible refine this_op (.store 50 (.tmp 4) (.tmp 70)) ?_); refine wpList_store_row rfl 50 (.tmp 4) (.tmp 70) rfl (w.heap.size + 1) _ rfl rfl 50 _ E1b.out cs_size rfl (by simp [Value.oneCell']) ?_))
       refine bodyPost_ret (results_cell_tmp rfl _ _ (w.heap.size + 1) 50 #[.int .i64 0, .slice none 0 0] (0, 0) _ (.int .i64 14) rfl rfl (E1b.out.row _) Try.underlying50 rfl cs_size) rfl ?_
       exact ⟨_, rfl, ⟨none, 0, rfl, fun j y h => by simp at h⟩, ((hu06).trans' ((Upd.refl (fun q => q = w.heap.size + 1) _).setRow (.inl rfl) _) (fun q hq h => by omega)).below⟩
      | true =>
       rw [if_neg (by decide)] at hx
       cases E2 with
       | true =>
        rw [if_pos rfl] at hx
        injection hx with hx1 hx3
        injection hx1 with hx1 hx2
        subst hx1 hx2 hx3
        clear e2
        go_wp2_with (first
                        | ((with_reducible refine this_op (.load 50 (.tmp 6)) ?_); refine wpList_at rfl 50 (.tmp 6) rfl ⟨w.heap.size + 1 + 1, 0, none⟩ rfl _ _ r6 Try.underlying50 rfl cs_size ?_)
                        | ((with_reducible refine this_op (.store 50 (.tmp 4) (.tmp 73)) ?_); refine wpList_store_row rfl 50 (.tmp 4) (.tmp 73) rfl (w.heap.size + 1) _ rfl rfl 50 _ E1b.out cs_size rfl (by simp [Value.oneCell']) ?_))
        refine bodyPost_ret (results_cell_tmp rfl _ _ (w.heap.size + 1) 50 #[.int .i64 0, .slice none 0 0] (0, 0) _ (.int .i64 15) rfl rfl (E1b.out.row _) Try.underlying50 rfl cs_size) rfl ?_
        exact ⟨_, rfl, ⟨none, 0, rfl, fun j y h => by simp at h⟩, ((hu06).trans' ((Upd.refl (fun q => q = w.heap.size + 1) _).setRow (.inl rfl) _) (fun q hq h => by omega)).below⟩
       | false =>
        rw [if_neg (by decide)] at hx
        have hD7 := hD5.up hu6
        have hf6 := HF5.out.upd hu6 (fun f => f) (hD5.old hu6) (fun _ h => h)
        have hat6 := HAT3.out.old (hD3.old (hu.trans hu6)) (fun _ h => h)
        obtain ⟨A9, hA9⟩ : ∃ x, (if c = p then A else A.map (·.add (p * 8))) = x := ⟨_, rfl⟩
        obtain ⟨m, hm⟩ : ∃ m, n - p = m := ⟨_, rfl⟩
        obtain ⟨c9, hc9⟩ : ∃ m, c - p = m := ⟨_, rfl⟩
        obtain ⟨dp, hdp⟩ : ∃ l, ds.drop p = l := ⟨_, rfl⟩
        have hatd := hat6.drop p c (by rw [HN.out]; exact hlc)
        rw [hA9, hdp] at hatd
        rw [hdp] at hx
        have hml : dp.length = m := by rw [← hdp, List.length_drop, HN.out]; exact hm
        have HML := Lib.hid hml
        have hhd : ∀ a, a ∈ dp → a.height * 120 ≤ 140737488351232 := fun a h => HHT3.out a (List.mem_of_mem_drop (by rw [hdp]; exact h))
        have HHD := Lib.hid hhd
        have HA9 := Lib.hid hA9
        have HM := Lib.hid hm
        have HC9 := Lib.hid hc9
        have hmn : m ≤ n := by omega
        have HX7 := Lib.hid hx
        have HATD := Lib.hid hatd
        have g19 : w6.cell? ⟨fb, 19, none⟩ = some (.int .i64 p) := hf6.par
        have HF6 := Lib.hid hf6
        have hfb6 := hf6.lt
        have HE2 := Lib.hid e2
        clear hx hatd hat6 hdp hm hc9 hA9 hml hhd hf6 HHT3 HAT3 HL5 HF5 HF3 HL3 e2 U1 U2 r6 HB3
        clear HK1 HK2
        go_wp2_with (first
                        | ((with_reducible refine this_op (.slice 25 (.tmp 74) (some (.tmp 79)) none none) ?_); refine wpList_run rfl (.slice A9 m c9) _ (by rw [← HA9.out, ← HM.out, ← HC9.out]; exact run_slice_l8 25 _ _ rfl A n c rfl p rfl hpn und_tms 8 sz_tms) ?_))
        go_loopg [82] m (fun k v wr => ∃ (j : Nat) (sl : List (Int × Int)) (sv : Value), j + k = m ∧ v = .int .i64 j ∧ Blk wr (w.heap.size + 1 + 1) 50 #[.int .i64 j, sv] ∧ Coll fdR nob w6.heap.size 52 wr sv sl ∧ sl.length ≤ j ∧
         ctorF nm p idx itself j sl (dp.drop j) = ((X1, X2), X3) ∧ Upd (fun q => q = w.heap.size + 1 + 1) w6 wr)
        case atStart => exact ⟨0, [], .slice none 0 0, by omega, rfl, HE2.out, Coll.nil_, Nat.le_refl _, by rw [List.drop_zero]; exact HX7.out, Upd.refl _ _⟩
        case round =>
         clear g19 HX7 HE2
         obtain ⟨j, sl, sv, hj, rfl, hc2, hco, hsl, hcf, hus⟩ := hrel
         have hD8 : Within D2 wr := hD7.up hus
         have hws := hus.size
         have hDo : Old D2 w6 wr := Old.of_upd hus fun q hq => ⟨fun h => (hDn q hq).2 h, hD7 q hq⟩
         have hf8 := HF6.out.upd hus (fun h => by omega) hDo (fun _ h => h)
         obtain ⟨sA, sc, hsv, hscp⟩ := hco.form
         subst hsv
         have HC2 := Lib.hid hc2
         have HCO := Lib.hid hco
         have HCF := Lib.hid hcf
         have HF8 := Lib.hid hf8
         clear hc2 hco hcf hf8
         by_cases hlt : j < m
         · have t2 : decide ((j : Int) < m) = true := by simp [hlt]
           have hjn : j < dp.length := by rw [HML.out]; exact hlt
           obtain ⟨a, csj, hA, hab, hrow, hlj⟩ := HATD.out.at_ (List.getElem?_eq_getElem hjn)
           rw [Nat.zero_add] at hrow
           have hrow' := hrow.old hDo (by rw [Addr_add_block]; exact hab)
           have hlj' := hlj.old hDo (fun _ h => h)
           have hsj := hlj.oneCell
           have hsij : (Try.prog.info? 27).map (·.size) = some csj.size := by rw [hsj.1]; exact tm_size
           have hmem : dp[j] ∈ dp := List.getElem_mem hjn
           have hhj := HHD.out _ hmem
           have hdr : dp.drop j = dp[j] :: dp.drop (j + 1) := List.drop_eq_getElem_cons hjn
           have hcf := HCF.out
           rw [hdr, ctorF] at hcf
           obtain ⟨x, hx⟩ : ∃ x, dp[j] = x := ⟨_, rfl⟩
           rw [hx] at hcf hlj' hhj
           have HCF2 := Lib.hid hcf
           have HA := Lib.hid hA
           have HLJ := Lib.hid hlj'
           have hj1 : IntKind.i64.wrap ((j : Int) + 1) = (j : Int) + 1 := IntWalk.i64_in _ (by omega)
           clear hA hcf hdr HCF hrow hlj hlj' hx hmem
           go_wp2_with (first
                               | ((with_reducible refine this_op (.indexAddr 25 (.tmp 80) (.tmp 82)) ?_); refine wpList_index_at rfl 25 (.tmp 80) (.tmp 82) rfl _ a _ _ rfl HA.out j rfl hlt 27 Try.underlying25 8 tm_size ?_)
                               | ((with_reducible refine this_op (.load 27 (.tmp 85)) ?_); refine wpList_at rfl 27 (.tmp 85) rfl (a.add (j * 8)) rfl _ _ hrow' Try.underlying27 rfl hsij ?_)
                               | ((with_reducible refine this_op (.store 27 (.tmp 14) (.tmp 86)) ?_); refine wpList_store_row rfl 27 (.tmp 14) (.tmp 86) rfl wr.heap.size _ rfl rfl 27 _ (Blk.new wr _ _) hsij (by rw [hsj.1]; rfl) hsj.2 ?_
                                  obtain ⟨W7, hW7⟩ : ∃ W7, (wr.alloc (.cells #[.int .i64 0, .int .i64 0, .string ByteArray.empty, .int .i64 0, .int .i64 0, .slice none 0 0, .slice none 0 0, .slice none 0 0] 27)).setRow wr.heap.size csj = W7 := ⟨_, rfl⟩
                                  have hu7 : Upd nob wr W7 := by rw [← hW7]; exact ((Upd.refl nob wr).alloc _).setRow (.inr (Nat.le_refl _)) _
                                  have hb7 : Blk W7 wr.heap.size 27 csj := by rw [← hW7]; exact (Blk.new wr _ _).row _
                                  rw [hW7]
                                  clear hW7
                                  have hc7 := HC2.out.upd hu7 (fun f => f)
                                  have g0 : W7.cell? ⟨w.heap.size + 1 + 1, 0, none⟩ = some (.int .i64 j) := hc7.cell 0
                                  have fz0 := hc7.frozen 0
                                  have HB7 := Lib.hid hb7
                                  have HC7 := Lib.hid hc7
                                  clear hb7 hc7))
           obtain ⟨w8, hw8⟩ : ∃ w8, W7.setCell ⟨w.heap.size + 1 + 1, 0, none⟩ (.int .i64 ((j : Int) + 1)) = w8 := ⟨_, rfl⟩
           have hu8 : Upd (fun q => q = w.heap.size + 1 + 1) W7 w8 := by rw [← hw8]; exact (Upd.refl (fun q => q = w.heap.size + 1 + 1) W7).setCell (p := ⟨w.heap.size + 1 + 1, 0, none⟩) (.inl rfl) _
           have hc8 : Blk w8 (w.heap.size + 1 + 1) 50 #[.int .i64 ((j : Int) + 1), .slice sA sl.length sc] := by rw [← hw8]; exact HC7.out.set 0 _
           rw [hw8]
           clear hw8
           have HC8 := Lib.hid hc8
           have hur8 : Upd (fun q => q = w.heap.size + 1 + 1) wr w8 := (hu7.mono (fun _ f => f.elim)).trans hu8
           have hw8s := hur8.size
           have hb8 := HB7.out.upd hu8 (fun h => by omega)
           have hr8 := hb8.rowAt
           have hlt8 := hb8.lt
           have HB8 := Lib.hid hb8
           have hDo8 : Old D2 wr w8 := Old.of_upd hur8 fun q hq => ⟨fun h => (hDn q hq).2 h, hD8 q hq⟩
           have hlj8 := HLJ.out.old hDo8 (fun _ h => h)
           have hf9 := HF8.out.upd hur8 (fun h => by omega) hDo8 (fun _ h => h)
           have hD9 : Within D2 w8 := hD8.up hur8
           have hfl9 := hf9.lt
           have g1 : w8.cell? ⟨fb, 1, none⟩ = some (.string nm) := hf9.nm_
           have HF9 := Lib.hid hf9
           have HLJ8 := Lib.hid hlj8
           have hco8 := HCO.out.upd hur8 (fun q hq => ⟨by omega, fun f => f⟩) (fun q f => f.elim)
           have HCO8 := Lib.hid hco8
           clear hc8 hlj8 hf9 HLJ HF8 HC2 HC7 HB7 hb8 hco8 hrow' HCO
           have hus8 : Upd (fun q => q = w.heap.size + 1 + 1) w6 w8 := hus.trans hur8
           refine wp_region_P (by kernel_rfl) ?_
           refine wpAny_of_E (fun X : World => ∀ p : Addr, p.block < w8.heap.size → X.cell? p = w8.cell? p) 7 _ _ _ _ ?_
           have hS : ∀ p : Addr, p.block < w8.heap.size → w8.drew.cell? p = w8.cell? p := fun _ _ => rfl
           refine wpAnyE_take (i := 0) (v := (.agg csj)) [6] rfl (by kernel_rfl) (fun _ _ _ h => h) (Or.inl ⟨by rfl, ?_⟩) hS ?_
           · intro wx hx
             exact run_load_at 27 (.tmp 14) rfl ⟨wr.heap.size, 0, none⟩ rfl csj _ (row_on hr8 hlt8 hx) Try.underlying27 rfl hsij
           try simp only [tl]
           refine wpAnyE_take (i := 1) (v := ?_) [6, 5, 4, 3, 2] rfl (by kernel_rfl) (fun _ _ _ h => h) (Or.inl ⟨by rfl, ?_⟩) hS ?_
           rotate_left
           · intro wx hx
             clear hx
             go_simp
             with_reducible rfl
           try simp only [tl]
           refine wpAnyE_take (i := 2) (v := ?_) [6, 5, 4, 3] rfl (by kernel_rfl) (fun _ _ _ h => h) (Or.inl ⟨by rfl, ?_⟩) hS ?_
           rotate_left
           · intro wx hx
             clear hx
             go_simp
             with_reducible rfl
           try simp only [tl]
           refine wpAnyE_take (i := 3) (v := ?_) [6, 5, 4] rfl (by kernel_rfl) (fun _ _ _ h => h) (Or.inl ⟨by rfl, ?_⟩) hS ?_
           rotate_left
           · intro wx hx
             clear hx
             go_simp
             with_reducible rfl
           try simp only [tl]
           refine wpAnyE_take (i := 4) (v := ?_) [6, 5] rfl (by kernel_rfl) (fun _ _ _ h => h) (Or.inl ⟨by rfl, ?_⟩) hS ?_
           rotate_left
           · intro wx hx
             clear hx
             go_simp
             with_reducible rfl
           try simp only [tl]
           refine wpAnyE_take (i := 5) (v := ?_) [6] rfl (by kernel_rfl) (fun _ _ _ h => h) (Or.inl ⟨by rfl, ?_⟩) hS ?_
           rotate_left
           · intro wx hx
             have q0 := (hx ⟨fb, 1, none⟩ hfl9).trans g1
             clear hx
             go_simp
             with_reducible rfl
           try simp only [tl]
           refine wpAnyE_one (i := 6) (by kernel_rfl) (by kernel_rfl) rfl (by rfl) fun K hK => ?_
           go_simp
           refine (tment_any x nm csj D2 w8.drew hD9.drew HLJ8.out.drew).mono ?_
           rintro e w10 ⟨rfl, hb10⟩
           have hu10 : Upd nob w8 w10 := ((Upd.refl nob w8).drew).trans (Upd.of_below hb10)
           refine hK _ _ (cells_of_upd hu10) ?_
           clear hK K
           try simp only [tl]
           refine wpAnyE_z (by kernel_rfl) rfl (by rfl) fun K hK => ?_
           go_simp
           refine hK _ _ ?_
           clear hK K
           try simp only [tl]
           refine wpAny_done (by kernel_rfl) ?_ _
           refine NoPanic.normal ?_
           have hus10 : Upd (fun q => q = w.heap.size + 1 + 1) w6 w10 := hus8.trans (hu10.mono (fun _ f => f.elim))
           have hw10s := hu10.size
           have hc10 := HC8.out.upd hu10 (fun f => f)
           have hco10 := HCO8.out.upd hu10 (fun _ f => f.elim) (fun q f => f.elim)
           cases hq : tment x nm with
           | false =>
            have hcf := HCF2.out
            rw [hq, if_neg (by decide)] at hcf
            have HCF3 := Lib.hid hcf
            have HC10 := Lib.hid hc10
            have HCO10 := Lib.hid hco10
            clear hcf HCF2 hq hc10 hco10 HC8 HCO8
            go_wp2_with fail
            go_roundg (gk - 1)
            case measure => omega
            case rel => exact ⟨j + 1, sl, .slice sA sl.length sc, by omega, by go_num, HC10.out, HCO10.out, by omega, HCF3.out, hus10⟩
           | true =>
            have hcf := HCF2.out
            rw [hq, if_pos rfl] at hcf
            have HCF3 := Lib.hid hcf
            have HC10 := Lib.hid hc10
            have HCO10 := Lib.hid hco10
            have hlx10 := HLJ8.out.old (hD9.old hu10) (fun _ h => h)
            have hD10 := hD9.up hu10
            have hf10 := HF9.out.upd hu10 (fun f => f) (hD9.old hu10) (fun _ h => h)
            have HF10 := Lib.hid hf10
            have hr10 := (HB8.out.upd hu10 (fun f => f)).rowAt
            have hlx := trow_le x
            clear hcf HCF2 hq hc10 hco10 HC8 HCO8 hf10 HF9 HLJ8
            go_wp2_with (first
                                  | ((with_reducible refine this_op (.load 27 (.tmp 14)) ?_); refine wpList_at rfl 27 (.tmp 14) rfl ⟨wr.heap.size, 0, none⟩ rfl _ _ hr10 Try.underlying27 rfl hsij ?_))
            refine (trow_any x csj D2 w10 hD10 hlx10 (by omega)).mono ?_
            rintro e w11 ⟨cs3, A3, c3, rfl, hl3, hlc3, hat3, hb11⟩
            have hu11 : Upd nob w10 w11 := Upd.of_below hb11
            have hw11s := hu11.size
            have hcf := HCF3.out
            obtain ⟨⟨os, rs3⟩, hsp⟩ : ∃ y, trow x = y := ⟨_, rfl⟩
            rw [hsp] at hcf hl3 hlc3 hat3 hlx ⊢
            simp only at hcf hl3 hlc3 hat3 hlx ⊢
            obtain ⟨no, hno⟩ : ∃ y, os.length = y := ⟨_, rfl⟩
            rw [hno] at hcf hlc3 hlx ⊢
            have HNO := Lib.hid hno
            have hs3 := hl3.oneCell
            have hsi3 : (Try.prog.info? 27).map (·.size) = some cs3.size := by rw [hs3.1]; exact tm_size
            have HCF4 := Lib.hid hcf
            have HL3b := Lib.hid hl3
            have HAT3b := Lib.hid hat3
            have hf11 := HF10.out.upd hu11 (fun f => f) (hD10.old hu11) (D' := grow D2 w10 w11) (fun _ h => .inl h)
            have HF11 := Lib.hid hf11
            have hD11 : Within (grow D2 w10 w11) w11 := fun q hq => hq.elim (fun h => hD10.up hu11 q h) (fun h => h.2)
            generalize grow D2 w10 w11 = D3 at *
            clear hcf hsp hno hl3 hat3 hf11 HF10 hr10 HCF3 hlx10
            have hwa : IntKind.i64.wrap ((p : Int) + (j : Int)) = (p : Int) + (j : Int) := IntWalk.i64_in _ (by omega)
            have hwb : IntKind.i64.wrap ((p : Int) + (j : Int) + (no : Int)) = (p : Int) + (j : Int) + (no : Int) := IntWalk.i64_in _ (by omega)
            have hwc : IntKind.i64.wrap ((p : Int) + (j : Int) + (no : Int) - 1) = (p : Int) + (j : Int) + (no : Int) - 1 := IntWalk.i64_in _ (by omega)
            go_wp2_with (first
                                  | ((with_reducible refine this_op (.store 27 (.tmp 16) (.tmp 103)) ?_); refine wpList_store_row rfl 27 (.tmp 16) (.tmp 103) rfl w11.heap.size _ rfl rfl 27 _ (Blk.new w11 _ _) hsi3 (by rw [hs3.1]; rfl) hs3.2 ?_))
            obtain ⟨W12, hW12⟩ : ∃ W12, (w11.alloc (.cells #[.int .i64 0, .int .i64 0, .string ByteArray.empty, .int .i64 0, .int .i64 0, .slice none 0 0, .slice none 0 0, .slice none 0 0] 27)).setRow w11.heap.size cs3 = W12 := ⟨_, rfl⟩
            have hu12 : Upd nob w11 W12 := by rw [← hW12]; exact ((Upd.refl nob w11).alloc _).setRow (.inr (Nat.le_refl _)) _
            have hb12 : Blk W12 w11.heap.size 27 cs3 := by rw [← hW12]; exact (Blk.new w11 _ _).row _
            rw [hW12]
            clear hW12
            have hr12 := hb12.rowAt
            have hlt12 := hb12.lt
            have hf12 := HF11.out.upd hu12 (fun f => f) (hD11.old hu12) (fun _ h => h)
            have hD12 := hD11.up hu12
            have hl12 := HL3b.out.old (hD11.old hu12) (fun _ h => h)
            have hat12 := HAT3b.out.old (hD11.old hu12) (fun _ h => h)
            have hfl12 := hf12.lt
            have g19 : W12.cell? ⟨fb, 19, none⟩ = some (.int .i64 p) := hf12.par
            have HF12 := Lib.hid hf12
            have HL12 := Lib.hid hl12
            have HAT12 := Lib.hid hat12
            clear hf12 hl12 hat12 HF11 HL3b HAT3b hb12
            obtain ⟨⟨F1, F2⟩, hF⟩ : ∃ y, tends nm p idx itself rs3 ((p : Int) + (j : Int) + (no : Int) - 1) = y := ⟨_, rfl⟩
            have hcf := HCF4.out
            rw [hF] at hcf
            simp only at hcf
            obtain ⟨M, hM⟩ : ∃ y, (os.any fun t => tment t nm) = y := ⟨_, rfl⟩
            rw [hM] at hcf
            have HFx := Lib.hid hF
            have HMx := Lib.hid hM
            have HCF5 := Lib.hid hcf
            clear hF hM hcf HCF4
            refine wp_region_P (by kernel_rfl) ?_
            refine wpAny_of_E (fun X : World => ∀ p : Addr, p.block < W12.heap.size → X.cell? p = W12.cell? p) 18 _ _ _ _ ?_
            have hS : ∀ p : Addr, p.block < W12.heap.size → W12.drew.cell? p = W12.cell? p := fun _ _ => rfl
            refine wpAnyE_take (i := 0) (v := ?_) [] rfl (by kernel_rfl) (fun _ _ _ h => h) (Or.inl ⟨by rfl, ?_⟩) hS ?_
            rotate_left
            · intro wx hx
              clear hx
              go_simp
              with_reducible rfl
            try simp only [tl]
            refine wpAnyE_take (i := 1) (v := (.agg cs3)) [] rfl (by kernel_rfl) (fun _ _ _ h => h) (Or.inl ⟨by rfl, ?_⟩) hS ?_
            · intro wx hx
              exact run_load_at 27 (.tmp 16) rfl ⟨w11.heap.size, 0, none⟩ rfl cs3 _ (row_on hr12 hlt12 hx) Try.underlying27 rfl hsi3
            try simp only [tl]
            refine wpAnyE_take (i := 2) (v := ?_) [] rfl (by kernel_rfl) (fun _ _ _ h => h) (Or.inl ⟨by rfl, ?_⟩) hS ?_
            rotate_left
            · intro wx hx
              clear hx
              go_simp
              with_reducible rfl
            try simp only [tl]
            refine wpAnyE_take (i := 3) (v := ?_) [] rfl (by kernel_rfl) (fun _ _ _ h => h) (Or.inl ⟨by rfl, ?_⟩) hS ?_
            rotate_left
            · intro wx hx
              clear hx
              go_simp
              with_reducible rfl
            try simp only [tl]
            refine wpAnyE_take (i := 4) (v := ?_) [] rfl (by kernel_rfl) (fun _ _ _ h => h) (Or.inl ⟨by rfl, ?_⟩) hS ?_
            rotate_left
            · intro wx hx
              clear hx
              go_simp
              with_reducible rfl
            try simp only [tl]
            refine wpAnyE_take (i := 5) (v := ?_) [] rfl (by kernel_rfl) (fun _ _ _ h => h) (Or.inl ⟨by rfl, ?_⟩) hS ?_
            rotate_left
            · intro wx hx
              clear hx
              go_simp
              with_reducible rfl
            try simp only [tl]
            refine wpAnyE_take (i := 6) (v := ?_) [] rfl (by kernel_rfl) (fun _ _ _ h => h) (Or.inl ⟨by rfl, ?_⟩) hS ?_
            rotate_left
            · intro wx hx
              have q0 := (hx ⟨fb, 19, none⟩ hfl12).trans g19
              clear hx
              go_simp
              with_reducible rfl
            try simp only [tl]
            refine wpAnyE_take (i := 7) (v := ?_) [] rfl (by kernel_rfl) (fun _ _ _ h => h) (Or.inl ⟨by rfl, ?_⟩) hS ?_
            rotate_left
            · intro wx hx
              clear hx
              go_simp
              with_reducible rfl
            try simp only [tl]
            refine wpAnyE_take (i := 8) (v := ?_) [] rfl (by kernel_rfl) (fun _ _ _ h => h) (Or.inl ⟨by rfl, ?_⟩) hS ?_
            rotate_left
            · intro wx hx
              clear hx
              go_simp
              with_reducible rfl
            try simp only [tl]
            refine wpAnyE_take (i := 9) (v := ?_) [] rfl (by kernel_rfl) (fun _ _ _ h => h) (Or.inl ⟨by rfl, ?_⟩) hS ?_
            rotate_left
            · intro wx hx
              clear hx
              go_simp
              with_reducible rfl
            try simp only [tl]
            refine wpAnyE_take (i := 10) (v := ?_) [] rfl (by kernel_rfl) (fun _ _ _ h => h) (Or.inl ⟨by rfl, ?_⟩) hS ?_
            rotate_left
            · intro wx hx
              clear hx
              go_simp
              with_reducible rfl
            try simp only [tl]
            refine wpAnyE_take (i := 11) (v := ?_) [] rfl (by kernel_rfl) (fun _ _ _ h => h) (Or.inl ⟨by rfl, ?_⟩) hS ?_
            rotate_left
            · intro wx hx
              clear hx
              go_simp
              with_reducible rfl
            try simp only [tl]
            refine wpAnyE_take (i := 12) (v := ?_) [] rfl (by kernel_rfl) (fun _ _ _ h => h) (Or.inl ⟨by rfl, ?_⟩) hS ?_
            rotate_left
            · intro wx hx
              clear hx
              go_simp
              with_reducible rfl
            try simp only [tl]
            refine wpAnyE_one (i := 13) (by kernel_rfl) (by kernel_rfl) rfl (by rfl) fun K hK => ?_
            go_simp
            refine (tends_any rs3 cs3 ((p : Int) + (j : Int) + (no : Int) - 1) D3 W12.drew fb nm p idx itself fdoms hD12.drew HL12.out.drew (HF12.out.upd ((Upd.refl nob W12).drew) (fun f => f) (fun _ _ => rfl) (fun _ h => h)) (by omega) (by omega) (by omega) hi).mono ?_
            rintro e w13 ⟨rfl, hb13⟩
            rw [HFx.out]
            have hu13 : Upd nob W12 w13 := ((Upd.refl nob W12).drew).trans (Upd.of_below hb13)
            refine hK _ _ (cells_of_upd hu13) ?_
            clear hK K
            try simp only [tl]
            have hS : ∀ p : Addr, p.block < W12.heap.size → w13.cell? p = W12.cell? p := cells_of_upd hu13
            refine wpAnyE_take (i := 14) (v := ?_) [] rfl (by kernel_rfl) (fun _ _ _ h => h) (Or.inl ⟨by rfl, ?_⟩) hS ?_
            rotate_left
            · intro wx hx
              clear hx
              go_simp
              with_reducible rfl
            try simp only [tl]
            refine wpAnyE_take (i := 15) (v := ?_) [] rfl (by kernel_rfl) (fun _ _ _ h => h) (Or.inl ⟨by rfl, ?_⟩) hS ?_
            rotate_left
            · intro wx hx
              clear hx
              go_simp
              with_reducible rfl
            try simp only [tl]
            refine wpAnyE_take (i := 16) (v := ?_) [] rfl (by kernel_rfl) (fun _ _ _ h => h) (Or.inl ⟨by rfl, ?_⟩) hS ?_
            rotate_left
            · intro wx hx
              clear hx
              go_simp
              with_reducible rfl
            try simp only [tl]
            refine wpAnyE_take (i := 17) (v := ?_) [] rfl (by kernel_rfl) (fun _ _ _ h => h) (Or.inl ⟨by rfl, ?_⟩) hS ?_
            rotate_left
            · intro wx hx
              clear hx
              go_simp
              with_reducible rfl
            try simp only [tl]
            refine wpAnyE_z (by kernel_rfl) rfl (by rfl) fun K hK => ?_
            go_simp
            refine hK _ _ ?_
            clear hK K
            try simp only [tl]
            refine wpAny_done (by kernel_rfl) ?_ _
            refine NoPanic.normal ?_
            go_wp2_with fail
            have hD13 := hD12.up hu13
            have hf13 := HF12.out.upd hu13 (fun f => f) (hD12.old hu13) (fun _ h => h)
            have hat13 := HAT12.out.old (hD12.old hu13) (fun _ h => h)
            have hfl13 := hf13.lt
            have hw12s := hu12.size
            have hw13s := hu13.size
            have g1 : w13.cell? ⟨fb, 1, none⟩ = some (.string nm) := hf13.nm_
            have HAT13 := Lib.hid hat13
            clear hat13 hf13 HF12 HL12 HAT12 g19
            have hu1013 : Upd nob w10 w13 := (hu11.trans hu12).trans hu13
            cases M with
            | true =>
             have hcf := HCF5.out
             rw [if_pos rfl] at hcf
             injection hcf with hx1 hx3
             injection hx1 with hx1 hx2
             subst hx1 hx2 hx3
             clear HCF5
             refine wp_region_P (by kernel_rfl) ?_
             refine wpAny_of_E (fun X : World => ∀ p : Addr, p.block < w13.heap.size → X.cell? p = w13.cell? p) 14 _ _ _ _ ?_
             have hS : ∀ p : Addr, p.block < w13.heap.size → w13.drew.cell? p = w13.cell? p := fun _ _ => rfl
             refine wpAnyE_take (i := 0) (v := ?_) [12, 8, 7, 1] rfl (by kernel_rfl) (fun _ _ _ h => h) (Or.inl ⟨by rfl, ?_⟩) hS ?_
             rotate_left
             · intro wx hx
               clear hx
               go_simp
               with_reducible rfl
             try simp only [tl]
             refine wpAnyE_take (i := 2) (v := ?_) [12, 8, 7, 6, 5, 4, 3] rfl (by kernel_rfl) (fun _ _ _ h => h) (Or.inl ⟨by rfl, ?_⟩) hS ?_
             rotate_left
             · intro wx hx
               clear hx
               go_simp
               with_reducible rfl
             try simp only [tl]
             refine wpAnyE_take (i := 3) (v := ?_) [12, 8, 7, 6, 5, 4] rfl (by kernel_rfl) (fun _ _ _ h => h) (Or.inl ⟨by rfl, ?_⟩) hS ?_
             rotate_left
             · intro wx hx
               clear hx
               go_simp
               with_reducible rfl
             try simp only [tl]
             refine wpAnyE_take (i := 4) (v := ?_) [12, 8, 7, 6, 5] rfl (by kernel_rfl) (fun _ _ _ h => h) (Or.inl ⟨by rfl, ?_⟩) hS ?_
             rotate_left
             · intro wx hx
               clear hx
               go_simp
               with_reducible rfl
             try simp only [tl]
             refine wpAnyE_take (i := 5) (v := ?_) [12, 8, 7, 6] rfl (by kernel_rfl) (fun _ _ _ h => h) (Or.inl ⟨by rfl, ?_⟩) hS ?_
             rotate_left
             · intro wx hx
               clear hx
               go_simp
               with_reducible rfl
             try simp only [tl]
             refine wpAnyE_take (i := 6) (v := ?_) [12, 8, 7] rfl (by kernel_rfl) (fun _ _ _ h => h) (Or.inl ⟨by rfl, ?_⟩) hS ?_
             rotate_left
             · intro wx hx
               have q0 := (hx ⟨fb, 1, none⟩ hfl13).trans g1
               clear hx
               go_simp
               with_reducible rfl
             try simp only [tl]
             refine wpAnyE_one (i := 1) (by kernel_rfl) (by kernel_rfl) rfl (by rfl) fun K hK => ?_
             go_simp
             refine (tvals_any _ _ _ w13.drew).mono ?_
             rintro e w14 ⟨rfl, rfl⟩
             have hu14 : Upd nob w13 (w13.drew.alloc (.cells #[.slice A3 no c3] 25)) := ((Upd.refl nob w13).drew).alloc _
             refine hK _ _ (cells_of_upd hu14) ?_
             clear hK K
             try simp only [tl]
             refine wpAnyE_one (i := 7) (by kernel_rfl) (by kernel_rfl) rfl (by rfl) fun K hK => ?_
             go_simp
             refine (tments_any os nm A3 c3 w13.drew.heap.size D3 _ (hD13.up hu14) (by rw [HNO.out]; exact Blk.new w13.drew _ _) (by rw [HNO.out]; omega) (HAT13.out.old (hD13.old hu14) (fun _ h => h))).mono ?_
             rintro e w15 ⟨rfl, hb15⟩
             rw [HMx.out]
             have hu15 : Upd nob w13 w15 := hu14.trans (Upd.of_below hb15)
             refine hK _ _ (cells_of_upd hu15) ?_
             clear hK K
             try simp only [tl]
             have hS : ∀ p : Addr, p.block < w13.heap.size → w15.cell? p = w13.cell? p := cells_of_upd hu15
             refine wpAnyE_take (i := 8) (v := ?_) [12] rfl (by kernel_rfl) (fun _ _ _ h => h) (Or.inl ⟨by rfl, ?_⟩) hS ?_
             rotate_left
             · intro wx hx
               clear hx
               go_simp
               with_reducible rfl
             try simp only [tl]
             refine wpAnyE_take (i := 9) (v := undef) [12, 11, 10] rfl (by kernel_rfl) (fun _ _ _ h => h) (Or.inr ⟨by rfl, rfl⟩) hS ?_
             try simp only [tl]
             refine wpAnyE_take (i := 10) (v := undef) [12, 11] rfl (by kernel_rfl) (fun _ _ _ h => h) (Or.inr ⟨by rfl, rfl⟩) hS ?_
             try simp only [tl]
             refine wpAnyE_take (i := 11) (v := ?_) [12] rfl (by kernel_rfl) (fun _ _ _ h => h) (Or.inl ⟨by rfl, ?_⟩) hS ?_
             rotate_left
             · intro wx hx
               clear hx
               go_simp
               with_reducible rfl
             try simp only [tl]
             refine wpAnyE_take (i := 12) (v := ?_) [] rfl (by kernel_rfl) (fun _ _ _ h => h) (Or.inl ⟨by rfl, ?_⟩) hS ?_
             rotate_left
             · intro wx hx
               clear hx
               go_simp
               with_reducible rfl
             try simp only [tl]
             refine wpAnyE_take (i := 13) (v := undef) [] rfl (by kernel_rfl) (fun _ _ _ h => h) (Or.inr ⟨by rfl, rfl⟩) hS ?_
             try simp only [tl]
             refine wpAnyE_z (by kernel_rfl) rfl (by rfl) fun K hK => ?_
             go_simp
             refine hK _ _ ?_
             clear hK K
             try simp only [tl]
             refine wpAny_done (by kernel_rfl) ?_ _
             refine NoPanic.normal ?_
             have hus15 := hus10.trans ((hu1013.trans hu15).mono (fun _ f => f.elim))
             have e1 := E1b.out.upd hus15 (fun h => by omega)
             have hu015 := hu06.trans' hus15 (fun q hq h => by omega)
             go_wp2_with (first
                                     | ((with_reducible refine this_op (.store 50 (.tmp 4) (.tmp 136)) ?_); refine wpList_store_row rfl 50 (.tmp 4) (.tmp 136) rfl (w.heap.size + 1) _ rfl rfl 50 _ e1 cs_size rfl (by simp [Value.oneCell']) ?_))
             refine bodyPost_ret (results_cell_tmp rfl _ _ (w.heap.size + 1) 50 #[.int .i64 0, .slice none 0 0] (0, 0) _ (.int .i64 15) rfl rfl (e1.row _) Try.underlying50 rfl cs_size) rfl ?_
             exact ⟨_, rfl, ⟨none, 0, rfl, fun j y h => by simp at h⟩, ((hu015).trans' ((Upd.refl (fun q => q = w.heap.size + 1) _).setRow (.inl rfl) _) (fun q hq h => by omega)).below⟩
            | false =>
             have hcf := HCF5.out
             rw [if_neg (by decide)] at hcf
             cases F1 with
             | false =>
              rw [if_pos rfl] at hcf
              injection hcf with hx1 hx3
              injection hx1 with hx1 hx2
              subst hx1 hx2 hx3
              clear HCF5
              refine wp_region_P (by kernel_rfl) ?_
              refine wpAny_of_E (fun X : World => ∀ p : Addr, p.block < w13.heap.size → X.cell? p = w13.cell? p) 14 _ _ _ _ ?_
              have hS : ∀ p : Addr, p.block < w13.heap.size → w13.drew.cell? p = w13.cell? p := fun _ _ => rfl
              refine wpAnyE_take (i := 0) (v := ?_) [12, 8, 7, 1] rfl (by kernel_rfl) (fun _ _ _ h => h) (Or.inl ⟨by rfl, ?_⟩) hS ?_
              rotate_left
              · intro wx hx
                clear hx
                go_simp
                with_reducible rfl
              try simp only [tl]
              refine wpAnyE_take (i := 2) (v := ?_) [12, 8, 7, 6, 5, 4, 3] rfl (by kernel_rfl) (fun _ _ _ h => h) (Or.inl ⟨by rfl, ?_⟩) hS ?_
              rotate_left
              · intro wx hx
                clear hx
                go_simp
                with_reducible rfl
              try simp only [tl]
              refine wpAnyE_take (i := 3) (v := ?_) [12, 8, 7, 6, 5, 4] rfl (by kernel_rfl) (fun _ _ _ h => h) (Or.inl ⟨by rfl, ?_⟩) hS ?_
              rotate_left
              · intro wx hx
                clear hx
                go_simp
                with_reducible rfl
              try simp only [tl]
              refine wpAnyE_take (i := 4) (v := ?_) [12, 8, 7, 6, 5] rfl (by kernel_rfl) (fun _ _ _ h => h) (Or.inl ⟨by rfl, ?_⟩) hS ?_
              rotate_left
              · intro wx hx
                clear hx
                go_simp
                with_reducible rfl
              try simp only [tl]
              refine wpAnyE_take (i := 5) (v := ?_) [12, 8, 7, 6] rfl (by kernel_rfl) (fun _ _ _ h => h) (Or.inl ⟨by rfl, ?_⟩) hS ?_
              rotate_left
              · intro wx hx
                clear hx
                go_simp
                with_reducible rfl
              try simp only [tl]
              refine wpAnyE_take (i := 6) (v := ?_) [12, 8, 7] rfl (by kernel_rfl) (fun _ _ _ h => h) (Or.inl ⟨by rfl, ?_⟩) hS ?_
              rotate_left
              · intro wx hx
                have q0 := (hx ⟨fb, 1, none⟩ hfl13).trans g1
                clear hx
                go_simp
                with_reducible rfl
              try simp only [tl]
              refine wpAnyE_one (i := 1) (by kernel_rfl) (by kernel_rfl) rfl (by rfl) fun K hK => ?_
              go_simp
              refine (tvals_any _ _ _ w13.drew).mono ?_
              rintro e w14 ⟨rfl, rfl⟩
              have hu14 : Upd nob w13 (w13.drew.alloc (.cells #[.slice A3 no c3] 25)) := ((Upd.refl nob w13).drew).alloc _
              refine hK _ _ (cells_of_upd hu14) ?_
              clear hK K
              try simp only [tl]
              refine wpAnyE_one (i := 7) (by kernel_rfl) (by kernel_rfl) rfl (by rfl) fun K hK => ?_
              go_simp
              refine (tments_any os nm A3 c3 w13.drew.heap.size D3 _ (hD13.up hu14) (by rw [HNO.out]; exact Blk.new w13.drew _ _) (by rw [HNO.out]; omega) (HAT13.out.old (hD13.old hu14) (fun _ h => h))).mono ?_
              rintro e w15 ⟨rfl, hb15⟩
              rw [HMx.out]
              have hu15 : Upd nob w13 w15 := hu14.trans (Upd.of_below hb15)
              refine hK _ _ (cells_of_upd hu15) ?_
              clear hK K
              try simp only [tl]
              have hS : ∀ p : Addr, p.block < w13.heap.size → w15.cell? p = w13.cell? p := cells_of_upd hu15
              refine wpAnyE_take (i := 8) (v := ?_) [12] rfl (by kernel_rfl) (fun _ _ _ h => h) (Or.inl ⟨by rfl, ?_⟩) hS ?_
              rotate_left
              · intro wx hx
                clear hx
                go_simp
                with_reducible rfl
              try simp only [tl]
              refine wpAnyE_take (i := 9) (v := ?_) [12, 11, 10] rfl (by kernel_rfl) (fun _ _ _ h => h) (Or.inl ⟨by rfl, ?_⟩) hS ?_
              rotate_left
              · intro wx hx
                clear hx
                go_simp
                with_reducible rfl
              try simp only [tl]
              refine wpAnyE_take (i := 10) (v := ?_) [12, 11] rfl (by kernel_rfl) (fun _ _ _ h => h) (Or.inl ⟨by rfl, ?_⟩) hS ?_
              rotate_left
              · intro wx hx
                clear hx
                go_simp
                with_reducible rfl
              try simp only [tl]
              refine wpAnyE_take (i := 11) (v := ?_) [12] rfl (by kernel_rfl) (fun _ _ _ h => h) (Or.inl ⟨by rfl, ?_⟩) hS ?_
              rotate_left
              · intro wx hx
                clear hx
                go_simp
                with_reducible rfl
              try simp only [tl]
              refine wpAnyE_take (i := 12) (v := ?_) [] rfl (by kernel_rfl) (fun _ _ _ h => h) (Or.inl ⟨by rfl, ?_⟩) hS ?_
              rotate_left
              · intro wx hx
                clear hx
                go_simp
                with_reducible rfl
              try simp only [tl]
              refine wpAnyE_take (i := 13) (v := undef) [] rfl (by kernel_rfl) (fun _ _ _ h => h) (Or.inr ⟨by rfl, rfl⟩) hS ?_
              try simp only [tl]
              refine wpAnyE_z (by kernel_rfl) rfl (by rfl) fun K hK => ?_
              go_simp
              refine hK _ _ ?_
              clear hK K
              try simp only [tl]
              refine wpAny_done (by kernel_rfl) ?_ _
              refine NoPanic.normal ?_
              have hus15 := hus10.trans ((hu1013.trans hu15).mono (fun _ f => f.elim))
              have e1 := E1b.out.upd hus15 (fun h => by omega)
              have hu015 := hu06.trans' hus15 (fun q hq h => by omega)
              go_wp2_with (first
                                        | ((with_reducible refine this_op (.store 50 (.tmp 4) (.tmp 136)) ?_); refine wpList_store_row rfl 50 (.tmp 4) (.tmp 136) rfl (w.heap.size + 1) _ rfl rfl 50 _ e1 cs_size rfl (by simp [Value.oneCell']) ?_))
              refine bodyPost_ret (results_cell_tmp rfl _ _ (w.heap.size + 1) 50 #[.int .i64 0, .slice none 0 0] (0, 0) _ (.int .i64 15) rfl rfl (e1.row _) Try.underlying50 rfl cs_size) rfl ?_
              exact ⟨_, rfl, ⟨none, 0, rfl, fun j y h => by simp at h⟩, ((hu015).trans' ((Upd.refl (fun q => q = w.heap.size + 1) _).setRow (.inl rfl) _) (fun q hq h => by omega)).below⟩
             | true =>
              rw [if_neg (by decide)] at hcf
              have HCF6 := Lib.hid hcf
              clear hcf HCF5
              refine wp_region_P (by kernel_rfl) ?_
              refine wpAny_of_E (fun X : World => ∀ p : Addr, p.block < w13.heap.size → X.cell? p = w13.cell? p) 14 _ _ _ _ ?_
              have hS : ∀ p : Addr, p.block < w13.heap.size → w13.drew.cell? p = w13.cell? p := fun _ _ => rfl
              refine wpAnyE_take (i := 0) (v := ?_) [12, 8, 7, 1] rfl (by kernel_rfl) (fun _ _ _ h => h) (Or.inl ⟨by rfl, ?_⟩) hS ?_
              rotate_left
              · intro wx hx
                clear hx
                go_simp
                with_reducible rfl
              try simp only [tl]
              refine wpAnyE_take (i := 2) (v := ?_) [12, 8, 7, 6, 5, 4, 3] rfl (by kernel_rfl) (fun _ _ _ h => h) (Or.inl ⟨by rfl, ?_⟩) hS ?_
              rotate_left
              · intro wx hx
                clear hx
                go_simp
                with_reducible rfl
              try simp only [tl]
              refine wpAnyE_take (i := 3) (v := ?_) [12, 8, 7, 6, 5, 4] rfl (by kernel_rfl) (fun _ _ _ h => h) (Or.inl ⟨by rfl, ?_⟩) hS ?_
              rotate_left
              · intro wx hx
                clear hx
                go_simp
                with_reducible rfl
              try simp only [tl]
              refine wpAnyE_take (i := 4) (v := ?_) [12, 8, 7, 6, 5] rfl (by kernel_rfl) (fun _ _ _ h => h) (Or.inl ⟨by rfl, ?_⟩) hS ?_
              rotate_left
              · intro wx hx
                clear hx
                go_simp
                with_reducible rfl
              try simp only [tl]
              refine wpAnyE_take (i := 5) (v := ?_) [12, 8, 7, 6] rfl (by kernel_rfl) (fun _ _ _ h => h) (Or.inl ⟨by rfl, ?_⟩) hS ?_
              rotate_left
              · intro wx hx
                clear hx
                go_simp
                with_reducible rfl
              try simp only [tl]
              refine wpAnyE_take (i := 6) (v := ?_) [12, 8, 7] rfl (by kernel_rfl) (fun _ _ _ h => h) (Or.inl ⟨by rfl, ?_⟩) hS ?_
              rotate_left
              · intro wx hx
                have q0 := (hx ⟨fb, 1, none⟩ hfl13).trans g1
                clear hx
                go_simp
                with_reducible rfl
              try simp only [tl]
              refine wpAnyE_one (i := 1) (by kernel_rfl) (by kernel_rfl) rfl (by rfl) fun K hK => ?_
              go_simp
              refine (tvals_any _ _ _ w13.drew).mono ?_
              rintro e w14 ⟨rfl, rfl⟩
              have hu14 : Upd nob w13 (w13.drew.alloc (.cells #[.slice A3 no c3] 25)) := ((Upd.refl nob w13).drew).alloc _
              refine hK _ _ (cells_of_upd hu14) ?_
              clear hK K
              try simp only [tl]
              refine wpAnyE_one (i := 7) (by kernel_rfl) (by kernel_rfl) rfl (by rfl) fun K hK => ?_
              go_simp
              refine (tments_any os nm A3 c3 w13.drew.heap.size D3 _ (hD13.up hu14) (by rw [HNO.out]; exact Blk.new w13.drew _ _) (by rw [HNO.out]; omega) (HAT13.out.old (hD13.old hu14) (fun _ h => h))).mono ?_
              rintro e w15 ⟨rfl, hb15⟩
              rw [HMx.out]
              have hu15 : Upd nob w13 w15 := hu14.trans (Upd.of_below hb15)
              refine hK _ _ (cells_of_upd hu15) ?_
              clear hK K
              try simp only [tl]
              have hS : ∀ p : Addr, p.block < w13.heap.size → w15.cell? p = w13.cell? p := cells_of_upd hu15
              refine wpAnyE_take (i := 8) (v := ?_) [12] rfl (by kernel_rfl) (fun _ _ _ h => h) (Or.inl ⟨by rfl, ?_⟩) hS ?_
              rotate_left
              · intro wx hx
                clear hx
                go_simp
                with_reducible rfl
              try simp only [tl]
              refine wpAnyE_take (i := 9) (v := ?_) [12, 11, 10] rfl (by kernel_rfl) (fun _ _ _ h => h) (Or.inl ⟨by rfl, ?_⟩) hS ?_
              rotate_left
              · intro wx hx
                clear hx
                go_simp
                with_reducible rfl
              try simp only [tl]
              refine wpAnyE_take (i := 10) (v := ?_) [12, 11] rfl (by kernel_rfl) (fun _ _ _ h => h) (Or.inl ⟨by rfl, ?_⟩) hS ?_
              rotate_left
              · intro wx hx
                clear hx
                go_simp
                with_reducible rfl
              try simp only [tl]
              refine wpAnyE_take (i := 11) (v := ?_) [12] rfl (by kernel_rfl) (fun _ _ _ h => h) (Or.inl ⟨by rfl, ?_⟩) hS ?_
              rotate_left
              · intro wx hx
                clear hx
                go_simp
                with_reducible rfl
              try simp only [tl]
              refine wpAnyE_take (i := 12) (v := ?_) [] rfl (by kernel_rfl) (fun _ _ _ h => h) (Or.inl ⟨by rfl, ?_⟩) hS ?_
              rotate_left
              · intro wx hx
                clear hx
                go_simp
                with_reducible rfl
              try simp only [tl]
              refine wpAnyE_take (i := 13) (v := ?_) [] rfl (by kernel_rfl) (fun _ _ _ h => h) (Or.inl ⟨by rfl, ?_⟩) hS ?_
              rotate_left
              · intro wx hx
                clear hx
                go_simp
                with_reducible rfl
              try simp only [tl]
              refine wpAnyE_z (by kernel_rfl) rfl (by rfl) fun K hK => ?_
              go_simp
              refine hK _ _ ?_
              clear hK K
              try simp only [tl]
              refine wpAny_done (by kernel_rfl) ?_ _
              refine NoPanic.normal ?_
              have hus15 := hus10.trans ((hu1013.trans hu15).mono (fun _ f => f.elim))
              cases F2 with
              | true =>
               have hcf := HCF6.out
               rw [if_pos rfl] at hcf
               injection hcf with hx1 hx3
               injection hx1 with hx1 hx2
               subst hx1 hx2 hx3
               have e1 := E1b.out.upd hus15 (fun h => by omega)
               have hu015 := hu06.trans' hus15 (fun q hq h => by omega)
               clear HCF6
               go_wp2_with (first
                                           | ((with_reducible refine this_op (.store 50 (.tmp 4) (.tmp 136)) ?_); refine wpList_store_row rfl 50 (.tmp 4) (.tmp 136) rfl (w.heap.size + 1) _ rfl rfl 50 _ e1 cs_size rfl (by simp [Value.oneCell']) ?_))
               refine bodyPost_ret (results_cell_tmp rfl _ _ (w.heap.size + 1) 50 #[.int .i64 0, .slice none 0 0] (0, 0) _ (.int .i64 15) rfl rfl (e1.row _) Try.underlying50 rfl cs_size) rfl ?_
               exact ⟨_, rfl, ⟨none, 0, rfl, fun j y h => by simp at h⟩, ((hu015).trans' ((Upd.refl (fun q => q = w.heap.size + 1) _).setRow (.inl rfl) _) (fun q hq h => by omega)).below⟩
              | false =>
               have hcf := HCF6.out
               rw [if_neg (by decide)] at hcf
               have HCF7 := Lib.hid hcf
               have hw15s := hu15.size
               have hc15 := HC10.out.upd (hu1013.trans hu15) (fun f => f)
               have hco15 := HCO10.out.upd (hu1013.trans hu15) (fun _ f => f.elim) (fun q f => f.elim)
               have k1 : w15.cell? ⟨w.heap.size + 1 + 1, 1, none⟩ = some (.slice sA sl.length sc) := hc15.cell 1
               obtain ⟨W16, hW16⟩ : ∃ W16, w15.alloc (.cells #[.int .i64 j, .int .i64 no] 52) = W16 := ⟨_, rfl⟩
               have hu16 : Upd nob w15 W16 := by rw [← hW16]; exact (Upd.refl nob w15).alloc _
               have hb16 : Blk W16 w15.heap.size 52 #[.int .i64 j, .int .i64 no] := by rw [← hW16]; exact Blk.new _ _ _
               have hw16s := hu16.size
               have hco16 := hco15.upd hu16 (fun _ f => f.elim) (fun q f => f.elim)
               have hnO : ∀ q, (Value.slice sA sl.length sc).ownBlock = some q → w6.heap.size ≤ q := fun q h => (hco16.lt h).1
               have HW16 := Lib.hid hW16
               have HCO16 := Lib.hid hco16
               have HC15 := Lib.hid hc15
               clear hcf HCF6 hW16 hco15 hco16 hc15 HC10 HCO10
               go_wp2_with (first
                                           | ((with_reducible refine this_op (.buildSlice 48 1 #[(0, .tmp 142)]) ?_); refine wpList_build1 rfl 48 52 (.tmp 142) rfl _ 2 16 Try.underlying48 fd_info (by decide) (by decide) #[.int .i64 j, .int .i64 no] rfl rfl ?_
                                              rw [HW16.out])
                                           | (at_builtin; refine wpList_collect rfl (.tmp 138) (.tmp 143) 48 rfl _ 16 Try.underlying48 fd_info (by kernel_rfl) (by decide) rfl HCO16.out (fun x h => h.elim) w15.heap.size #[.int .i64 j, .int .i64 no] rfl hb16 ((j : Int), (no : Int)) nob rfl (fun x h => h.elim) sl.length rfl (by omega) (by omega) (by omega) ?_
                                              intro sA6 sc6 w17 hc17 hu17 hat17
                                              have hx17 := HC15.out.upd ((hu16.mono (fun _ f => f.elim)).trans hu17) (fun h => by have := hnO _ h; omega)
                                              have k2 : w17.cell? ⟨w.heap.size + 1 + 1, 1, none⟩ = some (.slice sA sl.length sc) := hx17.cell 1
                                              have fz1 := hx17.frozen 1
                                              have HX17 := Lib.hid hx17
                                              have HU17 := Lib.hid hu17
                                              have HCO17 := Lib.hid hc17
                                              clear hx17 hu17 hc17))
               go_roundg (gk - 1)
               case measure => omega
               case rel =>
                have hfin : Upd (fun q => q = w.heap.size + 1 + 1) w17 (w17.setCell ⟨w.heap.size + 1 + 1, 1, none⟩ (.slice sA6 (sl.length + 1) sc6)) := (Upd.refl (fun q => q = w.heap.size + 1 + 1) w17).setCell (p := ⟨w.heap.size + 1 + 1, 1, none⟩) (.inl rfl) _
                refine ⟨j + 1, sl ++ [((j : Int), (no : Int))], .slice sA6 (sl.length + 1) sc6, by omega, by go_num, HX17.out.set 1 _, HCO17.out.upd hfin (fun q hq => ⟨by omega, fun f => f⟩) (fun q f => f.elim), by simp; omega, HCF7.out, ?_⟩
                exact (hus15.trans' ((hu16.mono (fun _ f => f.elim)).trans HU17.out) (fun q hq h => by have := hnO q h; omega)).trans hfin
         · have t2 : decide ((j : Int) < m) = false := by simp; omega
           have hjm : m = j := by omega
           subst hjm
           have hcf := HCF.out
           rw [List.drop_eq_nil_of_le (by rw [HML.out]; exact Nat.le_refl _), ctorF] at hcf
           injection hcf with hx1 hx3
           injection hx1 with hx1 hx2
           subst hx1 hx2 hx3
           have r6 := HC2.out.rowAt
           have e1 := E1b.out.upd hus (fun h => by omega)
           have E1c := Lib.hid e1
           obtain ⟨sA9, sc9, hv9, _, hrows⟩ := HCO.out.row_at
           have HROWS := Lib.hid hrows
           injection hv9 with z1 z2 z3
           subst z1 z3
           clear HCF e1 E1b hrows
           go_wp2_with (first
                               | ((with_reducible refine this_op (.load 50 (.tmp 6)) ?_); refine wpList_at rfl 50 (.tmp 6) rfl ⟨w.heap.size + 1 + 1, 0, none⟩ rfl _ _ r6 Try.underlying50 rfl cs_size ?_)
                               | ((with_reducible refine this_op (.store 50 (.tmp 4) (.tmp 147)) ?_); refine wpList_store_row rfl 50 (.tmp 4) (.tmp 147) rfl (w.heap.size + 1) _ rfl rfl 50 _ E1c.out cs_size rfl (by simp [Value.oneCell']) ?_))
           refine bodyPost_ret (results_cell_tmp rfl _ _ (w.heap.size + 1) 50 #[.int .i64 (m : Int), .slice sA sl.length sc] (0, 0) _ (.int .i64 0) rfl rfl (E1c.out.row _) Try.underlying50 rfl cs_size) rfl ?_
           have hfin : Upd (fun q => q = w.heap.size + 1) wr (wr.setRow (w.heap.size + 1) #[.int .i64 (m : Int), .slice sA sl.length sc]) := (Upd.refl (fun q => q = w.heap.size + 1) wr).setRow (.inl rfl) _
           refine ⟨_, rfl, ⟨sA, sc, rfl, fun i y hy => ?_⟩, ((hu06.trans' hus (fun q hq h => by omega)).trans' hfin (fun q hq h => by omega)).below⟩
           obtain ⟨a, csy, g1, g2, g3, g4⟩ := HROWS.out i y hy
           have g5 : csy = #[.int .i64 y.1, .int .i64 y.2] := g4
           subst g5
           refine ⟨a, g1, ⟨by omega, by simp; omega⟩, fun q v hv => (hfin.cell (by rw [Addr_add_block, Addr_add_block]; exact g2.2) (by rw [Addr_add_block, Addr_add_block]; show a.block ≠ _; omega)).trans (g3 q v hv)⟩
end Go.Proofs.Ytiampoebdmflgaa
