/- Texts put one behind the other: Shof, Zend, Zrow. -/
import Derived.Test.YtiampoebdmflgaaShapeOf7
import Derived.Test.YtiampoebdmflgaaShapeOf6

/- shape.Of. -/
namespace Go.Proofs.Ytiampoebdmflgaa
open Go.RowKit
set_option linter.unusedVariables false
set_option maxRecDepth 100000
set_option maxHeartbeats 4000000
set_option linter.unusedSimpArgs false
abbrev CShape := Int × List (Int × Int)
abbrev TShape := Int × Lv × List CShape
def ofF (f : Tm → CShape × Int) : List (ByteArray × Tm) → List CShape → List CShape × Int
 | [], acc => (acc, 0)
 | c :: l, acc => if (f c.2).2 = 0 then ofF f l (acc ++ [(f c.2).1]) else ([], (f c.2).2)
def zshape : TShape := (0, .mk 0 0 [], [])
/-- shape.Of. -/
def tof (dk : Int) (nm : ByteArray) (vs pa : Int) (ty : Tm) (cts : List (ByteArray × Tm)) : TShape × Int :=
 if dk ≠ 3 ∨ pa < 0 ∨ vs < 0 ∨ 6 < vs then (zshape, 1)
 else if (trow ty).2.k ≠ 2 ∨ (((trow ty).1.length : Nat) : Int) < pa then (zshape, 14)
 else if (ofF (tctor nm pa.toNat ((trow ty).1.length - pa.toNat) (tself nm vs.toNat) (trow ty).1) cts []).2 = 0 then
  ((((trow ty).1.length : Int) - pa, lplus 0 (trow ty).2.lv, (ofF (tctor nm pa.toNat ((trow ty).1.length - pa.toNat) (tself nm vs.toNat) (trow ty).1) cts []).1), 0)
 else (zshape, (ofF (tctor nm pa.toNat ((trow ty).1.length - pa.toNat) (tself nm vs.toNat) (trow ty).1) cts []).2)
theorem tof_main {nm : ByteArray} {ty rs : Tm} {cts : List (ByteArray × Tm)} {ds : List Tm} {n p m idx : Nat} (h : trow ty = (ds, rs)) (hn : ds.length = n) (hk : rs.k = 2) (hm : m ≤ 6) (hi : n = p + idx) :
    tof 3 nm (m : Int) (p : Int) ty cts = (if (ofF (tctor nm p idx (tself nm m) ds) cts []).2 = 0 then (((n : Int) - p, lplus 0 rs.lv, (ofF (tctor nm p idx (tself nm m) ds) cts []).1), 0) else (zshape, (ofF (tctor nm p idx (tself nm m) ds) cts []).2)) := by
 have e1 : n - (p : Int).toNat = idx := by omega
 have e2 : (p : Int).toNat = p := by omega
 have e3 : (m : Int).toNat = m := by omega
 unfold tof
 rw [h, if_neg (by omega)]
 simp only
 rw [if_neg (by rw [hn]; omega), hn, e1, e2, e3]
theorem tof_14 {nm : ByteArray} {ty rs : Tm} {cts : List (ByteArray × Tm)} {ds : List Tm} {n p m : Nat} (h : trow ty = (ds, rs)) (hn : ds.length = n) (hm : m ≤ 6) (hr : ¬ (rs.k = 2 ∧ p ≤ n)) : tof 3 nm (m : Int) (p : Int) ty cts = (zshape, 14) := by
 unfold tof
 rw [h, if_neg (by omega)]
 simp only
 rw [if_pos (by rw [hn]; omega)]
def CtorsAt (D : Nat → Prop) (w : World) (cts : List (ByteArray × Tm)) (A : Option Addr) : Prop :=
 ∀ (j : Nat) x, cts[j]? = some x → ∃ a cs, A = some a ∧ D a.block ∧ rowAt w (a.add (j * 9)) (#[Value.string x.1] ++ cs) ∧ TmIs D w x.2 cs
theorem CtorsAt.old {D D' : Nat → Prop} {w w' : World} {cts : List (ByteArray × Tm)} {A : Option Addr} (h : CtorsAt D w cts A) (ho : Old D w w') (hD : ∀ k, D k → D' k) : CtorsAt D' w' cts A := fun j x hx => by
 obtain ⟨a, cs, h1, h2, h3, h4⟩ := h j x hx
 exact ⟨a, cs, h1, hD _ h2, h3.old ho (by rw [Addr_add_block]; exact h2), h4.old ho hD⟩
def ShIs (D : Nat → Prop) (w : World) (s : TShape) (cs : Array Value) : Prop :=
 ∃ (x y z : Value) (A : Option Addr) (c : Nat), cs = #[.int .i64 s.1, x, y, z, .slice A s.2.2.length c] ∧ LvIs D w s.2.1 #[x, y, z] ∧
  ∀ (j : Nat) y, s.2.2[j]? = some y → ∃ (a : Addr) (cs : Array Value), A = some a ∧ D a.block ∧ rowAt w (a.add (j * 2)) cs ∧ CsIs D w y cs
theorem CsIs.cells2 {D : Nat → Prop} {w : World} {x : CShape} {cs : Array Value} (h : CsIs D w x cs) : cs.size = 2 ∧ cs.all (·.oneCell') = true := csR.cells h
theorem zshape_is (D : Nat → Prop) (w : World) : ShIs D w zshape #[.int .i64 0, .int .i64 0, .int .i64 0, .slice none 0 0, .slice none 0 0] := ⟨_, _, _, none, 0, rfl, lzero_is _ _, fun j y h => by simp [zshape] at h⟩
theorem sh_size : (Try.prog.info? 35).map (·.size) = some 5 := by kernel_rfl
theorem sh_zero (w : World) : (zeroValue 35).run Try.prog w = .ok (.agg #[.int .i64 0, .int .i64 0, .int .i64 0, .slice none 0 0, .slice none 0 0]) w := by kernel_rfl
theorem dc_size : (Try.prog.info? 30).map (·.size) = some 21 := by kernel_rfl
theorem ct_size : (Try.prog.info? 46).map (·.size) = some 9 := by kernel_rfl
theorem ct_zero (w : World) : (zeroValue 46).run Try.prog w = .ok (.agg (#[Value.string ByteArray.empty] ++ #[.int .i64 0, .int .i64 0, .string ByteArray.empty, .int .i64 0, .int .i64 0, .slice none 0 0, .slice none 0 0, .slice none 0 0])) w := by kernel_rfl
theorem cs_info : (Try.prog.info? 50).map (fun i => (i.zero, i.size, i.bytes)) = some (some (.agg #[.int .i64 0, .slice none 0 0]), 2, 32) := by kernel_rfl
set_option maxHeartbeats 8000000 in
theorem tof_any (dk : Int) (nm : ByteArray) (vs pa : Int) (ty : Tm) (cts : List (ByteArray × Tm)) (a0 a1 a2 a3 a4 a5 a6 a7 b0 b1 b2 b3 b4 b5 b6 b7 : Value) (cA : Option Addr) (cc : Nat) (D : Nat → Prop) (w : World)
    (hD : Within D w) (ht : TmIs D w ty #[a0, a1, a2, a3, a4, a5, a6, a7]) (hnm : nm.size ≤ 140737488351232) (hcs : CtorsAt D w cts cA) (hcl : cts.length * 120 ≤ 140737488351232)
    (hh : ty.height * 120 ≤ 140737488351232) (hhc : ∀ x, x ∈ cts → x.2.height * 120 ≤ 140737488351232) :
    Calls Try.prog 10 #[.agg #[.int .i64 dk, .string nm, .int .i64 vs, a0, a1, a2, a3, a4, a5, a6, a7, b0, b1, b2, b3, b4, b5, b6, b7, .int .i64 pa, .slice cA cts.length cc]] w fun e w' => ∃ cs', e = .returned (.tuple #[.agg cs', .int .i64 (tof dk nm vs pa ty cts).2]) ∧ ShIs (grow D w w') w' (tof dk nm vs pa ty cts).1 cs' ∧ Below w.heap.size w w' := by
 have hz := tm_zero
 have hz2 := sh_zero
 have hz4 := cs_zero
 obtain ⟨⟨⟨X1, X2, X3⟩, X4⟩, hX⟩ : ∃ X, tof dk nm vs pa ty cts = X := ⟨_, rfl⟩
 rw [hX]
 have HX := Lib.hid hX; clear hX
 obtain ⟨W1, hW1⟩ : ∃ W1, (w.alloc (.cells #[.int .i64 dk, .string nm, .int .i64 vs, a0, a1, a2, a3, a4, a5, a6, a7, b0, b1, b2, b3, b4, b5, b6, b7, .int .i64 pa, .slice cA cts.length cc] 30)).alloc (.cells #[.int .i64 0, .int .i64 0, .int .i64 0, .slice none 0 0, .slice none 0 0] 35) = W1 := ⟨_, rfl⟩
 have huW1 : Upd nob w W1 := by rw [← hW1]; exact ((Upd.refl nob w).alloc _).alloc _
 have hsW1 : W1.heap.size = w.heap.size + 2 := by rw [← hW1]; simp
 have bk0 : Blk W1 (w.heap.size) 30 #[.int .i64 dk, .string nm, .int .i64 vs, a0, a1, a2, a3, a4, a5, a6, a7, b0, b1, b2, b3, b4, b5, b6, b7, .int .i64 pa, .slice cA cts.length cc] := by
  rw [← hW1]
  have h := Blk.new (w) 30 #[.int .i64 dk, .string nm, .int .i64 vs, a0, a1, a2, a3, a4, a5, a6, a7, b0, b1, b2, b3, b4, b5, b6, b7, .int .i64 pa, .slice cA cts.length cc]
  exact h.alloc _
 have bk1 : Blk W1 (w.heap.size + 1) 35 #[.int .i64 0, .int .i64 0, .int .i64 0, .slice none 0 0, .slice none 0 0] := by
  rw [← hW1]
  have h := Blk.new (w.alloc (.cells #[.int .i64 dk, .string nm, .int .i64 vs, a0, a1, a2, a3, a4, a5, a6, a7, b0, b1, b2, b3, b4, b5, b6, b7, .int .i64 pa, .slice cA cts.length cc] 30)) 35 #[.int .i64 0, .int .i64 0, .int .i64 0, .slice none 0 0, .slice none 0 0]
  rw [World.size_alloc] at h
  exact h
 have hlt := ht
 have ht1 := ht.old (hD.old huW1) (fun _ h => h)
 have hcs1 := hcs.old (hD.old huW1) (fun _ h => h)
 have hD1 := hD.up huW1
 have rm : rowAt W1 ⟨w.heap.size, 3, none⟩ #[a0, a1, a2, a3, a4, a5, a6, a7] := sub_row (p := ⟨w.heap.size, 0, none⟩) bk0.rowAt 3 _ (fun j v hv => by
  match j, hv with
  | 0, hv | 1, hv | 2, hv | 3, hv | 4, hv | 5, hv | 6, hv | 7, hv => exact hv
  | (j + 8), hv => simp at hv)
 have HK0 := Lib.hid bk0
 have HK1 := Lib.hid bk1
 have HT1 := Lib.hid ht1
 have HC1 := Lib.hid hcs1
 clear ht1 hcs1 hcs ht bk0 bk1 hlt
 have HW1 := Lib.hid hW1; clear hW1
 rw [← HW1.out] at rm
 have bad : dk ≠ 3 ∨ pa < 0 ∨ vs < 0 ∨ 6 < vs → X1 = 0 ∧ X2 = .mk 0 0 [] ∧ X3 = [] ∧ X4 = 1 := fun h => by
  have hx := HX.out
  rw [tof, if_pos h, zshape] at hx
  injection hx with h1 h2
  injection h1 with h1 h3
  injection h3 with h3 h4
  exact ⟨h1.symm, h3.symm, h4.symm, h2.symm⟩
 have BAD := Lib.hid bad
 clear bad
 by_cases c1 : dk = 3
 · subst c1
   by_cases c2 : pa < 0
   · have t2 : decide (pa < 0) = true := by simp [c2]
     obtain ⟨rfl, rfl, rfl, rfl⟩ := BAD.out (.inr (.inl c2))
     clear BAD HX c2
     go_enter Try.func10, Try.ntmps10
     go_wp2_with (first
         | ((with_reducible refine this_op (.store 35 (.tmp 2) (.tmp 29)) ?_); refine wpList_store_row rfl 35 (.tmp 2) (.tmp 29) rfl (w.heap.size + 1) _ rfl rfl 35 _ (by rw [HW1.out]; exact HK1.out) sh_size rfl (by simp [Value.oneCell']) ?_))
     refine bodyPost_ret (results_cell_tmp rfl _ _ (w.heap.size + 1) 35 #[.int .i64 0, .int .i64 0, .int .i64 0, .slice none 0 0, .slice none 0 0] (0, 0) _ (.int .i64 1) rfl rfl ((show Blk _ (w.heap.size + 1) 35 _ from by rw [HW1.out]; exact HK1.out).row _) Try.underlying35 rfl sh_size) rfl ?_
     exact ⟨_, rfl, zshape_is _ _, ((((Upd.refl nob w).alloc _).alloc _).trans' ((Upd.refl (fun q => q = w.heap.size + 1) _).setRow (.inl rfl) _) (fun q hq h => by omega)).below⟩
   · by_cases c3 : vs < 0
     · have t2 : decide (pa < 0) = false := by simp; omega
       have t3 : decide (vs < 0) = true := by simp [c3]
       obtain ⟨rfl, rfl, rfl, rfl⟩ := BAD.out (.inr (.inr (.inl c3)))
       clear BAD HX c2 c3
       go_enter Try.func10, Try.ntmps10
       go_wp2_with (first
           | ((with_reducible refine this_op (.store 35 (.tmp 2) (.tmp 29)) ?_); refine wpList_store_row rfl 35 (.tmp 2) (.tmp 29) rfl (w.heap.size + 1) _ rfl rfl 35 _ (by rw [HW1.out]; exact HK1.out) sh_size rfl (by simp [Value.oneCell']) ?_))
       refine bodyPost_ret (results_cell_tmp rfl _ _ (w.heap.size + 1) 35 #[.int .i64 0, .int .i64 0, .int .i64 0, .slice none 0 0, .slice none 0 0] (0, 0) _ (.int .i64 1) rfl rfl ((show Blk _ (w.heap.size + 1) 35 _ from by rw [HW1.out]; exact HK1.out).row _) Try.underlying35 rfl sh_size) rfl ?_
       exact ⟨_, rfl, zshape_is _ _, ((((Upd.refl nob w).alloc _).alloc _).trans' ((Upd.refl (fun q => q = w.heap.size + 1) _).setRow (.inl rfl) _) (fun q hq h => by omega)).below⟩
     · by_cases c4 : 6 < vs
       · have t2 : decide (pa < 0) = false := by simp; omega
         have t3 : decide (vs < 0) = false := by simp; omega
         have t4 : decide (6 < vs) = true := by simp [c4]
         obtain ⟨rfl, rfl, rfl, rfl⟩ := BAD.out (.inr (.inr (.inr c4)))
         clear BAD HX c2 c3 c4
         go_enter Try.func10, Try.ntmps10
         go_wp2_with (first
             | ((with_reducible refine this_op (.store 35 (.tmp 2) (.tmp 29)) ?_); refine wpList_store_row rfl 35 (.tmp 2) (.tmp 29) rfl (w.heap.size + 1) _ rfl rfl 35 _ (by rw [HW1.out]; exact HK1.out) sh_size rfl (by simp [Value.oneCell']) ?_))
         refine bodyPost_ret (results_cell_tmp rfl _ _ (w.heap.size + 1) 35 #[.int .i64 0, .int .i64 0, .int .i64 0, .slice none 0 0, .slice none 0 0] (0, 0) _ (.int .i64 1) rfl rfl ((show Blk _ (w.heap.size + 1) 35 _ from by rw [HW1.out]; exact HK1.out).row _) Try.underlying35 rfl sh_size) rfl ?_
         exact ⟨_, rfl, zshape_is _ _, ((((Upd.refl nob w).alloc _).alloc _).trans' ((Upd.refl (fun q => q = w.heap.size + 1) _).setRow (.inl rfl) _) (fun q hq h => by omega)).below⟩
       · have t2 : decide (pa < 0) = false := by simp; omega
         have t3 : decide (vs < 0) = false := by simp; omega
         have t4 : decide (6 < vs) = false := by simp; omega
         have hx := HX.out
         obtain ⟨p, hp⟩ : ∃ p : Nat, pa = p := ⟨pa.toNat, by omega⟩
         obtain ⟨m, hm⟩ : ∃ m : Nat, vs = m := ⟨vs.toNat, by omega⟩
         have hm6 : m ≤ 6 := by omega
         subst hp hm
         have HX2 := Lib.hid hx
         clear BAD HX c2 c3 c4 hx
         go_enter Try.func10, Try.ntmps10
         go_wp2_with (first
             | ((with_reducible refine this_op (.load 27 (.tmp 31)) ?_); refine wpList_at rfl 27 (.tmp 31) rfl ⟨w.heap.size, 3, none⟩ rfl _ _ rm Try.underlying27 rfl tm_size ?_))
         rw [HW1.out]
         clear rm HW1
         refine (trow_any ty _ D W1 hD1 HT1.out (by have := trow_le ty; omega)).mono ?_
         rintro e w2 ⟨cs2, A, c, rfl, hl2, hlc, hat2, hb2⟩
         have hu2 : Upd nob W1 w2 := Upd.of_below hb2
         have hle := trow_le ty
         obtain ⟨⟨ds, rs⟩, hsp⟩ : ∃ x, trow ty = x := ⟨_, rfl⟩
         rw [hsp] at hl2 hlc hat2 hle ⊢
         simp only at hl2 hlc hat2 hle ⊢
         obtain ⟨n, hn⟩ : ∃ n, ds.length = n := ⟨_, rfl⟩
         rw [hn] at hlc hle ⊢
         have HN := Lib.hid hn
         have HL2 := Lib.hid hl2
         have hs2 := hl2.oneCell
         obtain ⟨rk, rn, rnm, rlv, rls, rks⟩ := rs
         obtain ⟨lx, ly, lz, LA, Lc, KA, Kc, rfl, hrk, _, _, hlv, _, _, _, _⟩ := hl2.lit
         simp only [Tm.k, Tm.n, Tm.nm, Tm.lv, Tm.ls, Tm.ks] at hlv hs2 hrk ⊢
         have HSP := Lib.hid hsp
         have HLV := Lib.hid hlv
         have HAT2 := Lib.hid hat2
         have hw2s := hu2.size
         clear hsp hn hl2 hat2 hlv HT1
         by_cases hr : rk = 2 ∧ p ≤ n
         · obtain ⟨rfl, hpn⟩ := hr
           have t5 : decide ((n : Int) < (p : Int)) = false := by simp; omega
           obtain ⟨idx, hidx⟩ : ∃ idx, n = p + idx := ⟨n - p, by omega⟩
           have hwr : IntKind.i64.wrap ((n : Int) - (p : Int)) = (idx : Int) := (IntWalk.i64_in _ (by omega)).trans (by omega)
           have hx := HX2.out
           rw [tof_main (idx := idx) HSP.out HN.out rfl hm6 hidx] at hx
           simp only [Tm.lv] at hx
           obtain ⟨CT, hCT⟩ : ∃ f, tctor nm p idx (tself nm m) ds = f := ⟨_, rfl⟩
           rw [hCT] at hx
           obtain ⟨⟨R1, R2⟩, hR⟩ : ∃ x, ofF CT cts [] = x := ⟨_, rfl⟩
           rw [hR] at hx
           simp only at hx
           have HX4 := Lib.hid hx
           have HCT := Lib.hid hCT
           have HR := Lib.hid hR
           have HIDX := Lib.hid hidx
           clear hx hCT hR HX2 HSP hidx
           go_wp2_with (first
                           | ((with_reducible refine this_op (.store 27 (.tmp 5) (.tmp 35)) ?_); refine wpList_store_row rfl 27 (.tmp 5) (.tmp 35) rfl w2.heap.size _ rfl rfl 27 _ (Blk.new w2 _ _) tm_size rfl hs2.2 ?_
                              obtain ⟨W3, hW3⟩ : ∃ W3, (w2.alloc (.cells #[.int .i64 0, .int .i64 0, .string ByteArray.empty, .int .i64 0, .int .i64 0, .slice none 0 0, .slice none 0 0, .slice none 0 0] 27)).setRow w2.heap.size #[.int .i64 2, .int .i64 rn, .string rnm, lx, ly, lz, .slice LA rls.length Lc, .slice KA rks.length Kc] = W3 := ⟨_, rfl⟩
                              have hu3 : Upd nob w2 W3 := by rw [← hW3]; exact ((Upd.refl nob w2).alloc _).setRow (.inr (Nat.le_refl _)) _
                              have hb3 : Blk W3 w2.heap.size 27 #[.int .i64 2, .int .i64 rn, .string rnm, lx, ly, lz, .slice LA rls.length Lc, .slice KA rks.length Kc] := by rw [← hW3]; exact (Blk.new w2 _ _).row _
                              rw [hW3]
                              clear hW3
                              have hu13 := hu2.trans hu3
                              have u0 := HK0.out.upd hu13 (fun f => f)
                              have u1 := HK1.out.upd hu13 (fun f => f)
                              have q5 : W3.cell? ⟨w.heap.size, 19, none⟩ = some (.int .i64 p) := u0.cell 19
                              have q0 : W3.cell? ⟨w2.heap.size, 0, none⟩ = some (.int .i64 2) := hb3.cell 0
                              have U0 := Lib.hid u0
                              have U1 := Lib.hid u1
                              have HB3 := Lib.hid hb3
                              clear u0 u1 hb3))
           have hu03 : Upd nob w W3 := (huW1.trans hu2).trans hu3
           have rd := U0.out.rowAt
           have hw3s := hu3.size
           have hs89 : (Try.prog.info? 30).map (·.size) = some 21 := dc_size
           clear q5 q0 t5
           refine wp_region_P (by kernel_rfl) ?_
           refine wpAny_of_E (fun X : World => ∀ p : Addr, p.block < W3.heap.size → X.cell? p = W3.cell? p) 6 _ _ _ _ ?_
           have hS : ∀ p : Addr, p.block < W3.heap.size → W3.drew.cell? p = W3.cell? p := fun _ _ => rfl
           refine wpAnyE_take (i := 0) (v := (.agg #[.int .i64 3, .string nm, .int .i64 m, a0, a1, a2, a3, a4, a5, a6, a7, b0, b1, b2, b3, b4, b5, b6, b7, .int .i64 p, .slice cA cts.length cc])) [] rfl (by kernel_rfl) (fun _ _ _ h => h) (Or.inl ⟨by rfl, ?_⟩) hS ?_
           · intro wx hx
             exact run_load_at 30 (.tmp 1) rfl ⟨w.heap.size, 0, none⟩ rfl #[.int .i64 3, .string nm, .int .i64 m, a0, a1, a2, a3, a4, a5, a6, a7, b0, b1, b2, b3, b4, b5, b6, b7, .int .i64 p, .slice cA cts.length cc] _ (row_on rd (by show w.heap.size < _; omega) hx) Try.underlying30 rfl dc_size
           try simp only [tl]
           refine wpAnyE_take (i := 1) (v := (.agg #[.int .i64 3, .string nm, .int .i64 m, a0, a1, a2, a3, a4, a5, a6, a7, b0, b1, b2, b3, b4, b5, b6, b7, .int .i64 p, .slice cA cts.length cc])) [] rfl (by kernel_rfl) (fun _ _ _ h => h) (Or.inl ⟨by rfl, ?_⟩) hS ?_
           · intro wx hx
             exact run_load_at 30 (.tmp 1) rfl ⟨w.heap.size, 0, none⟩ rfl #[.int .i64 3, .string nm, .int .i64 m, a0, a1, a2, a3, a4, a5, a6, a7, b0, b1, b2, b3, b4, b5, b6, b7, .int .i64 p, .slice cA cts.length cc] _ (row_on rd (by show w.heap.size < _; omega) hx) Try.underlying30 rfl dc_size
           try simp only [tl]
           refine wpAnyE_take (i := 3) (v := ?_) [] rfl (by kernel_rfl) (fun _ _ _ h => h) (Or.inl ⟨by rfl, ?_⟩) hS ?_
           rotate_left
           · intro wx hx
             clear hx
             go_simp
             with_reducible rfl
           try simp only [tl]
           refine wpAnyE_one (i := 2) (by kernel_rfl) (by kernel_rfl) rfl (by rfl) fun K hK => ?_
           go_simp
           refine (tself_any 3 nm m a0 a1 a2 a3 a4 a5 a6 a7 b0 b1 b2 b3 b4 b5 b6 b7 p (.slice cA cts.length cc) W3.drew (by omega) hnm).mono ?_
           rintro e w4 ⟨cs4, rfl, hl4, hb4⟩
           have hu4 : Upd nob W3 w4 := ((Upd.refl nob W3).drew).trans (Upd.of_below hb4)
           obtain ⟨s0, s1, s2, s3, s4, s5, s6, s7, rfl⟩ : ∃ s0 s1 s2 s3 s4 s5 s6 s7, cs4 = #[s0, s1, s2, s3, s4, s5, s6, s7] := by
            obtain ⟨_, _, _, _, _, _, _, h9, _⟩ := hl4.lit
            exact ⟨_, _, _, _, _, _, _, _, h9⟩
           refine hK _ _ (cells_of_upd hu4) ?_
           clear hK K
           try simp only [tl]
           have hS : ∀ p : Addr, p.block < W3.heap.size → w4.cell? p = W3.cell? p := cells_of_upd hu4
           refine wpAnyE_take (i := 4) (v := (.agg #[.int .i64 3, .string nm, .int .i64 m, a0, a1, a2, a3, a4, a5, a6, a7, b0, b1, b2, b3, b4, b5, b6, b7, .int .i64 p, .slice cA cts.length cc, s0, s1, s2, s3, s4, s5, s6, s7, .slice A n c, .int .i64 0, .int .i64 0, .int .i64 0, .slice none 0 0, .slice none 0 0])) [] rfl (by kernel_rfl) (fun _ _ _ h => h) (Or.inl ⟨by rfl, ?_⟩) hS ?_
           · intro wx hx
             refine run_build_op 89 #[(0, .tmp 47), (1, .tmp 49), (2, .tmp 50)] rfl _ ?_
             kernel_rfl
           try simp only [tl]
           refine wpAnyE_one (i := 5) (by kernel_rfl) (by kernel_rfl) rfl (by rfl) fun K hK => ?_
           go_simp
           have hu5 : Upd nob W3 (w4.alloc (.cells #[.int .i64 3, .string nm, .int .i64 m, a0, a1, a2, a3, a4, a5, a6, a7, b0, b1, b2, b3, b4, b5, b6, b7, .int .i64 p, .slice cA cts.length cc, s0, s1, s2, s3, s4, s5, s6, s7, .slice A n c, .int .i64 0, .int .i64 0, .int .i64 0, .slice none 0 0, .slice none 0 0] 89)) := hu4.alloc _
           refine hK _ _ (cells_of_upd hu5) ?_
           clear hK K
           try simp only [tl]
           refine wpAnyE_z (by kernel_rfl) rfl (by rfl) fun K hK => ?_
           go_simp
           refine hK _ _ ?_
           clear hK K
           try simp only [tl]
           refine wpAny_done (by kernel_rfl) ?_ _
           refine NoPanic.normal ?_
           have hw4s := hu4.size
           have hw2u := hu2.size
           have hlt3 := HB3.out.lt
           obtain ⟨W5, hW5⟩ : ∃ W5, w4.alloc (.cells #[.int .i64 3, .string nm, .int .i64 m, a0, a1, a2, a3, a4, a5, a6, a7, b0, b1, b2, b3, b4, b5, b6, b7, .int .i64 p, .slice cA cts.length cc, s0, s1, s2, s3, s4, s5, s6, s7, .slice A n c, .int .i64 0, .int .i64 0, .int .i64 0, .slice none 0 0, .slice none 0 0] 89) = W5 := ⟨_, rfl⟩
           have hu45 : Upd nob w4 W5 := by rw [← hW5]; exact (Upd.refl nob w4).alloc _
           have hb5 : Blk W5 w4.heap.size 89 #[.int .i64 3, .string nm, .int .i64 m, a0, a1, a2, a3, a4, a5, a6, a7, b0, b1, b2, b3, b4, b5, b6, b7, .int .i64 p, .slice cA cts.length cc, s0, s1, s2, s3, s4, s5, s6, s7, .slice A n c, .int .i64 0, .int .i64 0, .int .i64 0, .slice none 0 0, .slice none 0 0] := by rw [← hW5]; exact Blk.new _ _ _
           have hs5 : W5.heap.size = w4.heap.size + 1 := by rw [← hW5]; simp
           rw [hW5]
           clear hW5 rd
           have hu35 := hu4.trans hu45
           have v0 := U0.out.upd hu35 (fun f => f)
           have v1 := U1.out.upd hu35 (fun f => f)
           have v3 := HB3.out.upd hu35 (fun f => f)
           have q19 : W5.cell? ⟨w.heap.size, 19, none⟩ = some (.int .i64 p) := v0.cell 19
           have hu6 : Upd (fun q => q = w4.heap.size) W5 (W5.setCell ⟨w4.heap.size, 30, none⟩ (.int .i64 idx)) := (Upd.refl (fun q => q = w4.heap.size) W5).setCell (p := ⟨w4.heap.size, 30, none⟩) (.inl rfl) _
           have hb6 := hb5.set 30 (.int .i64 idx)
           have c30 : W5.cell? ⟨w4.heap.size, 30, none⟩ = some (.int .i64 0) := hb5.cell 30
           have z30 := hb5.frozen 30
           obtain ⟨W6, hW6⟩ : ∃ W6, W5.setCell ⟨w4.heap.size, 30, none⟩ (.int .i64 idx) = W6 := ⟨_, rfl⟩
           rw [hW6] at hu6 hb6
           have v03 := v3.upd hu6 (fun h => by show False; have : w2.heap.size = w4.heap.size := h; omega)
           have rl : rowAt W6 ⟨w2.heap.size, 3, none⟩ #[lx, ly, lz] := sub_row (p := ⟨w2.heap.size, 0, none⟩) v03.rowAt 3 _ (fun j v hv => by
            match j, hv with
            | 0, hv | 1, hv | 2, hv => exact hv
            | (j + 3), hv => simp at hv)
           rw [← hW6] at rl
           have V0 := Lib.hid (v0.upd hu6 (fun h => by omega))
           have V1 := Lib.hid (v1.upd hu6 (fun h => by omega))
           have HB6 := Lib.hid hb6
           have HW6 := Lib.hid hW6
           clear v0 v1 v3 v03 hb5 hb6 hW6 U0 U1 HB3
           go_wp2_with (first
                           | ((with_reducible refine this_op (.load 24 (.tmp 63)) ?_); refine wpList_at rfl 24 (.tmp 63) rfl ⟨w2.heap.size, 3, none⟩ rfl _ _ rl Try.underlying24 rfl lv_size ?_))
           rw [HW6.out]
           have hD2 : Within (grow D W1 w2) w2 := fun q hq => hq.elim (fun h => hD1.up hu2 q h) (fun h => h.2)
           have hu26 : Upd (fun q => q = w4.heap.size) w2 W6 := (((hu3.trans hu35).mono (fun _ f => f.elim)) : Upd (fun q => q = w4.heap.size) w2 W5).trans hu6
           have hw5s := hu6.size
           have ho26 : Old (grow D W1 w2) w2 W6 := Old.of_upd hu26 fun q hq => ⟨fun h => by have := hD2 q hq; omega, hD2 q hq⟩
           have hlv6 := HLV.out.old ho26 (fun _ h => h)
           have hD6 : Within (grow D W1 w2) W6 := fun q hq => by have := hD2 q hq; have := hu26.size; omega
           clear rl c30 z30 HW6
           refine (lplus_any 0 rlv _ (grow D W1 w2) W6 (by unfold InI; omega) hD6 hlv6).mono ?_
           rintro e w7 ⟨cs7, rfl, hl7, hb7⟩
           have hu7 : Upd nob W6 w7 := Upd.of_below hb7
           have hw7s := hu7.size
           have hs7 := hl7.oneCell
           obtain ⟨qx, qy, qz, rfl⟩ := hl7.three
           have hb67 := HB6.out.upd hu7 (fun f => f)
           have HB67 := Lib.hid hb67
           have HL7 := Lib.hid hl7
           clear hl7 hb67 hlv6
           obtain ⟨M, hM⟩ : ∃ M, cts.length = M := ⟨_, rfl⟩
           rw [hM] at hcl
           have HM := Lib.hid hM
           have hb68 := HB67.out
           rw [hM] at V0 hb68 ⊢
           have HB67 := Lib.hid hb68
           clear hM hb68
           go_wp2_with (first
                           | ((with_reducible refine this_op (.store 24 (.tmp 68) (.tmp 65)) ?_); go_loud (refine wpList_store_part rfl 24 (.tmp 68) (.tmp 65) rfl w4.heap.size 31 #[qx, qy, qz] rfl rfl 89 _ (#[.int .i64 3, .string nm, .int .i64 m, a0, a1, a2, a3, a4, a5, a6, a7, b0, b1, b2, b3, b4, b5, b6, b7, .int .i64 p, .slice cA M cc, s0, s1, s2, s3, s4, s5, s6, s7, .slice A n c, .int .i64 idx, qx, qy, qz, .slice none 0 0]) HB67.out lv_size (by rw [Array.size_setIfInBounds]; exact Nat.le_of_ble_eq_true rfl) hs7.2 rfl ?_)
                              obtain ⟨W8, hW8⟩ : ∃ W8, w7.setRow w4.heap.size (#[.int .i64 3, .string nm, .int .i64 m, a0, a1, a2, a3, a4, a5, a6, a7, b0, b1, b2, b3, b4, b5, b6, b7, .int .i64 p, .slice cA M cc, s0, s1, s2, s3, s4, s5, s6, s7, .slice A n c, .int .i64 idx, qx, qy, qz, .slice none 0 0]) = W8 := ⟨_, rfl⟩
                              have hu8 : Upd (fun q => q = w4.heap.size) w7 W8 := by rw [← hW8]; exact (Upd.refl (fun q => q = w4.heap.size) w7).setRow (.inl rfl) _
                              have hb8 : Blk W8 w4.heap.size 89 (#[.int .i64 3, .string nm, .int .i64 m, a0, a1, a2, a3, a4, a5, a6, a7, b0, b1, b2, b3, b4, b5, b6, b7, .int .i64 p, .slice cA M cc, s0, s1, s2, s3, s4, s5, s6, s7, .slice A n c, .int .i64 idx, qx, qy, qz, .slice none 0 0]) := by rw [← hW8]; exact HB67.out.row _
                              rw [hW8]
                              clear hW8
                              have c20 : W8.cell? ⟨w.heap.size, 20, none⟩ = some (.slice cA M cc) := ((V0.out.upd hu7 (fun f => f)).upd hu8 (fun h => by omega)).cell 20
                              have HB8 := Lib.hid hb8
                              clear hb8))
           have hf0 : w.heap.size ≤ w4.heap.size := by omega
           have huW8 : Upd nob w W8 := (((hu03.trans hu35).trans' hu6 (fun q hq h => by have : q = w4.heap.size := h; omega)).trans hu7).trans' hu8 (fun q hq h => by have : q = w4.heap.size := h; omega)
           have hu28 : Upd (fun q => q = w4.heap.size) w2 W8 := (hu26.trans (hu7.mono (fun _ f => f.elim))).trans hu8
           have hu48 : Upd (fun q => q = w4.heap.size) w4 W8 := ((((hu45.mono (fun _ f => f.elim)) : Upd (fun q => q = w4.heap.size) w4 W5).trans hu6).trans (hu7.mono (fun _ f => f.elim))).trans hu8
           have hD2f : ∀ q, grow D W1 w2 q → q < w4.heap.size := fun q hq => by have := hD2 q hq; omega
           have hat8 : TmsAt (fun q => q < w4.heap.size) W8 ds A 0 := HAT2.out.old (Old.of_upd hu28 fun q hq => ⟨fun h => by have := hD2f q hq; omega, hD2 q hq⟩) hD2f
           have hsf8 : TmIs (fun q => q < w4.heap.size) W8 (tself nm m) #[s0, s1, s2, s3, s4, s5, s6, s7] := hl4.old (Old.of_upd hu48 fun q hq => ⟨fun h => by have := hq.2; omega, hq.2⟩) (fun q hq => hq.2)
           have hct8 : CtorsAt (fun q => q < w4.heap.size) W8 cts cA := HC1.out.old (Old.of_upd ((hu2.mono (fun _ f => f.elim)).trans hu28) fun q hq => ⟨fun h => by have := hD q hq; omega, hD1 q hq⟩) (fun q hq => by have := hD q hq; omega)
           have hDl : ∀ q, grow (grow D W1 w2) W6 w7 q → q ≠ w4.heap.size ∧ q ≠ w.heap.size + 1 ∧ q < w7.heap.size ∧ (D q ∨ w.heap.size ≤ q) := fun q hq => by
            rcases hq with (hq | hq) | hq
            · have := hD q hq; exact ⟨by omega, by omega, by omega, .inl hq⟩
            · have := hq.1; have := hq.2; exact ⟨by omega, by omega, by omega, .inr (by omega)⟩
            · have := hq.1; have := hq.2; exact ⟨by omega, by omega, by omega, .inr (by omega)⟩
           have hlv8 : LvIs (grow (grow D W1 w2) W6 w7) W8 (lplus 0 rlv) #[qx, qy, qz] := HL7.out.old (Old.of_upd hu8 fun q hq => ⟨fun h => (hDl q hq).1 h, (hDl q hq).2.2.1⟩) (fun q hq => hq)
           have hw8s := hu8.size
           have U18 := Lib.hid ((V1.out.upd hu7 (fun f => f)).upd hu8 (fun h => by omega))
           have hone5 : ∀ (i : Int) (A : Option Addr) (k c : Nat), (#[Value.int .i64 i, qx, qy, qz, .slice A k c]).all (·.oneCell') = true := fun i A k c => by
            have := hs7.2
            simp [Value.oneCell'] at this ⊢
            exact this
           have HAT8 := Lib.hid hat8
           have HSF8 := Lib.hid hsf8
           have HCT8 := Lib.hid hct8
           have HLV8 := Lib.hid hlv8
           have HHC := Lib.hid hhc
           have hfi : ∀ (wr : World) (sv : Value), Upd (fun q => q = w4.heap.size) W8 wr → Blk wr w4.heap.size 89 (#[.int .i64 3, .string nm, .int .i64 m, a0, a1, a2, a3, a4, a5, a6, a7, b0, b1, b2, b3, b4, b5, b6, b7, .int .i64 p, .slice cA M cc, s0, s1, s2, s3, s4, s5, s6, s7, .slice A n c, .int .i64 idx, qx, qy, qz, sv]) → FIs (fun q => q < w4.heap.size) wr w4.heap.size nm p (tself nm m) ds idx := fun wr sv hu hb => by
            have ho : Old (fun q => q < w4.heap.size) W8 wr := Old.of_upd hu fun q hq => ⟨fun h => by have : q < w4.heap.size := hq; omega, by have : q < w4.heap.size := hq; omega⟩
            refine ⟨hb.lt, hb.cell 1, hb.cell 19, ⟨_, sub_row (p := ⟨w4.heap.size, 0, none⟩) hb.rowAt 21 #[s0, s1, s2, s3, s4, s5, s6, s7] (fun j v hv => ?_), HSF8.out.old ho (fun _ h => h)⟩, ⟨A, c, by rw [HN.out]; exact hb.cell 29, HAT8.out.old ho (fun _ h => h)⟩, hb.cell 30⟩
            match j, hv with
            | 0, hv | 1, hv | 2, hv | 3, hv | 4, hv | 5, hv | 6, hv | 7, hv => exact hv
            | (j + 8), hv => simp at hv
           have HFI := Lib.hid hfi
           clear hat8 hsf8 hct8 hlv8 hfi hhc hD2f hl4 HL7 HAT2 HC1 V0 V1 HB67 HB6
           go_loopg [72] M (fun k v wr => ∃ (j : Nat) (acc : List CShape) (sv : Value), j + k = M ∧ v = .int .i64 j ∧ Blk wr w4.heap.size 89 (#[.int .i64 3, .string nm, .int .i64 m, a0, a1, a2, a3, a4, a5, a6, a7, b0, b1, b2, b3, b4, b5, b6, b7, .int .i64 p, .slice cA M cc, s0, s1, s2, s3, s4, s5, s6, s7, .slice A n c, .int .i64 idx, qx, qy, qz, sv]) ∧ Coll csR nob W8.heap.size 50 wr sv acc ∧ acc.length ≤ j ∧ ofF CT (cts.drop j) acc = (R1, R2) ∧ Upd (fun q => q = w4.heap.size) W8 wr)
           case atStart => exact ⟨0, [], .slice none 0 0, by omega, rfl, HB8.out, Coll.nil_, Nat.le_refl _, by rw [List.drop_zero]; exact HR.out, Upd.refl _ _⟩
           case round =>
            clear HB8 c20
            obtain ⟨j, acc, sv, hj, rfl, hbr, hco, hal, hof, hus⟩ := hrel
            have hws := hus.size
            have hfr := HFI.out wr sv hus hbr
            obtain ⟨sA, sc, hsv, hscp⟩ := hco.form
            subst hsv
            have ho8 : Old (fun q => q < w4.heap.size) W8 wr := Old.of_upd hus fun q hq => ⟨fun h => by have : q < w4.heap.size := hq; omega, by have : q < w4.heap.size := hq; omega⟩
            have HBR := Lib.hid hbr
            have HCO := Lib.hid hco
            have HOF := Lib.hid hof
            have HFR := Lib.hid hfr
            have hltb := hbr.lt
            have hD8 : Within (fun q => q < w4.heap.size) wr := fun q hq => by have : q < w4.heap.size := hq; omega
            clear hbr hco hof hfr
            by_cases hlt : j < M
            · have t2 : decide ((j : Int) < M) = true := by simp [hlt]
              have hjn : j < cts.length := by rw [HM.out]; exact hlt
              obtain ⟨a, csx, hA, hab, hrow, hlx⟩ := HCT8.out j _ (List.getElem?_eq_getElem hjn)
              have hmem : cts[j] ∈ cts := List.getElem_mem hjn
              have hhx := HHC.out _ hmem
              have hdr : cts.drop j = cts[j] :: cts.drop (j + 1) := List.drop_eq_getElem_cons hjn
              have hof := HOF.out
              rw [hdr, ofF] at hof
              obtain ⟨x, hx⟩ : ∃ x, cts[j] = x := ⟨_, rfl⟩
              rw [hx] at hof hlx hrow hhx
              have hrow' := hrow.old ho8 (by rw [Addr_add_block]; exact hab)
              have hlx' := hlx.old ho8 (fun _ h => h)
              have hsx := hlx.oneCell
              have hsix : (Try.prog.info? 27).map (·.size) = some csx.size := by rw [hsx.1]; exact tm_size
              obtain ⟨cs9, hcs9⟩ : ∃ y, #[Value.string x.1] ++ csx = y := ⟨_, rfl⟩
              have hs9 : cs9.size = 9 := by rw [← hcs9]; simp [hsx.1]
              have ho9 : cs9.all (·.oneCell') = true := by rw [← hcs9, Array.all_append, hsx.2]; simp [Value.oneCell']
              have hsi9 : (Try.prog.info? 46).map (·.size) = some cs9.size := by rw [hs9]; exact ct_size
              rw [hcs9] at hrow'
              have hr91 : ∀ i v, csx[i]? = some v → cs9[1 + i]? = some v := fun i v hv => by rw [← hcs9, Array.getElem?_append_right (by simp)]; simpa using hv
              have HOF2 := Lib.hid hof
              have HA := Lib.hid hA
              have HLX := Lib.hid hlx'
              have HR91 := Lib.hid hr91
              have hz3 := ct_zero
              simp only [List.append_toArray, List.cons_append, List.nil_append] at hz3
              clear hA hof hdr HOF hrow hlx hlx' hx hmem hcs9 hr91
              go_wp2_with (first
                                  | ((with_reducible refine this_op (.indexAddr 28 (.tmp 70) (.tmp 72)) ?_); refine wpList_index_at rfl 28 (.tmp 70) (.tmp 72) rfl _ a _ _ rfl HA.out j rfl hlt 46 Try.underlying28 9 ct_size ?_)
                                  | ((with_reducible refine this_op (.load 46 (.tmp 74)) ?_); refine wpList_at rfl 46 (.tmp 74) rfl (a.add (j * 9)) rfl _ _ hrow' Try.underlying46 rfl hsi9 ?_)
                                  | ((with_reducible refine this_op (.store 46 (.tmp 8) (.tmp 75)) ?_); refine wpList_store_row rfl 46 (.tmp 8) (.tmp 75) rfl wr.heap.size _ rfl rfl 46 _ (Blk.new wr _ _) hsi9 (by rw [hs9]; rfl) ho9 ?_
                                     obtain ⟨W9, hW9⟩ : ∃ W9, (wr.alloc (.cells #[.string ByteArray.empty, .int .i64 0, .int .i64 0, .string ByteArray.empty, .int .i64 0, .int .i64 0, .slice none 0 0, .slice none 0 0, .slice none 0 0] 46)).setRow wr.heap.size cs9 = W9 := ⟨_, rfl⟩
                                     have hu9 : Upd nob wr W9 := by rw [← hW9]; exact ((Upd.refl nob wr).alloc _).setRow (.inr (Nat.le_refl _)) _
                                     have hb9 : Blk W9 wr.heap.size 46 cs9 := by rw [← hW9]; exact (Blk.new wr _ _).row _
                                     rw [hW9]
                                     clear hW9
                                     have r9 : rowAt W9 ⟨wr.heap.size, 1, none⟩ csx := sub_row (p := ⟨wr.heap.size, 0, none⟩) hb9.rowAt 1 csx HR91.out
                                     clear hb9)
                                  | ((with_reducible refine this_op (.load 27 (.tmp 78)) ?_); refine wpList_at rfl 27 (.tmp 78) rfl ⟨wr.heap.size, 1, none⟩ rfl _ _ r9 Try.underlying27 rfl hsix ?_))
              have hD9 : Within (fun q => q < w4.heap.size) W9 := hD8.up hu9
              have hlx9 := HLX.out.old (hD8.old hu9) (fun _ h => h)
              have hf9 := HFR.out.upd hu9 (fun f => f) (hD8.old hu9) (fun _ h => h)
              have hw9s := hu9.size
              clear HLX HFR r9
              refine (tctor_any x.2 csx (fun q => q < w4.heap.size) W9 w4.heap.size nm p idx (tself nm m) ds hD9 hlx9 hf9 (by rw [HN.out]; exact hpn) (by rw [HN.out]; omega) (by have := HIDX.out; omega) hhx).mono ?_
              rintro e w10 ⟨cs10, rfl, hl10, hb10⟩
              rw [HCT.out] at hl10 ⊢
              have hu10 : Upd nob W9 w10 := Upd.of_below hb10
              have hw10s := hu10.size
              have hof := HOF2.out
              obtain ⟨⟨y, re⟩, hy⟩ : ∃ y, CT x.2 = y := ⟨_, rfl⟩
              rw [hy] at hl10 hof ⊢
              simp only at hl10 hof ⊢
              have hs10 := hl10.cells2
              have hsi10 : (Try.prog.info? 50).map (·.size) = some cs10.size := by rw [hs10.1]; exact cs_size
              have HL10 := Lib.hid hl10
              have HOF3 := Lib.hid hof
              clear hl10 hof HOF2 hy hf9 hlx9
              by_cases hre : re = 0
              · subst hre
                have hof := HOF3.out
                rw [if_pos rfl] at hof
                have HOF4 := Lib.hid hof
                clear hof HOF3
                go_wp2_with (first
                                      | ((with_reducible refine this_op (.store 50 (.tmp 9) (.tmp 81)) ?_); refine wpList_store_row rfl 50 (.tmp 9) (.tmp 81) rfl w10.heap.size _ rfl rfl 50 _ (Blk.new w10 _ _) hsi10 (by rw [hs10.1]; rfl) hs10.2 ?_
                                         obtain ⟨W11, hW11⟩ : ∃ W11, (w10.alloc (.cells #[.int .i64 0, .slice none 0 0] 50)).setRow w10.heap.size cs10 = W11 := ⟨_, rfl⟩
                                         have hu11 : Upd nob w10 W11 := by rw [← hW11]; exact ((Upd.refl nob w10).alloc _).setRow (.inr (Nat.le_refl _)) _
                                         have hb11 : Blk W11 w10.heap.size 50 cs10 := by rw [← hW11]; exact (Blk.new w10 _ _).row _
                                         rw [hW11]
                                         clear hW11
                                         have HB11 := Lib.hid hb11
                                         clear hb11))
                have hw11s := hu11.size
                have hlt11 := HB11.out.lt
                have hr11 := HB11.out.rowAt
                have hu811 : Upd (fun q => q = w4.heap.size) W8 W11 := hus.trans (((hu9.trans hu10).trans hu11).mono (fun _ f => f.elim))
                have hur11 : Upd nob wr W11 := (hu9.trans hu10).trans hu11
                have hbr11 := HBR.out.upd hur11 (fun f => f)
                have hco11 := HCO.out.upd hur11 (fun _ f => f.elim) (fun q f => f.elim)
                have hl11 := HL10.out.old (D' := grow nob W9 w10) (Old.of_upd hu11 fun q hq => ⟨fun f => f, hq.2⟩) (fun q hq => .inr hq)
                have c34 : W11.cell? ⟨w4.heap.size, 34, none⟩ = some (.slice sA acc.length sc) := hbr11.cell 34
                have hnO : ∀ q, (Value.slice sA acc.length sc).ownBlock = some q → W8.heap.size ≤ q ∧ q < wr.heap.size := fun q h => HCO.out.lt h
                have hlb11 := hbr11.lt
                have HBR11 := Lib.hid hbr11
                have HCO11 := Lib.hid hco11
                have HL11 := Lib.hid hl11
                clear hbr11 hco11 hl11 HBR HCO HL10
                refine wp_region_P (by kernel_rfl) ?_
                refine wpAny_of_E (fun X : World => ∀ p : Addr, (p.block < W11.heap.size ∧ (Value.slice sA acc.length sc).ownBlock ≠ some p.block) → X.cell? p = W11.cell? p) 12 _ _ _ _ ?_
                have hS : ∀ p : Addr, (p.block < W11.heap.size ∧ (Value.slice sA acc.length sc).ownBlock ≠ some p.block) → W11.drew.cell? p = W11.cell? p := fun _ _ => rfl
                refine wpAnyE_take (i := 0) (v := ?_) [] rfl (by kernel_rfl) (fun _ _ _ h => h) (Or.inl ⟨by rfl, ?_⟩) hS ?_
                rotate_left
                · intro wx hx
                  clear hx
                  go_simp
                  with_reducible rfl
                try simp only [tl]
                refine wpAnyE_take (i := 1) (v := ?_) [] rfl (by kernel_rfl) (fun _ _ _ h => h) (Or.inl ⟨by rfl, ?_⟩) hS ?_
                rotate_left
                · intro wx hx
                  clear hx
                  go_simp
                  with_reducible rfl
                try simp only [tl]
                refine wpAnyE_take (i := 2) (v := ?_) [] rfl (by kernel_rfl) (fun _ _ _ h => h) (Or.inl ⟨by rfl, ?_⟩) hS ?_
                rotate_left
                · intro wx hx
                  clear hx
                  go_simp
                  with_reducible rfl
                try simp only [tl]
                refine wpAnyE_take (i := 3) (v := ?_) [] rfl (by kernel_rfl) (fun _ _ _ h => h) (Or.inl ⟨by rfl, ?_⟩) hS ?_
                rotate_left
                · intro wx hx
                  clear hx
                  go_simp
                  with_reducible rfl
                try simp only [tl]
                refine wpAnyE_take (i := 4) (v := ?_) [] rfl (by kernel_rfl) (fun _ _ _ h => h) (Or.inl ⟨by rfl, ?_⟩) hS ?_
                rotate_left
                · intro wx hx
                  clear hx
                  go_simp
                  with_reducible rfl
                try simp only [tl]
                refine wpAnyE_take (i := 5) (v := ?_) [] rfl (by kernel_rfl) (fun _ _ _ h => h) (Or.inl ⟨by rfl, ?_⟩) hS ?_
                rotate_left
                · intro wx hx
                  have q0 := (hx ⟨w4.heap.size, 34, none⟩ ⟨hlb11, fun h => by have : W8.heap.size ≤ w4.heap.size := (hnO w4.heap.size h).1; omega⟩).trans c34
                  clear hx
                  go_simp
                  with_reducible rfl
                try simp only [tl]
                refine wpAnyE_take (i := 6) (v := (.agg cs10)) [] rfl (by kernel_rfl) (fun _ _ _ h => h) (Or.inl ⟨by rfl, ?_⟩) hS ?_
                · intro wx hx
                  exact run_load_at 50 (.tmp 9) rfl ⟨w10.heap.size, 0, none⟩ rfl cs10 _ (fun i v hv => (hx _ ⟨by rw [Addr_add_block]; exact hlt11, fun h => by rw [Addr_add_block] at h; have h2 : wr.heap.size ≤ w10.heap.size := Nat.le_trans hw9s hw10s; have := (hnO _ h).2; exact absurd this (Nat.not_lt.2 h2)⟩).trans (hr11 i v hv)) Try.underlying50 rfl hsi10
                try simp only [tl]
                refine wpAnyE_one (i := 7) (by kernel_rfl) (by kernel_rfl) rfl (by rfl) fun K hK => ?_
                refine owp_build1 33 50 (.tmp 93) rfl _ 2 32 Try.underlying33 cs_info (by decide) (by decide) cs10 rfl hs10.1 ?_
                have hu12 : Upd nob W11 (W11.drew.alloc (.cells cs10 50)) := ((Upd.refl nob W11).drew).alloc _
                refine hK _ _ (fun p hp => cells_of_upd hu12 p hp.1) ?_
                clear hK K
                try simp only [tl]
                refine wpAnyE_one (i := 8) (by kernel_rfl) (by kernel_rfl) rfl (by rfl) fun K hK => ?_
                have hc12 := HCO11.out.upd hu12 (fun _ f => f.elim) (fun q f => f.elim)
                have hl12 := HL11.out.old (D' := grow nob W9 w10) (Old.of_upd hu12 fun q hq => ⟨fun f => f, by have : q < w10.heap.size := hq.elim (fun f => f.elim) (fun h => h.2); omega⟩) (fun q hq => hq)
                refine owp_collect (.tmp 92) (.tmp 94) 33 rfl _ 32 Try.underlying33 cs_info (by kernel_rfl) (by decide) rfl hc12 (fun x h => h.elim) W11.heap.size cs10 rfl (Blk.new W11.drew _ _) y _ hl12 (fun q hq => ?_) acc.length rfl (by omega) (by omega) (by simp; omega) ?_
                · have hq2 : W9.heap.size ≤ q ∧ q < w10.heap.size := hq.elim (fun f => f.elim) id
                  exact ⟨.inr ⟨by omega, by simp; omega⟩, fun h => by have := hnO _ h; omega⟩
                intro sA6 sc6 w13 hc13 hu13 hat13
                have hu1113 : Upd (fun q => (Value.slice sA acc.length sc).ownBlock = some q) W11 w13 := (hu12.mono (fun _ f => f.elim)).trans hu13
                have HCO13 := Lib.hid hc13
                have hbr13 := HBR11.out.upd hu1113 (fun h => by have : W8.heap.size ≤ w4.heap.size := (hnO _ h).1; omega)
                have c34b : w13.cell? ⟨w4.heap.size, 34, none⟩ = some (.slice sA acc.length sc) := hbr13.cell 34
                have z34 := hbr13.frozen 34
                have HBR13 := Lib.hid hbr13
                clear hc13 hbr13 hc12 hl12
                refine hK _ _ (fun p hp => hu1113.cell hp.1 hp.2) ?_
                clear hK K
                try simp only [tl]
                have hS : ∀ p : Addr, (p.block < W11.heap.size ∧ (Value.slice sA acc.length sc).ownBlock ≠ some p.block) → w13.cell? p = W11.cell? p := fun p hp => hu1113.cell hp.1 hp.2
                refine wpAnyE_take (i := 9) (v := ?_) [11, 10] rfl (by kernel_rfl) (fun _ _ _ h => h) (Or.inl ⟨by rfl, ?_⟩) hS ?_
                rotate_left
                · intro wx hx
                  clear hx
                  go_simp
                  with_reducible rfl
                try simp only [tl]
                refine wpAnyE_take (i := 10) (v := ?_) [11] rfl (by kernel_rfl) (fun _ _ _ h => h) (Or.inl ⟨by rfl, ?_⟩) hS ?_
                rotate_left
                · intro wx hx
                  clear hx
                  go_simp
                  with_reducible rfl
                try simp only [tl]
                refine wpAnyE_take (i := 11) (v := ?_) [] rfl (by kernel_rfl) (fun _ _ _ h => h) (Or.inl ⟨by rfl, ?_⟩) hS ?_
                rotate_left
                · intro wx hx
                  clear hx
                  go_simp
                  with_reducible rfl
                try simp only [tl]
                refine wpAnyE_z (by kernel_rfl) rfl (by rfl) fun K hK => ?_
                go_simp
                refine hK _ _ ?_
                clear hK K
                try simp only [tl]
                refine wpAny_done (by kernel_rfl) ?_ _
                refine NoPanic.normal ?_
                go_wp2_with fail
                go_roundg (gk - 1)
                case measure => omega
                case rel =>
                 have hfin : Upd (fun q => q = w4.heap.size) w13 (w13.setCell ⟨w4.heap.size, 34, none⟩ (.slice sA6 (acc.length + 1) sc6)) := (Upd.refl (fun q => q = w4.heap.size) w13).setCell (p := ⟨w4.heap.size, 34, none⟩) (.inl rfl) _
                 refine ⟨j + 1, acc ++ [y], .slice sA6 (acc.length + 1) sc6, by omega, by go_num, HBR13.out.set 34 _, HCO13.out.upd hfin (fun q hq => ⟨by have : q = w4.heap.size := hq; omega, fun f => f⟩) (fun q f => f.elim), by simp; omega, HOF4.out, ?_⟩
                 exact (hu811.trans' hu1113 (fun q hq h => by have := hnO q h; omega)).trans hfin
              · have t3 : (re != 0) = true := by simpa using hre
                have hof := HOF3.out
                rw [if_neg hre] at hof
                injection hof with h1 h2
                subst h1 h2
                have hx := HX4.out
                rw [if_neg hre, zshape] at hx
                injection hx with h1 h2
                injection h1 with h1 h3
                injection h3 with h3 h4
                subst h1 h2 h3 h4
                have hu810 : Upd (fun q => q = w4.heap.size) W8 w10 := hus.trans ((hu9.trans hu10).mono (fun _ f => f.elim))
                have U110 := Lib.hid (U18.out.upd hu810 (fun h => by omega))
                clear HOF3 HX4 hre
                go_wp2_with (first
                                      | ((with_reducible refine this_op (.store 50 (.tmp 9) (.tmp 81)) ?_); refine wpList_store_row rfl 50 (.tmp 9) (.tmp 81) rfl w10.heap.size _ rfl rfl 50 _ (Blk.new w10 _ _) hsi10 (by rw [hs10.1]; rfl) hs10.2 ?_
                                         obtain ⟨W11, hW11⟩ : ∃ W11, (w10.alloc (.cells #[.int .i64 0, .slice none 0 0] 50)).setRow w10.heap.size cs10 = W11 := ⟨_, rfl⟩
                                         have hu11 : Upd nob w10 W11 := by rw [← hW11]; exact ((Upd.refl nob w10).alloc _).setRow (.inr (Nat.le_refl _)) _
                                         have hb11 : Blk W11 w10.heap.size 50 cs10 := by rw [← hW11]; exact (Blk.new w10 _ _).row _
                                         rw [hW11]
                                         clear hW11
                                         have HB11 := Lib.hid hb11
                                         clear hb11)
                                      | ((with_reducible refine this_op (.store 35 (.tmp 2) (.tmp 85)) ?_); refine wpList_store_row rfl 35 (.tmp 2) (.tmp 85) rfl (w.heap.size + 1) _ rfl rfl 35 _ (U110.out.upd hu11 (fun f => f)) sh_size rfl (by simp [Value.oneCell']) ?_))
                refine bodyPost_ret (results_cell_tmp rfl _ _ (w.heap.size + 1) 35 #[.int .i64 0, .int .i64 0, .int .i64 0, .slice none 0 0, .slice none 0 0] (0, 0) _ (.int .i64 re) rfl rfl ((U110.out.upd hu11 (fun f => f)).row _) Try.underlying35 rfl sh_size) rfl ?_
                exact ⟨_, rfl, zshape_is _ _, (((huW8.trans' hu810 (fun q hq h => by have : q = w4.heap.size := h; omega)).trans hu11).trans' ((Upd.refl (fun q => q = w.heap.size + 1) _).setRow (.inl rfl) _) (fun q hq h => by omega)).below⟩
            · have t2 : decide ((j : Int) < M) = false := by simp; omega
              have hjm : M = j := by omega
              have hof := HOF.out
              rw [List.drop_eq_nil_of_le (by rw [HM.out, hjm]; exact Nat.le_refl _), ofF] at hof
              injection hof with h1 h2
              subst h1 h2
              have hx := HX4.out
              rw [if_pos rfl] at hx
              injection hx with h1 h2
              injection h1 with h1 h3
              injection h3 with h3 h4
              subst h1 h2 h3 h4
              have r30 : rowAt wr ⟨w4.heap.size, 30, none⟩ #[.int .i64 idx, qx, qy, qz, .slice sA acc.length sc] := sub_row (p := ⟨w4.heap.size, 0, none⟩) HBR.out.rowAt 30 _ (fun i v hv => by
               match i, hv with
               | 0, hv | 1, hv | 2, hv | 3, hv | 4, hv => exact hv
               | (i + 5), hv => simp at hv)
              have U1R := Lib.hid (U18.out.upd hus (fun h => by omega))
              clear HX4 HOF hjm
              go_wp2_with (first
                                  | ((with_reducible refine this_op (.load 35 (.tmp 102)) ?_); refine wpList_at rfl 35 (.tmp 102) rfl ⟨w4.heap.size, 30, none⟩ rfl _ _ r30 Try.underlying35 rfl sh_size ?_)
                                  | ((with_reducible refine this_op (.store 35 (.tmp 2) (.tmp 103)) ?_); refine wpList_store_row rfl 35 (.tmp 2) (.tmp 103) rfl (w.heap.size + 1) _ rfl rfl 35 _ U1R.out sh_size rfl (hone5 _ _ _ _) ?_))
              refine bodyPost_ret (results_cell_tmp rfl _ _ (w.heap.size + 1) 35 #[.int .i64 idx, qx, qy, qz, .slice sA acc.length sc] (0, 0) _ (.int .i64 0) rfl rfl (U1R.out.row _) Try.underlying35 rfl sh_size) rfl ?_
              have hfin : Upd (fun q => q = w.heap.size + 1) wr (wr.setRow (w.heap.size + 1) #[.int .i64 idx, qx, qy, qz, .slice sA acc.length sc]) := (Upd.refl (fun q => q = w.heap.size + 1) wr).setRow (.inl rfl) _
              have hsf : (wr.setRow (w.heap.size + 1) #[.int .i64 idx, qx, qy, qz, .slice sA acc.length sc]).heap.size = wr.heap.size := by simp
              have e9 : (n : Int) - (p : Int) = (idx : Int) := by have := HIDX.out; omega
              have hwW8 := huW8.size
              refine ⟨_, rfl, ⟨qx, qy, qz, sA, sc, by rw [e9], ?_, fun i y hy => ?_⟩, ((huW8.trans' hus (fun q hq h => by have : q = w4.heap.size := h; omega)).trans' hfin (fun q hq h => by omega)).below⟩
              · refine HLV8.out.old ((Old.of_upd hus fun q hq => ⟨fun h => (hDl q hq).1 h, by have := (hDl q hq).2.2.1; omega⟩).trans (Old.of_upd hfin fun q hq => ⟨fun h => (hDl q hq).2.1 h, by have := (hDl q hq).2.2.1; omega⟩)) (fun q hq => ?_)
                have h9 := hDl q hq
                exact h9.2.2.2.elim .inl fun h => .inr ⟨h, by have := h9.2.2.1; omega⟩
              · obtain ⟨A9, c9, hv9, _, hrows⟩ := HCO.out.row_at
                injection hv9 with z1 z2 z3
                subst z1 z3
                obtain ⟨a, csy, g1, g2, g3, g4⟩ := hrows i y hy
                have ho : Old (fun q => nob q ∨ (W8.heap.size ≤ q ∧ q < wr.heap.size)) wr (wr.setRow (w.heap.size + 1) #[.int .i64 idx, qx, qy, qz, .slice sA acc.length sc]) := Old.of_upd hfin fun q hq => hq.elim (fun f => f.elim) fun h => ⟨by omega, h.2⟩
                refine ⟨a, csy, g1, .inr ⟨by omega, by omega⟩, g3.old ho (by rw [Addr_add_block]; exact .inr g2), CsIs.old (D := fun x => nob x ∨ (W8.heap.size ≤ x ∧ x < wr.heap.size)) (w := wr) g4 ho fun q hq => hq.elim (fun f => f.elim) fun h => .inr ⟨by omega, by omega⟩⟩
         · have hx := HX2.out
           rw [tof_14 HSP.out HN.out hm6 hr, zshape] at hx
           injection hx with h1 h2
           injection h1 with h1 h3
           injection h3 with h3 h4
           subst h1 h2 h3 h4
           clear HX2 HSP
           by_cases hr2 : rk = 2
           · subst hr2
             have hnp : n < p := by omega
             clear hr
             go_wp2_with (first
                               | ((with_reducible refine this_op (.store 27 (.tmp 5) (.tmp 35)) ?_); refine wpList_store_row rfl 27 (.tmp 5) (.tmp 35) rfl w2.heap.size _ rfl rfl 27 _ (Blk.new w2 _ _) tm_size rfl hs2.2 ?_
                                  obtain ⟨W3, hW3⟩ : ∃ W3, (w2.alloc (.cells #[.int .i64 0, .int .i64 0, .string ByteArray.empty, .int .i64 0, .int .i64 0, .slice none 0 0, .slice none 0 0, .slice none 0 0] 27)).setRow w2.heap.size #[.int .i64 2, .int .i64 rn, .string rnm, lx, ly, lz, .slice LA rls.length Lc, .slice KA rks.length Kc] = W3 := ⟨_, rfl⟩
                                  have hu3 : Upd nob w2 W3 := by rw [← hW3]; exact ((Upd.refl nob w2).alloc _).setRow (.inr (Nat.le_refl _)) _
                                  have hb3 : Blk W3 w2.heap.size 27 #[.int .i64 2, .int .i64 rn, .string rnm, lx, ly, lz, .slice LA rls.length Lc, .slice KA rks.length Kc] := by rw [← hW3]; exact (Blk.new w2 _ _).row _
                                  rw [hW3]
                                  clear hW3
                                  have hu13 := hu2.trans hu3
                                  have u0 := HK0.out.upd hu13 (fun f => f)
                                  have u1 := HK1.out.upd hu13 (fun f => f)
                                  have q5 : W3.cell? ⟨w.heap.size, 19, none⟩ = some (.int .i64 p) := u0.cell 19
                                  have q0 : W3.cell? ⟨w2.heap.size, 0, none⟩ = some (.int .i64 2) := hb3.cell 0
                                  have U0 := Lib.hid u0
                                  have U1 := Lib.hid u1
                                  have HB3 := Lib.hid hb3
                                  clear u0 u1 hb3)
                               | ((with_reducible refine this_op (.store 35 (.tmp 2) (.tmp 46)) ?_); refine wpList_store_row rfl 35 (.tmp 2) (.tmp 46) rfl (w.heap.size + 1) _ rfl rfl 35 _ U1.out sh_size rfl (by simp [Value.oneCell']) ?_))
             refine bodyPost_ret (results_cell_tmp rfl _ _ (w.heap.size + 1) 35 #[.int .i64 0, .int .i64 0, .int .i64 0, .slice none 0 0, .slice none 0 0] (0, 0) _ (.int .i64 14) rfl rfl (U1.out.row _) Try.underlying35 rfl sh_size) rfl ?_
             exact ⟨_, rfl, zshape_is _ _, (((huW1.trans hu2).trans hu3).trans' ((Upd.refl (fun q => q = w.heap.size + 1) _).setRow (.inl rfl) _) (fun q hq h => by omega)).below⟩
           · have t5 : (rk != 2) = true := by simpa using hr2
             clear hr hr2
             go_wp2_with (first
                               | ((with_reducible refine this_op (.store 27 (.tmp 5) (.tmp 35)) ?_); refine wpList_store_row rfl 27 (.tmp 5) (.tmp 35) rfl w2.heap.size _ rfl rfl 27 _ (Blk.new w2 _ _) tm_size rfl hs2.2 ?_
                                  obtain ⟨W3, hW3⟩ : ∃ W3, (w2.alloc (.cells #[.int .i64 0, .int .i64 0, .string ByteArray.empty, .int .i64 0, .int .i64 0, .slice none 0 0, .slice none 0 0, .slice none 0 0] 27)).setRow w2.heap.size #[.int .i64 rk, .int .i64 rn, .string rnm, lx, ly, lz, .slice LA rls.length Lc, .slice KA rks.length Kc] = W3 := ⟨_, rfl⟩
                                  have hu3 : Upd nob w2 W3 := by rw [← hW3]; exact ((Upd.refl nob w2).alloc _).setRow (.inr (Nat.le_refl _)) _
                                  have hb3 : Blk W3 w2.heap.size 27 #[.int .i64 rk, .int .i64 rn, .string rnm, lx, ly, lz, .slice LA rls.length Lc, .slice KA rks.length Kc] := by rw [← hW3]; exact (Blk.new w2 _ _).row _
                                  rw [hW3]
                                  clear hW3
                                  have hu13 := hu2.trans hu3
                                  have u0 := HK0.out.upd hu13 (fun f => f)
                                  have u1 := HK1.out.upd hu13 (fun f => f)
                                  have q5 : W3.cell? ⟨w.heap.size, 19, none⟩ = some (.int .i64 p) := u0.cell 19
                                  have q0 : W3.cell? ⟨w2.heap.size, 0, none⟩ = some (.int .i64 rk) := hb3.cell 0
                                  have U0 := Lib.hid u0
                                  have U1 := Lib.hid u1
                                  have HB3 := Lib.hid hb3
                                  clear u0 u1 hb3)
                               | ((with_reducible refine this_op (.store 35 (.tmp 2) (.tmp 46)) ?_); refine wpList_store_row rfl 35 (.tmp 2) (.tmp 46) rfl (w.heap.size + 1) _ rfl rfl 35 _ U1.out sh_size rfl (by simp [Value.oneCell']) ?_))
             refine bodyPost_ret (results_cell_tmp rfl _ _ (w.heap.size + 1) 35 #[.int .i64 0, .int .i64 0, .int .i64 0, .slice none 0 0, .slice none 0 0] (0, 0) _ (.int .i64 14) rfl rfl (U1.out.row _) Try.underlying35 rfl sh_size) rfl ?_
             exact ⟨_, rfl, zshape_is _ _, (((huW1.trans hu2).trans hu3).trans' ((Upd.refl (fun q => q = w.heap.size + 1) _).setRow (.inl rfl) _) (fun q hq h => by omega)).below⟩
 · have t1 : (dk != 3) = true := by simpa using c1
   obtain ⟨rfl, rfl, rfl, rfl⟩ := BAD.out (.inl c1)
   clear BAD HX c1
   go_enter Try.func10, Try.ntmps10
   go_wp2_with (first
       | ((with_reducible refine this_op (.store 35 (.tmp 2) (.tmp 29)) ?_); refine wpList_store_row rfl 35 (.tmp 2) (.tmp 29) rfl (w.heap.size + 1) _ rfl rfl 35 _ (by rw [HW1.out]; exact HK1.out) sh_size rfl (by simp [Value.oneCell']) ?_))
   refine bodyPost_ret (results_cell_tmp rfl _ _ (w.heap.size + 1) 35 #[.int .i64 0, .int .i64 0, .int .i64 0, .slice none 0 0, .slice none 0 0] (0, 0) _ (.int .i64 1) rfl rfl ((show Blk _ (w.heap.size + 1) 35 _ from by rw [HW1.out]; exact HK1.out).row _) Try.underlying35 rfl sh_size) rfl ?_
   exact ⟨_, rfl, zshape_is _ _, ((((Upd.refl nob w).alloc _).alloc _).trans' ((Upd.refl (fun q => q = w.heap.size + 1) _).setRow (.inl rfl) _) (fun q hq h => by omega)).below⟩
end Go.Proofs.Ytiampoebdmflgaa

/- The reference's end. -/
namespace Go.Proofs.Ytiampoebdmflgaa
open Go.RowKit
set_option linter.unusedVariables false
set_option maxRecDepth 100000
set_option maxHeartbeats 4000000
set_option linter.unusedSimpArgs false
/-- A place among the parameters where not the variable stands that should. -/
def rbad (p : Nat) (depth : Int) : Nat → List Tm → Bool
 | _, [] => false
 | i, a :: l => (decide (i < p) && (decide (a.k ≠ 1) || decide (a.n ≠ depth - 1 - i))) || rbad p depth (i + 1) l
/-- assizeref13's end. -/
def rend (nm : ByteArray) (m p idx : Nat) (t : Tm) (depth : Int) : Int :=
 if (rSame (rspine t).1 (rself nm m) && decide ((rspine t).2.length = p + idx)) = false then 1
 else if rbad p depth 0 (rspine t).2 = true then 1
 else if (((rspine t).2.drop p).any fun t => rment t nm) = true then 2 else 0
theorem rspF_mem : ∀ (n : Nat) (t : Tm) (acc : List Tm) (x : Tm), x ∈ (rspF n t acc).2 → x ∈ acc ∨ x.height ≤ t.height
 | 0, _, _, _, h => .inl h
 | n + 1, t, acc, x, h => by
  rw [rspF] at h
  split at h
  · split at h
    · rename_i d b r hks
      obtain ⟨k, nn, nm, lv, ls, ks⟩ := t
      simp only [Tm.ks] at hks
      subst hks
      have hd : d.height ≤ Tm.heights (d :: b :: r) := Tm.height_mem (by simp)
      have hb : b.height ≤ Tm.heights (d :: b :: r) := Tm.height_mem (by simp)
      simp only [Tm.height]
      rcases rspF_mem n d (b :: acc) x h with h1 | h1
      · rcases List.mem_cons.1 h1 with h1 | h1
        · subst h1; exact .inr (by omega)
        · exact .inl h1
      · exact .inr (by omega)
    · exact .inl h
  · exact .inl h
theorem rspine_mem {t x : Tm} (h : x ∈ (rspine t).2) : x.height ≤ t.height := by
 unfold rspine at h
 split at h
 · simp at h
 · exact (rspF_mem t.height t [] x h).elim (fun h => by simp at h) id
set_option maxHeartbeats 8000000 in
theorem rend_any (dk : Int) (nm : ByteArray) (m p idx : Nat) (a0 a1 a2 a3 a4 a5 a6 a7 b0 b1 b2 b3 b4 b5 b6 b7 : Value) (cts : Value) (t : Tm) (cs : Array Value) (depth : Int) (D : Nat → Prop) (w : World) (hD : Within D w) (hl : TmIs D w t cs)
    (hm : m ≤ 1000) (hnm : nm.size ≤ 140737488351232) (hp : p ≤ 140737488351232) (hi : idx ≤ 140737488351232) (hd0 : 0 ≤ depth) (hd1 : depth ≤ 1125899906842624) (hth : t.height * 120 ≤ 140737488351232) :
    Calls Try.prog 64 #[.agg #[.int .i64 dk, .string nm, .int .i64 m, a0, a1, a2, a3, a4, a5, a6, a7, b0, b1, b2, b3, b4, b5, b6, b7, .int .i64 p, cts], .int .i64 idx, .agg cs, .int .i64 depth] w fun e w' => e = .returned (.int .i64 (rend nm m p idx t depth)) ∧ Below w.heap.size w w' := by
 have hz := tm_zero
 have hs := hl.oneCell
 have hsi : (Try.prog.info? 27).map (·.size) = some cs.size := by rw [hs.1]; exact tm_size
 obtain ⟨X, hX⟩ : ∃ X, rend nm m p idx t depth = X := ⟨_, rfl⟩
 rw [hX]
 have HX := Lib.hid hX; clear hX
 have HMEM : Hid (∀ x, x ∈ (rspine t).2 → x.height ≤ 4000000000000) := Lib.hid fun x h => by have := rspine_mem h; omega
 obtain ⟨W1, hW1⟩ : ∃ W1, (w.alloc (.cells #[.int .i64 dk, .string nm, .int .i64 m, a0, a1, a2, a3, a4, a5, a6, a7, b0, b1, b2, b3, b4, b5, b6, b7, .int .i64 p, cts] 30)).alloc (.cells cs 27) = W1 := ⟨_, rfl⟩
 have huW1 : Upd nob w W1 := by rw [← hW1]; exact ((Upd.refl nob w).alloc _).alloc _
 have hsW1 : W1.heap.size = w.heap.size + 2 := by rw [← hW1]; simp
 have bk0 : Blk W1 (w.heap.size) 30 #[.int .i64 dk, .string nm, .int .i64 m, a0, a1, a2, a3, a4, a5, a6, a7, b0, b1, b2, b3, b4, b5, b6, b7, .int .i64 p, cts] := by
  rw [← hW1]
  have h := Blk.new (w) 30 #[.int .i64 dk, .string nm, .int .i64 m, a0, a1, a2, a3, a4, a5, a6, a7, b0, b1, b2, b3, b4, b5, b6, b7, .int .i64 p, cts]
  exact h.alloc _
 have bk1 : Blk W1 (w.heap.size + 1) 27 cs := by
  rw [← hW1]
  have h := Blk.new (w.alloc (.cells #[.int .i64 dk, .string nm, .int .i64 m, a0, a1, a2, a3, a4, a5, a6, a7, b0, b1, b2, b3, b4, b5, b6, b7, .int .i64 p, cts] 30)) 27 cs
  rw [World.size_alloc] at h
  exact h
 have hl1 := hl.old (hD.old huW1) (fun _ h => h)
 have hD1 := hD.up huW1
 have rt := bk1.rowAt
 have HB0 := Lib.hid bk0
 have HW1 := Lib.hid hW1
 have HL1 := Lib.hid hl1
 have hltb := bk0.lt
 rw [← hW1] at rt
 clear hl hl1 bk0 bk1 hW1
 go_enter Try.func64, Try.ntmps64
 go_wp2_with (first
       | ((with_reducible refine this_op (.load 27 (.tmp 6)) ?_); refine wpList_at rfl 27 (.tmp 6) rfl ⟨w.heap.size + 1, 0, none⟩ rfl _ _ rt Try.underlying27 rfl hsi ?_))
 rw [HW1.out]
 clear rt HW1
 refine (rspine_any t cs D W1 hD1 HL1.out hth).mono ?_
 rintro e w2 ⟨cs2, A, c, rfl, hl2, ⟨hln, hlc⟩, hat2, hb2⟩
 have hu2 : Upd nob W1 w2 := Upd.of_below hb2
 have hw2s := hu2.size
 have hx := HX.out
 unfold rend at hx
 have HM2 := HMEM.out
 obtain ⟨⟨sh, ar⟩, hsp⟩ : ∃ x, rspine t = x := ⟨_, rfl⟩
 rw [hsp] at hx hl2 hln hlc hat2 HM2 ⊢
 simp only at hx hl2 hln hlc hat2 HM2 ⊢
 obtain ⟨n, hn⟩ : ∃ n, ar.length = n := ⟨_, rfl⟩
 rw [hn] at hln hlc hx ⊢
 have HN := Lib.hid hn
 have hs2 := hl2.oneCell
 have hsi2 : (Try.prog.info? 27).map (·.size) = some cs2.size := by rw [hs2.1]; exact tm_size
 have HL2 := Lib.hid hl2
 have HAT2 := Lib.hid hat2
 have HX2 := Lib.hid hx
 have HMM := Lib.hid HM2
 clear hsp hn hl2 hat2 hx HX HL1 HMEM HM2
 go_wp2_with (first
       | ((with_reducible refine this_op (.store 27 (.tmp 9) (.tmp 18)) ?_); refine wpList_store_row rfl 27 (.tmp 9) (.tmp 18) rfl w2.heap.size _ rfl rfl 27 _ (Blk.new w2 _ _) hsi2 (by rw [hs2.1]; rfl) hs2.2 ?_))
 obtain ⟨W3, hW3⟩ : ∃ W3, (w2.alloc (.cells #[.int .i64 0, .int .i64 0, .string ByteArray.empty, .int .i64 0, .int .i64 0, .slice none 0 0, .slice none 0 0, .slice none 0 0] 27)).setRow w2.heap.size cs2 = W3 := ⟨_, rfl⟩
 have hu3 : Upd nob w2 W3 := by rw [← hW3]; exact ((Upd.refl nob w2).alloc _).setRow (.inr (Nat.le_refl _)) _
 have hb3 : Blk W3 w2.heap.size 27 cs2 := by rw [← hW3]; exact (Blk.new w2 _ _).row _
 rw [hW3]
 clear hW3
 have hw3s := hu3.size
 have hD2 : Within (grow D W1 w2) w2 := fun q hq => hq.elim (fun h => hD1.up hu2 q h) (fun h => h.2)
 have hl3 := HL2.out.old (hD2.old hu3) (fun _ h => h)
 have hat3 := HAT2.out.old (hD2.old hu3) (fun _ h => h)
 have hD3 := hD2.up hu3
 have hu03 : Upd nob w W3 := (huW1.trans hu2).trans hu3
 have b03 := HB0.out.upd (hu2.trans hu3) (fun f => f)
 have hr3 := hb3.rowAt
 have hlt3 := hb3.lt
 have hrd := b03.rowAt
 have hltd := b03.lt
 have p19 : W3.cell? ⟨w.heap.size, 19, none⟩ = some (.int .i64 p) := b03.cell 19
 have B03 := Lib.hid b03
 have HL3 := Lib.hid hl3
 have HAT3 := Lib.hid hat3
 have hpi : IntKind.i64.wrap ((p : Int) + (idx : Int)) = (p : Int) + (idx : Int) := IntWalk.i64_in _ (by omega)
 clear b03 hl3 hat3 hb3 HL2 HAT2 HB0
 generalize grow D W1 w2 = D2 at *
 cases hsm : rSame sh (rself nm m) with
 | false =>
  have hx := HX2.out
  rw [hsm, Bool.false_and, if_pos rfl] at hx
  subst hx
  have HSM := Lib.hid hsm
  clear hsm HX2
  refine wp_region_P (by kernel_rfl) ?_
  refine wpAny_of_held (S := fun X : World => ∀ p : Addr, p.block < W3.heap.size → X.cell? p = W3.cell? p) _ _ _ _ ?_
  have hS : ∀ p : Addr, p.block < W3.heap.size → W3.drew.cell? p = W3.cell? p := fun _ _ => rfl
  refine wpAnyH_take (i := 0) (v := (.agg cs2)) rfl (by kernel_rfl) (by kernel_rfl) (by kernel_rfl) (fun _ _ _ h => h) (Or.inl ⟨by rfl, ?_⟩) hS ?_
  · intro wx hx
    exact run_load_at 27 (.tmp 9) rfl ⟨w2.heap.size, 0, none⟩ rfl cs2 _ (row_on hr3 hlt3 hx) Try.underlying27 rfl hsi2
  try simp only [tl]
  refine wpAnyH_take (i := 1) (v := (.agg #[.int .i64 dk, .string nm, .int .i64 m, a0, a1, a2, a3, a4, a5, a6, a7, b0, b1, b2, b3, b4, b5, b6, b7, .int .i64 p, cts])) rfl (by kernel_rfl) (by kernel_rfl) (by kernel_rfl) (fun _ _ _ h => h) (Or.inl ⟨by rfl, ?_⟩) hS ?_
  · intro wx hx
    exact run_load_at 30 (.tmp 4) rfl ⟨w.heap.size, 0, none⟩ rfl #[.int .i64 dk, .string nm, .int .i64 m, a0, a1, a2, a3, a4, a5, a6, a7, b0, b1, b2, b3, b4, b5, b6, b7, .int .i64 p, cts] _ (row_on hrd hltd hx) Try.underlying30 rfl dc_size
  try simp only [tl]
  refine wpAnyH_alone (i := 2) (by kernel_rfl) rfl (by rfl) fun K hK => ?_
  go_simp
  refine (rself_any dk nm m a0 a1 a2 a3 a4 a5 a6 a7 b0 b1 b2 b3 b4 b5 b6 b7 p cts W3.drew hm hnm).mono ?_
  rintro e w4 ⟨cs4, rfl, hl4, hb4⟩
  have hu4 : Upd nob W3 w4 := ((Upd.refl nob W3).drew).trans (Upd.of_below hb4)
  have hw4s := hu4.size
  have HL4 : Hid (TmIs (fun q => D2 q ∨ (W3.heap.size ≤ q ∧ q < w4.heap.size)) w4 (rself nm m) cs4) := Lib.hid (hl4.old (Old.refl _ _) (fun q hq => .inr hq))
  clear hl4
  refine hK _ _ (cells_of_upd hu4) ?_
  clear hK K
  try simp only [tl]
  have hS : ∀ p : Addr, p.block < W3.heap.size → w4.cell? p = W3.cell? p := cells_of_upd hu4
  refine wpAnyH_alone (i := 3) (by kernel_rfl) rfl (by rfl) fun K hK => ?_
  go_simp
  refine (rSame_any sh (rself nm m) cs2 cs4 (fun q => D2 q ∨ (W3.heap.size ≤ q ∧ q < w4.heap.size)) w4 (fun q hq => hq.elim (fun h => hD3.up hu4 q h) (fun h => h.2)) (HL3.out.old (hD3.old hu4) (fun q h => .inl h)) HL4.out).mono ?_
  rintro e w5 ⟨rfl, hb5⟩
  rw [HSM.out]
  have hu5 : Upd nob W3 w5 := hu4.trans (Upd.of_below hb5)
  refine hK _ _ (cells_of_upd hu5) ?_
  clear hK K
  try simp only [tl]
  have hS : ∀ p : Addr, p.block < W3.heap.size → w5.cell? p = W3.cell? p := cells_of_upd hu5
  refine wpAnyH_take (i := 4) (v := ?_) rfl (by kernel_rfl) (by kernel_rfl) (by kernel_rfl) (fun _ _ _ h => h) (Or.inl ⟨by rfl, ?_⟩) hS ?_
  rotate_left
  · intro wx hx
    clear hx
    go_simp
    with_reducible rfl
  try simp only [tl]
  refine wpAnyH_take (i := 5) (v := ?_) rfl (by kernel_rfl) (by kernel_rfl) (by kernel_rfl) (fun _ _ _ h => h) (Or.inl ⟨by rfl, ?_⟩) hS ?_
  rotate_left
  · intro wx hx
    clear hx
    go_simp
    with_reducible rfl
  try simp only [tl]
  refine wpAnyH_take (i := 6) (v := undef) rfl (by kernel_rfl) (by kernel_rfl) (by kernel_rfl) (fun _ _ _ h => h) (Or.inr ⟨by rfl, by rfl⟩) hS ?_
  try simp only [tl]
  refine wpAnyH_take (i := 7) (v := undef) rfl (by kernel_rfl) (by kernel_rfl) (by kernel_rfl) (fun _ _ _ h => h) (Or.inr ⟨by rfl, by rfl⟩) hS ?_
  try simp only [tl]
  refine wpAnyH_take (i := 8) (v := undef) rfl (by kernel_rfl) (by kernel_rfl) (by kernel_rfl) (fun _ _ _ h => h) (Or.inr ⟨by rfl, by rfl⟩) hS ?_
  try simp only [tl]
  refine wpAnyH_take (i := 9) (v := undef) rfl (by kernel_rfl) (by kernel_rfl) (by kernel_rfl) (fun _ _ _ h => h) (Or.inr ⟨by rfl, by rfl⟩) hS ?_
  try simp only [tl]
  refine wpAnyH_take (i := 10) (v := undef) rfl (by kernel_rfl) (by kernel_rfl) (by kernel_rfl) (fun _ _ _ h => h) (Or.inr ⟨by rfl, by rfl⟩) hS ?_
  try simp only [tl]
  refine wpAnyH_take (i := 11) (v := undef) rfl (by kernel_rfl) (by kernel_rfl) (by kernel_rfl) (fun _ _ _ h => h) (Or.inr ⟨by rfl, by rfl⟩) hS ?_
  try simp only [tl]
  refine wpAnyH_take (i := 12) (v := undef) rfl (by kernel_rfl) (by kernel_rfl) (by kernel_rfl) (fun _ _ _ h => h) (Or.inr ⟨by rfl, by rfl⟩) hS ?_
  try simp only [tl]
  refine wpAnyH_take (i := 13) (v := ?_) rfl (by kernel_rfl) (by kernel_rfl) (by kernel_rfl) (fun _ _ _ h => h) (Or.inl ⟨by rfl, ?_⟩) hS ?_
  rotate_left
  · intro wx hx
    clear hx
    go_simp
    with_reducible rfl
  try simp only [tl]
  refine wpAnyH_done (by kernel_rfl) ?_ _
  refine NoPanic.normal ?_
  go_wp2_with fail
  go_ret
  exact ⟨rfl, (hu03.trans hu5).below⟩
 | true =>
  have HSM := Lib.hid hsm
  refine wp_region_P (by kernel_rfl) ?_
  refine wpAny_of_held (S := fun X : World => ∀ p : Addr, p.block < W3.heap.size → X.cell? p = W3.cell? p) _ _ _ _ ?_
  have hS : ∀ p : Addr, p.block < W3.heap.size → W3.drew.cell? p = W3.cell? p := fun _ _ => rfl
  refine wpAnyH_take (i := 0) (v := (.agg cs2)) rfl (by kernel_rfl) (by kernel_rfl) (by kernel_rfl) (fun _ _ _ h => h) (Or.inl ⟨by rfl, ?_⟩) hS ?_
  · intro wx hx
    exact run_load_at 27 (.tmp 9) rfl ⟨w2.heap.size, 0, none⟩ rfl cs2 _ (row_on hr3 hlt3 hx) Try.underlying27 rfl hsi2
  try simp only [tl]
  refine wpAnyH_take (i := 1) (v := (.agg #[.int .i64 dk, .string nm, .int .i64 m, a0, a1, a2, a3, a4, a5, a6, a7, b0, b1, b2, b3, b4, b5, b6, b7, .int .i64 p, cts])) rfl (by kernel_rfl) (by kernel_rfl) (by kernel_rfl) (fun _ _ _ h => h) (Or.inl ⟨by rfl, ?_⟩) hS ?_
  · intro wx hx
    exact run_load_at 30 (.tmp 4) rfl ⟨w.heap.size, 0, none⟩ rfl #[.int .i64 dk, .string nm, .int .i64 m, a0, a1, a2, a3, a4, a5, a6, a7, b0, b1, b2, b3, b4, b5, b6, b7, .int .i64 p, cts] _ (row_on hrd hltd hx) Try.underlying30 rfl dc_size
  try simp only [tl]
  refine wpAnyH_alone (i := 2) (by kernel_rfl) rfl (by rfl) fun K hK => ?_
  go_simp
  refine (rself_any dk nm m a0 a1 a2 a3 a4 a5 a6 a7 b0 b1 b2 b3 b4 b5 b6 b7 p cts W3.drew hm hnm).mono ?_
  rintro e w4 ⟨cs4, rfl, hl4, hb4⟩
  have hu4 : Upd nob W3 w4 := ((Upd.refl nob W3).drew).trans (Upd.of_below hb4)
  have hw4s := hu4.size
  have HL4 : Hid (TmIs (fun q => D2 q ∨ (W3.heap.size ≤ q ∧ q < w4.heap.size)) w4 (rself nm m) cs4) := Lib.hid (hl4.old (Old.refl _ _) (fun q hq => .inr hq))
  clear hl4
  refine hK _ _ (cells_of_upd hu4) ?_
  clear hK K
  try simp only [tl]
  have hS : ∀ p : Addr, p.block < W3.heap.size → w4.cell? p = W3.cell? p := cells_of_upd hu4
  refine wpAnyH_alone (i := 3) (by kernel_rfl) rfl (by rfl) fun K hK => ?_
  go_simp
  refine (rSame_any sh (rself nm m) cs2 cs4 (fun q => D2 q ∨ (W3.heap.size ≤ q ∧ q < w4.heap.size)) w4 (fun q hq => hq.elim (fun h => hD3.up hu4 q h) (fun h => h.2)) (HL3.out.old (hD3.old hu4) (fun q h => .inl h)) HL4.out).mono ?_
  rintro e w5 ⟨rfl, hb5⟩
  rw [HSM.out]
  have hu5 : Upd nob W3 w5 := hu4.trans (Upd.of_below hb5)
  refine hK _ _ (cells_of_upd hu5) ?_
  clear hK K
  try simp only [tl]
  have hS : ∀ p : Addr, p.block < W3.heap.size → w5.cell? p = W3.cell? p := cells_of_upd hu5
  refine wpAnyH_take (i := 4) (v := ?_) rfl (by kernel_rfl) (by kernel_rfl) (by kernel_rfl) (fun _ _ _ h => h) (Or.inl ⟨by rfl, ?_⟩) hS ?_
  rotate_left
  · intro wx hx
    clear hx
    go_simp
    with_reducible rfl
  try simp only [tl]
  refine wpAnyH_take (i := 5) (v := ?_) rfl (by kernel_rfl) (by kernel_rfl) (by kernel_rfl) (fun _ _ _ h => h) (Or.inl ⟨by rfl, ?_⟩) hS ?_
  rotate_left
  · intro wx hx
    clear hx
    go_simp
    with_reducible rfl
  try simp only [tl]
  refine wpAnyH_take (i := 6) (v := ?_) rfl (by kernel_rfl) (by kernel_rfl) (by kernel_rfl) (fun _ _ _ h => h) (Or.inl ⟨by rfl, ?_⟩) hS ?_
  rotate_left
  · intro wx hx
    clear hx
    go_simp
    with_reducible rfl
  try simp only [tl]
  refine wpAnyH_take (i := 7) (v := ?_) rfl (by kernel_rfl) (by kernel_rfl) (by kernel_rfl) (fun _ _ _ h => h) (Or.inl ⟨by rfl, ?_⟩) hS ?_
  rotate_left
  · intro wx hx
    clear hx
    go_simp
    with_reducible rfl
  try simp only [tl]
  refine wpAnyH_take (i := 8) (v := ?_) rfl (by kernel_rfl) (by kernel_rfl) (by kernel_rfl) (fun _ _ _ h => h) (Or.inl ⟨by rfl, ?_⟩) hS ?_
  rotate_left
  · intro wx hx
    clear hx
    go_simp
    with_reducible rfl
  try simp only [tl]
  refine wpAnyH_take (i := 9) (v := ?_) rfl (by kernel_rfl) (by kernel_rfl) (by kernel_rfl) (fun _ _ _ h => h) (Or.inl ⟨by rfl, ?_⟩) hS ?_
  rotate_left
  · intro wx hx
    have q0 := (hx ⟨w.heap.size, 19, none⟩ hltd).trans p19
    clear hx
    go_simp
    with_reducible rfl
  try simp only [tl]
  refine wpAnyH_take (i := 10) (v := ?_) rfl (by kernel_rfl) (by kernel_rfl) (by kernel_rfl) (fun _ _ _ h => h) (Or.inl ⟨by rfl, ?_⟩) hS ?_
  rotate_left
  · intro wx hx
    clear hx
    go_simp
    with_reducible rfl
  try simp only [tl]
  refine wpAnyH_take (i := 11) (v := ?_) rfl (by kernel_rfl) (by kernel_rfl) (by kernel_rfl) (fun _ _ _ h => h) (Or.inl ⟨by rfl, ?_⟩) hS ?_
  rotate_left
  · intro wx hx
    clear hx
    go_simp
    with_reducible rfl
  try simp only [tl]
  refine wpAnyH_take (i := 12) (v := ?_) rfl (by kernel_rfl) (by kernel_rfl) (by kernel_rfl) (fun _ _ _ h => h) (Or.inl ⟨by rfl, ?_⟩) hS ?_
  rotate_left
  · intro wx hx
    clear hx
    go_simp
    with_reducible rfl
  try simp only [tl]
  refine wpAnyH_take (i := 13) (v := ?_) rfl (by kernel_rfl) (by kernel_rfl) (by kernel_rfl) (fun _ _ _ h => h) (Or.inl ⟨by rfl, ?_⟩) hS ?_
  rotate_left
  · intro wx hx
    clear hx
    go_simp
    with_reducible rfl
  try simp only [tl]
  refine wpAnyH_done (by kernel_rfl) ?_ _
  refine NoPanic.normal ?_
  have hw5s := hu5.size
  by_cases hlen : n = p + idx
  · have hne : ((n : Int) != (p : Int) + (idx : Int)) = false := by simp; omega
    have hx := HX2.out
    rw [hsm, Bool.true_and, if_neg (by simp [hlen])] at hx
    have HX3 := Lib.hid hx
    have hpn : p ≤ n := by omega
    have hu05 := hu03.trans hu5
    have hD5 := hD3.up hu5
    have hat5 := HAT3.out.old (hD3.old hu5) (fun _ h => h)
    have b05 := B03.out.upd hu5 (fun f => f)
    have hltd5 := b05.lt
    have B05 := Lib.hid b05
    have HAT5 := Lib.hid hat5
    obtain ⟨V, hV⟩ : ∃ V, rbad p depth 0 ar = V := ⟨_, rfl⟩
    have hx := HX3.out
    rw [hV] at hx
    have HX4 := Lib.hid hx
    have HV := Lib.hid hV
    clear hlen hx hsm HX2 HX3 hat5 b05 hV HAT3 HL3 B03 hr3 hrd p19 hS
    rw [hne]
    clear hne
    go_wp2_with fail
    go_loopg [36] n (fun r v wr => ∃ j : Nat, j + r = n ∧ v = .int .i64 j ∧ rbad p depth j (ar.drop j) = V ∧ Upd nob w5 wr)
    case atStart => exact ⟨0, by omega, rfl, by rw [List.drop_zero]; exact HV.out, Upd.refl _ _⟩
    case round =>
     obtain ⟨j, hj, rfl, hrb, hus⟩ := hrel
     have hws := hus.size
     have p19 : wr.cell? ⟨w.heap.size, 19, none⟩ = some (.int .i64 p) := (B05.out.upd hus (fun f => f)).cell 19
     have hDr := hD5.up hus
     have HRB := Lib.hid hrb
     clear hrb
     by_cases hlt : j < n
     · have t2 : decide ((j : Int) < n) = true := by simp [hlt]
       have hjn : j < ar.length := by rw [HN.out]; exact hlt
       obtain ⟨a, csj, hA, hab, hrow, hlj⟩ := HAT5.out.at_ (List.getElem?_eq_getElem hjn)
       rw [Nat.zero_add] at hrow
       have hdr : ar.drop j = ar[j] :: ar.drop (j + 1) := List.drop_eq_getElem_cons hjn
       have hrb := HRB.out
       rw [hdr, rbad] at hrb
       have hrow' := hrow.old (hD5.old hus) (by rw [Addr_add_block]; exact hab)
       have hsj := hlj.oneCell.2
       obtain ⟨x, hx⟩ : ∃ x, ar[j] = x := ⟨_, rfl⟩
       rw [hx] at hrb hlj
       obtain ⟨x1, x2, x3, Ax, cx, Ax', cx', hlit, hik, hin, _, _, _, _, _, _⟩ := hlj.lit
       obtain ⟨k, hk⟩ : ∃ k, x.k = k := ⟨_, rfl⟩
       obtain ⟨xn, hxn⟩ : ∃ k, x.n = k := ⟨_, rfl⟩
       obtain ⟨xm, hxm⟩ : ∃ k, x.nm = k := ⟨_, rfl⟩
       obtain ⟨l1, hl1⟩ : ∃ k, x.ls.length = k := ⟨_, rfl⟩
       obtain ⟨l2, hl2⟩ : ∃ k, x.ks.length = k := ⟨_, rfl⟩
       rw [hk, hxn, hxm, hl1, hl2] at hlit
       rw [hk, hxn] at hrb
       subst hlit
       have HA := Lib.hid hA
       have HRB2 := Lib.hid hrb
       have hwa : IntKind.i64.wrap (depth - 1) = depth - 1 := IntWalk.i64_in _ (by omega)
       have hwb : IntKind.i64.wrap (depth - 1 - (j : Int)) = depth - 1 - (j : Int) := IntWalk.i64_in _ (by omega)
       clear hA hrow hrb hdr hx hk hxn hxm hl1 hl2 hlj hik hin HRB
       by_cases hjp : j < p
       · have t3 : decide ((j : Int) < p) = true := by simp [hjp]
         by_cases hk1 : k = 1
         · subst hk1
           by_cases hxe : xn = depth - 1 - (j : Int)
           · have t4 : (xn != depth - 1 - (j : Int)) = false := by simpa using hxe
             have hrb := HRB2.out
             have e : rbad p depth (j + 1) (ar.drop (j + 1)) = V := by rw [← hrb]; simp [hxe]
             have HE := Lib.hid e
             clear e hrb HRB2 hxe
             go_wp2_with (first
                                 | ((with_reducible refine this_op (.indexAddr 25 (.tmp 34) (.tmp 36)) ?_); refine wpList_index_at rfl 25 (.tmp 34) (.tmp 36) rfl _ a _ _ rfl HA.out j rfl hlt 27 Try.underlying25 8 tm_size ?_)
                                 | ((with_reducible refine this_op (.load 27 (.tmp 39)) ?_); refine wpList_at rfl 27 (.tmp 39) rfl (a.add (j * 8)) rfl _ _ hrow' Try.underlying27 rfl tm_size ?_)
                                 | ((with_reducible refine this_op (.store 27 (.tmp 12) (.tmp 40)) ?_); refine wpList_store_row rfl 27 (.tmp 12) (.tmp 40) rfl wr.heap.size _ rfl rfl 27 _ (Blk.new wr _ _) tm_size rfl hsj ?_
                                    obtain ⟨W7, hW7⟩ : ∃ W7, (wr.alloc (.cells #[.int .i64 0, .int .i64 0, .string ByteArray.empty, .int .i64 0, .int .i64 0, .slice none 0 0, .slice none 0 0, .slice none 0 0] 27)).setRow wr.heap.size #[.int .i64 1, .int .i64 xn, .string xm, x1, x2, x3, .slice Ax l1 cx, .slice Ax' l2 cx'] = W7 := ⟨_, rfl⟩
                                    have hu7 : Upd nob wr W7 := by rw [← hW7]; exact ((Upd.refl nob wr).alloc _).setRow (.inr (Nat.le_refl _)) _
                                    have hb7 : Blk W7 wr.heap.size 27 #[.int .i64 1, .int .i64 xn, .string xm, x1, x2, x3, .slice Ax l1 cx, .slice Ax' l2 cx'] := by rw [← hW7]; exact (Blk.new wr _ _).row _
                                    rw [hW7]
                                    clear hW7
                                    have s0 : W7.cell? ⟨wr.heap.size, 0, none⟩ = some (.int .i64 1) := hb7.cell 0
                                    have s1 : W7.cell? ⟨wr.heap.size, 1, none⟩ = some (.int .i64 xn) := hb7.cell 1
                                    have p197 : W7.cell? ⟨w.heap.size, 19, none⟩ = some (.int .i64 p) := (hu7.cell (by show w.heap.size < _; omega) (fun f => f)).trans p19
                                    clear hb7))
             go_roundg (gk - 1)
             case measure => omega
             case rel => exact ⟨j + 1, by omega, by go_num, HE.out, hus.trans hu7⟩
           · have t4 : (xn != depth - 1 - (j : Int)) = true := by simpa using hxe
             have hrb := HRB2.out
             have e : V = true := by rw [← hrb]; simp [hxe, hjp]
             have hx := HX4.out
             rw [e, if_pos rfl] at hx
             subst hx
             clear e hrb HRB2 hxe HX4 HV
             go_wp2_with (first
                                 | ((with_reducible refine this_op (.indexAddr 25 (.tmp 34) (.tmp 36)) ?_); refine wpList_index_at rfl 25 (.tmp 34) (.tmp 36) rfl _ a _ _ rfl HA.out j rfl hlt 27 Try.underlying25 8 tm_size ?_)
                                 | ((with_reducible refine this_op (.load 27 (.tmp 39)) ?_); refine wpList_at rfl 27 (.tmp 39) rfl (a.add (j * 8)) rfl _ _ hrow' Try.underlying27 rfl tm_size ?_)
                                 | ((with_reducible refine this_op (.store 27 (.tmp 12) (.tmp 40)) ?_); refine wpList_store_row rfl 27 (.tmp 12) (.tmp 40) rfl wr.heap.size _ rfl rfl 27 _ (Blk.new wr _ _) tm_size rfl hsj ?_
                                    obtain ⟨W7, hW7⟩ : ∃ W7, (wr.alloc (.cells #[.int .i64 0, .int .i64 0, .string ByteArray.empty, .int .i64 0, .int .i64 0, .slice none 0 0, .slice none 0 0, .slice none 0 0] 27)).setRow wr.heap.size #[.int .i64 1, .int .i64 xn, .string xm, x1, x2, x3, .slice Ax l1 cx, .slice Ax' l2 cx'] = W7 := ⟨_, rfl⟩
                                    have hu7 : Upd nob wr W7 := by rw [← hW7]; exact ((Upd.refl nob wr).alloc _).setRow (.inr (Nat.le_refl _)) _
                                    have hb7 : Blk W7 wr.heap.size 27 #[.int .i64 1, .int .i64 xn, .string xm, x1, x2, x3, .slice Ax l1 cx, .slice Ax' l2 cx'] := by rw [← hW7]; exact (Blk.new wr _ _).row _
                                    rw [hW7]
                                    clear hW7
                                    have s0 : W7.cell? ⟨wr.heap.size, 0, none⟩ = some (.int .i64 1) := hb7.cell 0
                                    have s1 : W7.cell? ⟨wr.heap.size, 1, none⟩ = some (.int .i64 xn) := hb7.cell 1
                                    have p197 : W7.cell? ⟨w.heap.size, 19, none⟩ = some (.int .i64 p) := (hu7.cell (by show w.heap.size < _; omega) (fun f => f)).trans p19
                                    clear hb7))
             go_ret
             exact ⟨rfl, ((hu05.trans hus).trans hu7).below⟩
         · have t4 : (k != 1) = true := by simpa using hk1
           have hrb := HRB2.out
           have e : V = true := by rw [← hrb]; simp [hk1, hjp]
           have hx := HX4.out
           rw [e, if_pos rfl] at hx
           subst hx
           clear e hrb HRB2 hk1 HX4 HV
           go_wp2_with (first
                             | ((with_reducible refine this_op (.indexAddr 25 (.tmp 34) (.tmp 36)) ?_); refine wpList_index_at rfl 25 (.tmp 34) (.tmp 36) rfl _ a _ _ rfl HA.out j rfl hlt 27 Try.underlying25 8 tm_size ?_)
                             | ((with_reducible refine this_op (.load 27 (.tmp 39)) ?_); refine wpList_at rfl 27 (.tmp 39) rfl (a.add (j * 8)) rfl _ _ hrow' Try.underlying27 rfl tm_size ?_)
                             | ((with_reducible refine this_op (.store 27 (.tmp 12) (.tmp 40)) ?_); refine wpList_store_row rfl 27 (.tmp 12) (.tmp 40) rfl wr.heap.size _ rfl rfl 27 _ (Blk.new wr _ _) tm_size rfl hsj ?_
                                obtain ⟨W7, hW7⟩ : ∃ W7, (wr.alloc (.cells #[.int .i64 0, .int .i64 0, .string ByteArray.empty, .int .i64 0, .int .i64 0, .slice none 0 0, .slice none 0 0, .slice none 0 0] 27)).setRow wr.heap.size #[.int .i64 k, .int .i64 xn, .string xm, x1, x2, x3, .slice Ax l1 cx, .slice Ax' l2 cx'] = W7 := ⟨_, rfl⟩
                                have hu7 : Upd nob wr W7 := by rw [← hW7]; exact ((Upd.refl nob wr).alloc _).setRow (.inr (Nat.le_refl _)) _
                                have hb7 : Blk W7 wr.heap.size 27 #[.int .i64 k, .int .i64 xn, .string xm, x1, x2, x3, .slice Ax l1 cx, .slice Ax' l2 cx'] := by rw [← hW7]; exact (Blk.new wr _ _).row _
                                rw [hW7]
                                clear hW7
                                have s0 : W7.cell? ⟨wr.heap.size, 0, none⟩ = some (.int .i64 k) := hb7.cell 0
                                have s1 : W7.cell? ⟨wr.heap.size, 1, none⟩ = some (.int .i64 xn) := hb7.cell 1
                                have p197 : W7.cell? ⟨w.heap.size, 19, none⟩ = some (.int .i64 p) := (hu7.cell (by show w.heap.size < _; omega) (fun f => f)).trans p19
                                clear hb7))
           go_ret
           exact ⟨rfl, ((hu05.trans hus).trans hu7).below⟩
       · have t3 : decide ((j : Int) < p) = false := by simp; omega
         have hrb := HRB2.out
         have e : rbad p depth (j + 1) (ar.drop (j + 1)) = V := by rw [← hrb]; simp [hjp]
         have HE := Lib.hid e
         clear e hrb HRB2
         go_wp2_with (first
                         | ((with_reducible refine this_op (.indexAddr 25 (.tmp 34) (.tmp 36)) ?_); refine wpList_index_at rfl 25 (.tmp 34) (.tmp 36) rfl _ a _ _ rfl HA.out j rfl hlt 27 Try.underlying25 8 tm_size ?_)
                         | ((with_reducible refine this_op (.load 27 (.tmp 39)) ?_); refine wpList_at rfl 27 (.tmp 39) rfl (a.add (j * 8)) rfl _ _ hrow' Try.underlying27 rfl tm_size ?_)
                         | ((with_reducible refine this_op (.store 27 (.tmp 12) (.tmp 40)) ?_); refine wpList_store_row rfl 27 (.tmp 12) (.tmp 40) rfl wr.heap.size _ rfl rfl 27 _ (Blk.new wr _ _) tm_size rfl hsj ?_
                            obtain ⟨W7, hW7⟩ : ∃ W7, (wr.alloc (.cells #[.int .i64 0, .int .i64 0, .string ByteArray.empty, .int .i64 0, .int .i64 0, .slice none 0 0, .slice none 0 0, .slice none 0 0] 27)).setRow wr.heap.size #[.int .i64 k, .int .i64 xn, .string xm, x1, x2, x3, .slice Ax l1 cx, .slice Ax' l2 cx'] = W7 := ⟨_, rfl⟩
                            have hu7 : Upd nob wr W7 := by rw [← hW7]; exact ((Upd.refl nob wr).alloc _).setRow (.inr (Nat.le_refl _)) _
                            have hb7 : Blk W7 wr.heap.size 27 #[.int .i64 k, .int .i64 xn, .string xm, x1, x2, x3, .slice Ax l1 cx, .slice Ax' l2 cx'] := by rw [← hW7]; exact (Blk.new wr _ _).row _
                            rw [hW7]
                            clear hW7
                            have s0 : W7.cell? ⟨wr.heap.size, 0, none⟩ = some (.int .i64 k) := hb7.cell 0
                            have s1 : W7.cell? ⟨wr.heap.size, 1, none⟩ = some (.int .i64 xn) := hb7.cell 1
                            have p197 : W7.cell? ⟨w.heap.size, 19, none⟩ = some (.int .i64 p) := (hu7.cell (by show w.heap.size < _; omega) (fun f => f)).trans p19
                            clear hb7))
         go_roundg (gk - 1)
         case measure => omega
         case rel => exact ⟨j + 1, by omega, by go_num, HE.out, hus.trans hu7⟩
     · have t2 : decide ((j : Int) < n) = false := by simp; omega
       have hrb := HRB.out
       rw [List.drop_eq_nil_of_le (by rw [HN.out]; omega), rbad] at hrb
       have hx := HX4.out
       rw [← hrb, if_neg (by decide)] at hx
       have HX5 := Lib.hid hx
       obtain ⟨A9, hA9⟩ : ∃ x, (if c = p then A else A.map (·.add (p * 8))) = x := ⟨_, rfl⟩
       obtain ⟨q, hq⟩ : ∃ q, n - p = q := ⟨_, rfl⟩
       obtain ⟨c9, hc9⟩ : ∃ q, c - p = q := ⟨_, rfl⟩
       obtain ⟨dp, hdp⟩ : ∃ l, ar.drop p = l := ⟨_, rfl⟩
       have hatd := (HAT5.out.old (hD5.old hus) (fun _ h => h)).drop p c (by rw [HN.out]; exact hlc)
       rw [hA9, hdp] at hatd
       have hx := HX5.out
       rw [hdp] at hx
       have hdl : dp.length = q := by rw [← hdp, List.length_drop, HN.out]; exact hq
       have HDL := Lib.hid hdl
       have HMD : Hid (∀ x, x ∈ dp → x.height ≤ 4000000000000) := Lib.hid fun x h => HMM.out x (List.mem_of_mem_drop (by rw [hdp]; exact h))
       have HA9 := Lib.hid hA9
       have HQ := Lib.hid hq
       have HC9 := Lib.hid hc9
       have hqn : q ≤ n := by omega
       have HX6 := Lib.hid hx
       have HATD := Lib.hid hatd
       have b0r := B05.out.upd hus (fun f => f)
       have B0r := Lib.hid b0r
       have hu0r := hu05.trans hus
       clear hx hrb hatd hdp hA9 hq hc9 hdl HX4 HX5 HV HRB HMM HAT5 b0r B05
       go_wp2_with (first
                     | ((with_reducible refine this_op (.slice 25 (.tmp 60) (some (.tmp 62)) none none) ?_); refine wpList_run rfl (.slice A9 q c9) _ (by rw [← HA9.out, ← HQ.out, ← HC9.out]; exact run_slice_l8 25 _ _ rfl A n c rfl p rfl hpn und_tms 8 sz_tms) ?_))
       go_loopg [65] q (fun r v w9 => ∃ j : Nat, j + r = q ∧ v = .int .i64 j ∧ (if ((dp.drop j).any fun t => rment t nm) = true then (2 : Int) else 0) = X ∧ Upd nob wr w9)
       case atStart => exact ⟨0, by omega, rfl, by rw [List.drop_zero]; exact HX6.out, Upd.refl _ _⟩
       case round =>
        clear HX6
        obtain ⟨i, hi9, rfl, hxi, hu9⟩ := hrel
        have HXI := Lib.hid hxi
        clear hxi
        have hw9 := hu9.size
        have hur9 := hu0r.trans hu9
        have hD9 := hDr.up hu9
        have k1 : wr.cell? ⟨w.heap.size, 1, none⟩ = some (.string nm) := (B0r.out.upd hu9 (fun f => f)).cell 1
        have hltw := B0r.out.lt
        by_cases hlq : i < q
        · have t8 : decide ((i : Int) < q) = true := by simp [hlq]
          have hin9 : i < dp.length := by rw [HDL.out]; exact hlq
          obtain ⟨a, csj, hA, hab, hrow, hlj⟩ := HATD.out.at_ (List.getElem?_eq_getElem hin9)
          rw [Nat.zero_add] at hrow
          have hdr : dp.drop i = dp[i] :: dp.drop (i + 1) := List.drop_eq_getElem_cons hin9
          have hhx := HMD.out dp[i] (List.getElem_mem hin9)
          have hxi := HXI.out
          rw [hdr, List.any_cons] at hxi
          obtain ⟨x, hx⟩ : ∃ x, dp[i] = x := ⟨_, rfl⟩
          rw [hx] at hxi hlj hhx
          have hrow' := hrow.old (hDr.old hu9) (by rw [Addr_add_block]; exact hab)
          have hlj' := hlj.old (hDr.old hu9) (fun _ h => h)
          have hsj := hlj.oneCell
          have hsij : (Try.prog.info? 27).map (·.size) = some csj.size := by rw [hsj.1]; exact tm_size
          have HA := Lib.hid hA
          have HXI2 := Lib.hid hxi
          have HLJ := Lib.hid hlj'
          clear hA hrow hxi hdr hx hlj hlj' HXI
          go_wp2_with (first
                            | ((with_reducible refine this_op (.indexAddr 25 (.tmp 63) (.tmp 65)) ?_); refine wpList_index_at rfl 25 (.tmp 63) (.tmp 65) rfl _ a _ _ rfl HA.out i rfl hlq 27 Try.underlying25 8 tm_size ?_)
                            | ((with_reducible refine this_op (.load 27 (.tmp 67)) ?_); refine wpList_at rfl 27 (.tmp 67) rfl (a.add (i * 8)) rfl _ _ hrow' Try.underlying27 rfl hsij ?_)
                            | ((with_reducible refine this_op (.store 27 (.tmp 14) (.tmp 68)) ?_); refine wpList_store_row rfl 27 (.tmp 14) (.tmp 68) rfl wr.heap.size _ rfl rfl 27 _ (Blk.new wr _ _) hsij (by rw [hsj.1]; rfl) hsj.2 ?_
                               obtain ⟨W7, hW7⟩ : ∃ W7, (wr.alloc (.cells #[.int .i64 0, .int .i64 0, .string ByteArray.empty, .int .i64 0, .int .i64 0, .slice none 0 0, .slice none 0 0, .slice none 0 0] 27)).setRow wr.heap.size csj = W7 := ⟨_, rfl⟩
                               have hu7 : Upd nob wr W7 := by rw [← hW7]; exact ((Upd.refl nob wr).alloc _).setRow (.inr (Nat.le_refl _)) _
                               have hb7 : Blk W7 wr.heap.size 27 csj := by rw [← hW7]; exact (Blk.new wr _ _).row _
                               rw [hW7]
                               clear hW7
                               have r7 := hb7.rowAt
                               have k17 : W7.cell? ⟨w.heap.size, 1, none⟩ = some (.string nm) := (hu7.cell (by show w.heap.size < _; omega) (fun f => f)).trans k1
                               clear hb7)
                            | ((with_reducible refine this_op (.load 27 (.tmp 14)) ?_); refine wpList_at rfl 27 (.tmp 14) rfl ⟨wr.heap.size, 0, none⟩ rfl _ _ r7 Try.underlying27 rfl hsij ?_))
          refine (rment_any x nm csj D2 W7 (hD9.up hu7) (HLJ.out.old (hD9.old hu7) (fun _ h => h)) hhx).mono ?_
          rintro e w8 ⟨rfl, hb8⟩
          have hu78 : Upd nob W7 w8 := Upd.of_below hb8
          clear r7 k17
          cases hq9 : rment x nm with
          | true =>
           have hxi := HXI2.out
           rw [hq9, Bool.true_or, if_pos rfl] at hxi
           subst hxi
           clear HXI2 hq9
           go_wp2_with fail
           go_ret
           exact ⟨rfl, ((hur9.trans hu7).trans hu78).below⟩
          | false =>
           have hxi := HXI2.out
           rw [hq9, Bool.false_or] at hxi
           have HXI3 := Lib.hid hxi
           clear HXI2 hq9 hxi
           go_wp2_with fail
           go_roundg (gk - 1)
           case measure => omega
           case rel => exact ⟨i + 1, by omega, by go_num, HXI3.out, (hu9.trans hu7).trans hu78⟩
        · have t8 : decide ((i : Int) < q) = false := by simp; omega
          have hxi := HXI.out
          rw [List.drop_eq_nil_of_le (by rw [HDL.out]; omega)] at hxi
          simp only [List.any_nil, Bool.false_eq_true, if_false] at hxi
          subst hxi
          go_wp2_with fail
          go_ret
          exact ⟨rfl, hur9.below⟩
  · have hne : ((n : Int) != (p : Int) + (idx : Int)) = true := by simp; omega
    have hx := HX2.out
    rw [hsm, Bool.true_and, if_pos (by simp [hlen])] at hx
    subst hx
    clear HX2 hsm
    go_wp2_with fail
    go_ret
    exact ⟨rfl, (hu03.trans hu5).below⟩
end Go.Proofs.Ytiampoebdmflgaa

/- The reference's Row. -/
namespace Go.Proofs.Ytiampoebdmflgaa
open Go.RowKit
set_option linter.unusedVariables false
set_option maxRecDepth 100000
set_option maxHeartbeats 4000000
set_option linter.unusedSimpArgs false
theorem rrow_any (t : Tm) (cs : Array Value) (D : Nat → Prop) (w : World) (hD : Within D w) (hl : TmIs D w t cs) (hlen : (trow t).1.length * 120 ≤ 140737488351232) :
    Calls Try.prog 14 #[.agg cs] w fun e w' => ∃ cs' A c, e = .returned (.tuple #[.slice A (trow t).1.length c, .agg cs']) ∧ TmIs (grow D w w') w' (trow t).2 cs' ∧
     ((trow t).1.length ≤ c) ∧ TmsAt (grow D w w') w' (trow t).1 A 0 ∧ Below w.heap.size w w' := by
 have hz := tm_zero
 have hs := hl.oneCell
 have hsi : (Try.prog.info? 27).map (·.size) = some cs.size := by rw [hs.1]; exact tm_size
 obtain ⟨⟨X1, X2⟩, hX⟩ : ∃ X, trow t = X := ⟨_, rfl⟩
 rw [hX] at hlen ⊢
 have HX := Lib.hid hX; clear hX
 obtain ⟨W1, hW1⟩ : ∃ W1, (w.alloc (.cells cs 27)).alloc (.cells #[.int .i64 0, .int .i64 0, .string ByteArray.empty, .int .i64 0, .int .i64 0, .slice none 0 0, .slice none 0 0, .slice none 0 0] 27) = W1 := ⟨_, rfl⟩
 have huW1 : Upd nob w W1 := by rw [← hW1]; exact ((Upd.refl nob w).alloc _).alloc _
 have hsW1 : W1.heap.size = w.heap.size + 2 := by rw [← hW1]; simp
 have bk0 : Blk W1 (w.heap.size) 27 cs := by
  rw [← hW1]
  have h := Blk.new (w) 27 cs
  exact h.alloc _
 have bk1 : Blk W1 (w.heap.size + 1) 27 #[.int .i64 0, .int .i64 0, .string ByteArray.empty, .int .i64 0, .int .i64 0, .slice none 0 0, .slice none 0 0, .slice none 0 0] := by
  rw [← hW1]
  have h := Blk.new (w.alloc (.cells cs 27)) 27 #[.int .i64 0, .int .i64 0, .string ByteArray.empty, .int .i64 0, .int .i64 0, .slice none 0 0, .slice none 0 0, .slice none 0 0]
  rw [World.size_alloc] at h
  exact h
 have hl1 := hl.old (hD.old huW1) (fun _ h => h)
 clear hs hsi hl
 have HW1 := Lib.hid hW1; clear hW1
 go_enter Try.func14, Try.ntmps14
 go_wp2_with fail
 rw [HW1.out]
 clear HW1
 go_loopg [4] t.height (fun n v4 wr => ∃ cur ccs acc, Blk wr w.heap.size 27 ccs ∧ TmIs D wr cur ccs ∧ Coll tmR D (w.heap.size + 2) 27 wr v4 acc ∧ Blk wr (w.heap.size + 1) 27 #[.int .i64 0, .int .i64 0, .string ByteArray.empty, .int .i64 0, .int .i64 0, .slice none 0 0, .slice none 0 0, .slice none 0 0] ∧ rowF n cur acc = (X1, X2) ∧ cur.height ≤ n ∧ Upd nob w wr ∧ w.heap.size + 2 ≤ wr.heap.size)
 case atStart => exact ⟨t, cs, [], bk0, hl1, Coll.nil_, bk1, HX.out, Nat.le_refl _, huW1, by omega⟩
 case round =>
  clear bk0 bk1 huW1 hl1 hsW1 HX
  obtain ⟨cur, ccs, acc, c0, hcl, hco, c1, hsp, hcv, hu, hsz⟩ := hrel
  have hDr := hD.up hu
  have hED : ∀ x, D x → x < w.heap.size + 2 := fun x hx => by have := hD x hx; omega
  obtain ⟨sA, sc, rfl, hscp⟩ := hco.form
  obtain ⟨k, n, nm, lv, ls, ks⟩ := cur
  have hcl0 := Lib.hid hcl
  obtain ⟨x, y, z, A, c, A', c', rfl, hk, hn, hnm, hlv, hls1, hls, hks1, hks⟩ := hcl.lit
  simp only [Tm.k, Tm.n, Tm.nm, Tm.lv, Tm.ls, Tm.ks] at c0 hk hn hnm hlv hls1 hls hks1 hks hcl0
  clear hcl
  have q0 : wr.cell? ⟨w.heap.size, 0, none⟩ = some (.int .i64 k) := c0.cell 0
  have r0 := c0.rowAt
  have C0 := Lib.hid c0
  have C1 := Lib.hid c1
  have HSP := Lib.hid hsp
  have HCO := Lib.hid hco
  clear c0 c1 hsp hco
  by_cases hk3 : k = 3
  · subst hk3
    go_wp2_with (first
              | ((with_reducible refine this_op (.load 27 (.tmp 1)) ?_); go_big_want; refine owp_load_at 27 (.tmp 1) rfl ⟨w.heap.size, 0, none⟩ rfl _ _ r0 Try.underlying27 rfl tm_size ?_))
    refine (rleaf_any _ _ D wr hcl0.out).mono ?_
    rintro e w9 ⟨rfl, hb9⟩
    have hu9 : Upd nob wr w9 := Upd.of_below hb9
    have hw9s := hu9.size
    have d0 := C0.out.upd hu9 (fun f => f)
    have d1 := C1.out.upd hu9 (fun f => f)
    have hco := HCO.out.upd hu9 (fun _ f => f.elim) (fun x h => by have := hED x h; omega)
    have hcl9 := Lib.hid (hcl0.out.old (hDr.old hu9) (fun _ h => h))
    have hks9 := hks.old (hDr.old hu9) (fun _ h => h)
    have hu := hu.trans hu9
    have hD9 := hDr.up hu9
    have q7 : w9.cell? ⟨w.heap.size, 7, none⟩ = some (.slice A' ks.length c') := d0.cell 7
    have r9 := d0.rowAt
    have C0 := Lib.hid d0
    have C1 := Lib.hid d1
    have HCO := Lib.hid hco
    clear hcl0 r0 q0 d0 d1 hco hks
    by_cases hgo : 2 ≤ ks.length
    · have hlf : (Tm.mk 3 n nm lv ls ks).rleaf = false := by
        show (decide (tar 3 < 0) || decide ((ks.length : Int) < tar 3)) = false
        have h8 : tar 3 = 2 := by decide
        rw [h8]; simp; omega
      rw [hlf]
      clear hlf
      have hkl0 : 0 < ks.length := by omega
      have hkl1 : 1 < ks.length := by omega
      have hh1 : (ks[1]'hkl1).height ≤ Tm.heights ks := Tm.height_mem (List.getElem_mem _)
      simp only [Tm.height] at hcv
      obtain ⟨g', rfl⟩ : ∃ g', gk = g' + 1 := ⟨gk - 1, by omega⟩
      have hst := rowF_step (n := g') (t := .mk 3 n nm lv ls ks) (acc := acc) rfl hkl1
      have hsp2 : rowF g' (ks[1]'hkl1) (acc ++ [ks[0]'hkl0]) = (X1, X2) := hst.symm.trans HSP.out
      have hlen2 : acc.length + 1 ≤ X1.length := by
       have h9 := rowF_len g' (ks[1]'hkl1) (acc ++ [ks[0]'hkl0])
       rw [hsp2] at h9
       simpa using h9
      have HSP2 := Lib.hid hsp2
      obtain ⟨a1, cs1, hA1, hab1, hrow1, hl1⟩ := hks9.at_ (List.getElem?_eq_getElem hkl1)
      obtain ⟨a2, cs2, hA2, hab2, hrow2, hl2⟩ := hks9.at_ (j := 0) (List.getElem?_eq_getElem hkl0)
      have haa : a1 = a2 := by rw [hA1] at hA2; simpa using hA2
      subst haa
      have hs1 := hl1.oneCell
      have hs2 := hl2.oneCell
      have hsi1 : (Try.prog.info? 27).map (·.size) = some cs1.size := by rw [hs1.1]; exact tm_size
      have hsi2 : (Try.prog.info? 27).map (·.size) = some cs2.size := by rw [hs2.1]; exact tm_size
      have HA1 := Lib.hid hA1
      have hu5 : Upd nob w9 (w9.alloc (.cells cs2 27)) := (Upd.refl nob w9).alloc _
      have hnO : ∀ q, (Value.slice sA acc.length sc).ownBlock = some q → w.heap.size + 2 ≤ q ∧ q < w9.heap.size := fun q h => HCO.out.lt h
      have hc5 : Coll tmR D (w.heap.size + 2) 27 (w9.alloc (.cells cs2 27)) (.slice sA acc.length sc) acc := HCO.out.upd hu5 (fun _ f => f.elim) (fun x h => by have := hED x h; omega)
      have hl5 : tmR.is D (w9.alloc (.cells cs2 27)) (ks[0]'hkl0) cs2 := hl2.old (hD9.old hu5) (fun _ h => h)
      have hD5 : ∀ q, D q → cd D (w.heap.size + 2) (w9.alloc (.cells cs2 27)) (.slice sA acc.length sc) q := fun q hq => ⟨.inl hq, fun h => by have := (hnO q h).1; have := hED q hq; omega⟩
      have HC5 := Lib.hid hc5
      clear hA1 hA2 hc5 hst hsp2 HSP
      go_wp2_with (first
                  | ((with_reducible refine this_op (.indexAddr 25 (.tmp 15) (.const (.int .i64 0))) ?_); refine wpList_index_at rfl 25 (.tmp 15) (.const (.int .i64 0)) rfl _ a1 _ _ rfl HA1.out 0 rfl hkl0 27 Try.underlying25 8 tm_size ?_)
                  | ((with_reducible refine this_op (.load 27 (.tmp 16)) ?_); refine wpList_at rfl 27 (.tmp 16) rfl (a1.add (0 * 8)) rfl _ _ hrow2 Try.underlying27 rfl hsi2 ?_)
                  | ((with_reducible refine this_op (.buildSlice 25 1 #[(0, .tmp 17)]) ?_); refine wpList_build1 rfl 25 27 (.tmp 17) rfl _ 8 120 Try.underlying25 tm_info (by decide) (by decide) cs2 rfl hs2.1 ?_)
                  | (at_builtin; refine wpList_collect rfl (.tmp 13) (.tmp 18) 25 rfl _ 120 Try.underlying25 tm_info (by kernel_rfl) (by decide) rfl HC5.out hED w9.heap.size cs2 rfl (Blk.new _ _ _) (ks[0]'hkl0) _ hl5 hD5 acc.length rfl (by omega) (by omega) (by simp; omega) ?_
                     intro sA6 sc6 w6 hc6 hu6 hat6
                     have hu7 : Upd (fun q => (Value.slice sA acc.length sc).ownBlock = some q) w9 w6 := (hu5.mono (fun _ f => f.elim)).trans hu6
                     have b6 := C0.out.upd hu7 (fun h => by have := (hnO _ h).1; omega)
                     have e7 : w6.cell? ⟨w.heap.size, 7, none⟩ = some (.slice A' ks.length c') := b6.cell 7
                     have b61 := C1.out.upd hu7 (fun h => by have := (hnO _ h).1; omega)
                     have ho6 : Old D w9 w6 := Old.of_upd hu7 fun q hq => ⟨fun h => by have := (hnO q h).1; have := hED q hq; omega, hD9 q hq⟩
                     have hr1 := hrow1.old ho6 (by rw [Addr_add_block]; exact hab1)
                     have hl1' := hl1.old ho6 (fun _ h => h)
                     have HC6 := Lib.hid hc6
                     have HU7 := Lib.hid hu7
                     have HB6 := Lib.hid b6
                     have HB1 := Lib.hid b61
                     have HL2 := Lib.hid hl1'
                     clear hc6 hu6 hu7 b6 b61 hl1')
                  | ((with_reducible refine this_op (.indexAddr 25 (.tmp 21) (.const (.int .i64 1))) ?_); refine wpList_index_at rfl 25 (.tmp 21) (.const (.int .i64 1)) rfl _ a1 _ _ rfl HA1.out 1 rfl hkl1 27 Try.underlying25 8 tm_size ?_)
                  | ((with_reducible refine this_op (.load 27 (.tmp 22)) ?_); refine wpList_at rfl 27 (.tmp 22) rfl (a1.add (1 * 8)) rfl _ _ hr1 Try.underlying27 rfl hsi1 ?_)
                  | ((with_reducible refine this_op (.store 27 (.tmp 1) (.tmp 23)) ?_); refine wpList_store_row rfl 27 (.tmp 1) (.tmp 23) rfl w.heap.size _ rfl rfl 27 _ HB6.out hsi1 (by rw [hs1.1]; rfl) hs1.2 ?_))
      go_roundg g'
      case measure => omega
      case rel =>
       have hfin : Upd (fun q => q = w.heap.size) w6 (w6.setRow w.heap.size cs1) := (Upd.refl (fun q => q = w.heap.size) w6).setRow (.inl rfl) _
       have hs7 := HU7.out.size
       refine ⟨ks[1]'hkl1, cs1, acc ++ [ks[0]'hkl0], HB6.out.row _, HL2.out.old (Old.of_upd hfin fun q hq => ⟨fun h => by have := hD q hq; omega, by have := hED q hq; omega⟩) (fun _ h => h), ?_, HB1.out.rowFar (by omega) _, HSP2.out, by omega, ?_, ?_⟩
       · exact HC6.out.upd hfin (fun q hq => ⟨by omega, fun h => by have := hD q h; omega⟩) (fun q h => by have := hED q h; omega)
       · exact (hu.trans' HU7.out (fun q hq h => by have := (hnO q h).1; omega)).trans' hfin (fun q hq h => by omega)
       · have := hfin.size; omega
    · have hlf : (Tm.mk 3 n nm lv ls ks).rleaf = true := by
        show (decide (tar 3 < 0) || decide ((ks.length : Int) < tar 3)) = true
        have h8 : tar 3 = 2 := by decide
        rw [h8]; simp; omega
      rw [hlf]
      clear hlf
      have hend := rowF_end (n := gk) (t := .mk 3 n nm lv ls ks) (acc := acc) (fun h => hgo h.2)
      rw [HSP.out] at hend
      injection hend with hy1 hy2
      subst hy1 hy2
      clear HSP
      have hDr := hD9
      have hcl0 := hcl9
      go_wp2_with fail
      refine wp_region_P (by kernel_rfl) ?_
      refine wpAny_of_E (fun X : World => ∀ p : Addr, p.block < w9.heap.size → X.cell? p = w9.cell? p) 3 _ _ _ _ ?_
      have hS : ∀ p : Addr, p.block < w9.heap.size → w9.drew.cell? p = w9.cell? p := fun _ _ => rfl
      refine wpAnyE_take (i := 0) (v := ?_) [2] rfl (by kernel_rfl) (fun _ _ _ h => h) (Or.inl ⟨by rfl, ?_⟩) hS ?_
      rotate_left
      · intro wx hx
        clear hx
        go_simp
        with_reducible rfl
      try simp only [tl]
      refine wpAnyE_take (i := 1) (v := (.agg #[.int .i64 3, .int .i64 n, .string nm, x, y, z, .slice A ls.length c, .slice A' ks.length c'])) [] rfl (by kernel_rfl) (fun _ _ _ h => h) (Or.inl ⟨by rfl, ?_⟩) hS ?_
      · intro wx hx
        exact run_load_at 27 (.tmp 1) rfl ⟨w.heap.size, 0, none⟩ rfl #[.int .i64 3, .int .i64 n, .string nm, x, y, z, .slice A ls.length c, .slice A' ks.length c'] _ (row_on r9 (by show w.heap.size < _; omega) hx) Try.underlying27 rfl tm_size
      try simp only [tl]
      refine wpAnyE_one (i := 2) (by kernel_rfl) (by kernel_rfl) rfl (by rfl) fun K hK => ?_
      go_simp
      refine hK _ _ hS ?_
      clear hK K
      try simp only [tl]
      refine wpAnyE_z (by kernel_rfl) rfl (by rfl) fun K hK => ?_
      refine owp_store_blk 27 (.tmp 3) (.tmp 25) rfl rfl (w.heap.size + 1) (#[.int .i64 3, .int .i64 n, .string nm, x, y, z, .slice A ls.length c, .slice A' ks.length c']) rfl rfl 27 _ (show Blk w9.drew (w.heap.size + 1) 27 _ from C1.out) tm_size rfl hcl0.out.oneCell.2 ?_
      refine hK _ _ ?_
      clear hK K
      try simp only [tl]
      refine wpAny_done (by kernel_rfl) ?_ _
      refine NoPanic.normal ?_
      go_wp2_with fail
      have hfin : Upd (fun q => q = w.heap.size + 1) w9 (w9.drew.setRow (w.heap.size + 1) #[.int .i64 3, .int .i64 n, .string nm, x, y, z, .slice A ls.length c, .slice A' ks.length c']) := ((Upd.refl (fun q => q = w.heap.size + 1) w9).drew).setRow (.inl rfl) _
      have hsf : (w9.drew.setRow (w.heap.size + 1) #[.int .i64 3, .int .i64 n, .string nm, x, y, z, .slice A ls.length c, .slice A' ks.length c']).heap.size = w9.heap.size := by simp
      refine bodyPost_ret (results_tmp_cell rfl _ _ (w.heap.size + 1) 27 #[.int .i64 3, .int .i64 n, .string nm, x, y, z, .slice A ls.length c, .slice A' ks.length c'] (0, 0) _ (.slice sA X1.length sc) rfl rfl ((show Blk w9.drew (w.heap.size + 1) 27 _ from C1.out).row _) Try.underlying27 rfl tm_size) rfl ?_
      have hco9 := HCO.out.upd hfin (fun q hq => ⟨by omega, fun h => by have := hD q h; omega⟩) (fun q h => by have := hED q h; omega)
      obtain ⟨A9, c9, hv9, hcap9, hat⟩ := hco9.tms (D := grow D w (w9.drew.setRow (w.heap.size + 1) #[.int .i64 3, .int .i64 n, .string nm, x, y, z, .slice A ls.length c, .slice A' ks.length c'])) (fun q hq => hq.elim .inl fun h => .inr ⟨by omega, h.2⟩)
      injection hv9 with z1 z2 z3
      subst z1 z3
      exact ⟨_, _, _, rfl, hcl0.out.old (Old.of_upd hfin fun q hq => ⟨fun h => by have := hD q hq; omega, hDr q hq⟩) (fun _ h => .inl h), hcap9, hat, (hu.trans' hfin (fun q hq h => by omega)).below⟩
  · have hend := rowF_end (n := gk) (t := .mk k n nm lv ls ks) (acc := acc) (fun h => hk3 h.1)
    rw [HSP.out] at hend
    injection hend with hy1 hy2
    subst hy1 hy2
    clear HSP
    have t1 : (k == 3) = false := by simpa using hk3
    go_wp2_with fail
    refine wp_region_P (by kernel_rfl) ?_
    refine wpAny_of_E (fun X : World => ∀ p : Addr, p.block < wr.heap.size → X.cell? p = wr.cell? p) 3 _ _ _ _ ?_
    have hS : ∀ p : Addr, p.block < wr.heap.size → wr.drew.cell? p = wr.cell? p := fun _ _ => rfl
    refine wpAnyE_take (i := 0) (v := ?_) [2] rfl (by kernel_rfl) (fun _ _ _ h => h) (Or.inl ⟨by rfl, ?_⟩) hS ?_
    rotate_left
    · intro wx hx
      clear hx
      go_simp
      with_reducible rfl
    try simp only [tl]
    refine wpAnyE_take (i := 1) (v := (.agg #[.int .i64 k, .int .i64 n, .string nm, x, y, z, .slice A ls.length c, .slice A' ks.length c'])) [] rfl (by kernel_rfl) (fun _ _ _ h => h) (Or.inl ⟨by rfl, ?_⟩) hS ?_
    · intro wx hx
      exact run_load_at 27 (.tmp 1) rfl ⟨w.heap.size, 0, none⟩ rfl #[.int .i64 k, .int .i64 n, .string nm, x, y, z, .slice A ls.length c, .slice A' ks.length c'] _ (row_on r0 (by show w.heap.size < _; omega) hx) Try.underlying27 rfl tm_size
    try simp only [tl]
    refine wpAnyE_one (i := 2) (by kernel_rfl) (by kernel_rfl) rfl (by rfl) fun K hK => ?_
    go_simp
    refine hK _ _ hS ?_
    clear hK K
    try simp only [tl]
    refine wpAnyE_z (by kernel_rfl) rfl (by rfl) fun K hK => ?_
    refine owp_store_blk 27 (.tmp 3) (.tmp 25) rfl rfl (w.heap.size + 1) (#[.int .i64 k, .int .i64 n, .string nm, x, y, z, .slice A ls.length c, .slice A' ks.length c']) rfl rfl 27 _ (show Blk wr.drew (w.heap.size + 1) 27 _ from C1.out) tm_size rfl hcl0.out.oneCell.2 ?_
    refine hK _ _ ?_
    clear hK K
    try simp only [tl]
    refine wpAny_done (by kernel_rfl) ?_ _
    refine NoPanic.normal ?_
    go_wp2_with fail
    have hfin : Upd (fun q => q = w.heap.size + 1) wr (wr.drew.setRow (w.heap.size + 1) #[.int .i64 k, .int .i64 n, .string nm, x, y, z, .slice A ls.length c, .slice A' ks.length c']) := ((Upd.refl (fun q => q = w.heap.size + 1) wr).drew).setRow (.inl rfl) _
    have hsf : (wr.drew.setRow (w.heap.size + 1) #[.int .i64 k, .int .i64 n, .string nm, x, y, z, .slice A ls.length c, .slice A' ks.length c']).heap.size = wr.heap.size := by simp
    refine bodyPost_ret (results_tmp_cell rfl _ _ (w.heap.size + 1) 27 #[.int .i64 k, .int .i64 n, .string nm, x, y, z, .slice A ls.length c, .slice A' ks.length c'] (0, 0) _ (.slice sA X1.length sc) rfl rfl ((show Blk wr.drew (w.heap.size + 1) 27 _ from C1.out).row _) Try.underlying27 rfl tm_size) rfl ?_
    have hco9 := HCO.out.upd hfin (fun q hq => ⟨by omega, fun h => by have := hD q h; omega⟩) (fun q h => by have := hED q h; omega)
    obtain ⟨A9, c9, hv9, hcap9, hat⟩ := hco9.tms (D := grow D w (wr.drew.setRow (w.heap.size + 1) #[.int .i64 k, .int .i64 n, .string nm, x, y, z, .slice A ls.length c, .slice A' ks.length c'])) (fun q hq => hq.elim .inl fun h => .inr ⟨by omega, h.2⟩)
    injection hv9 with z1 z2 z3
    subst z1 z3
    exact ⟨_, _, _, rfl, hcl0.out.old (Old.of_upd hfin fun q hq => ⟨fun h => by have := hD q hq; omega, hDr q hq⟩) (fun _ h => .inl h), hcap9, hat, (hu.trans' hfin (fun q hq h => by omega)).below⟩
end Go.Proofs.Ytiampoebdmflgaa
