/- Texts put one behind the other: Names, Post. -/
import Derived.Test.YtiampoebdmflgaaSn9
import Derived.Test.YtiampoebdmflgaaSn10
import Derived.Test.YtiampoebdmflgaaSn11
import Derived.Test.YtiampoebdmflgaaSn13
import Derived.Test.YtiampoebdmflgaaRows
import Derived.Test.YtiampoebdmflgaaProg
import Derived.WalkKit
import Derived.ProofKit
import Derived.OpenShut
import Derived.Carry
/- ShapeNames walked. -/
namespace Go.Proofs.Ytiampoebdmflgaa
open Go.RowKit
set_option linter.unusedVariables false
set_option maxRecDepth 100000
set_option maxHeartbeats 4000000
set_option linter.unusedSimpArgs false
theorem dc_zero (w : World) : (zeroValue 30).run Try.prog w = .ok (.agg #[.int .i64 0, .string ByteArray.empty, .int .i64 0, .int .i64 0, .int .i64 0, .string ByteArray.empty, .int .i64 0, .int .i64 0, .slice none 0 0, .slice none 0 0, .slice none 0 0, .int .i64 0, .int .i64 0, .string ByteArray.empty, .int .i64 0, .int .i64 0, .slice none 0 0, .slice none 0 0, .slice none 0 0, .int .i64 0, .slice none 0 0]) w := by kernel_rfl
theorem ct_zero' (w : World) : (zeroValue 46).run Try.prog w = .ok (.agg #[.string ByteArray.empty, .int .i64 0, .int .i64 0, .string ByteArray.empty, .int .i64 0, .int .i64 0, .slice none 0 0, .slice none 0 0, .slice none 0 0]) w := by kernel_rfl
def ctR : Reading (ByteArray × Tm) 9 := ⟨fun D w x cs => ∃ ct, cs = #[Value.string x.1] ++ ct ∧ TmIs D w x.2 ct,
 fun ho hD h => by obtain ⟨ct, h1, h2⟩ := h; exact ⟨ct, h1, h2.old ho hD⟩,
 fun h => by
  obtain ⟨ct, rfl, h2⟩ := h
  obtain ⟨q1, q2⟩ := h2.oneCell
  refine ⟨by simp [q1], ?_⟩
  rw [Array.all_append, q2, Bool.and_true]
  simp [Value.oneCell']⟩
theorem ct_info : (Try.prog.info? 46).map (fun i => (i.zero, i.size, i.bytes)) = some (some (.agg #[.string ByteArray.empty, .int .i64 0, .int .i64 0, .string ByteArray.empty, .int .i64 0, .int .i64 0, .slice none 0 0, .slice none 0 0, .slice none 0 0]), 9, 136) := by kernel_rfl
def othN : ByteArray := ⟨#[111, 116, 104, 101, 114]⟩
theorem shapenames_any (dk : Int) (nm : ByteArray) (vs pa : Int) (ty : Tm) (cts : List (ByteArray × Tm)) (a0 a1 a2 a3 a4 a5 a6 a7 b0 b1 b2 b3 b4 b5 b6 b7 : Value) (cA : Option Addr) (cc : Nat) (w : World)
    (ht : TmIs (There w) w ty #[a0, a1, a2, a3, a4, a5, a6, a7]) (hnm : nm.size ≤ 1048576) (hcs : CtorsAt (There w) w cts cA) (hcl : cts.length ≤ 1048576)
    (hh : ty.wt ≤ 1048576) (hbo : (#[b0, b1, b2, b3, b4, b5, b6, b7] : Array Value).all (·.oneCell') = true) (hhc : ∀ x, x ∈ cts → x.1.size + x.2.wt ≤ 1048576) :
    Calls Try.prog 5 #[.agg #[.int .i64 dk, .string nm, .int .i64 vs, a0, a1, a2, a3, a4, a5, a6, a7, b0, b1, b2, b3, b4, b5, b6, b7, .int .i64 pa, .slice cA cts.length cc]] w fun e w' => e = .returned (.bool true) ∧ Below w.heap.size w w' := by
 obtain ⟨n, hn⟩ : ∃ n, cts.length = n := ⟨_, rfl⟩
 have hone : (#[.int .i64 dk, .string nm, .int .i64 vs, a0, a1, a2, a3, a4, a5, a6, a7, b0, b1, b2, b3, b4, b5, b6, b7, .int .i64 pa, .slice cA cts.length cc] : Array Value).all (·.oneCell') = true := by
  have h1 := ht.oneCell.2
  simp at h1 hbo ⊢
  simp only [h1, hbo, and_true, true_and]
  and_intros <;> rfl
 have HONE := Lib.hid hone
 rw [hn] at HONE
 clear hone hbo
 have HN := Lib.hid hn
 obtain ⟨W1, hW1⟩ : ∃ W, w.alloc (.cells #[.int .i64 dk, .string nm, .int .i64 vs, a0, a1, a2, a3, a4, a5, a6, a7, b0, b1, b2, b3, b4, b5, b6, b7, .int .i64 pa, .slice cA n cc] 30) = W := ⟨_, rfl⟩
 have hu1 : Upd nob w W1 := by rw [← hW1]; exact (Upd.refl nob w).alloc _
 have hb1 : Blk W1 w.heap.size 30 #[.int .i64 dk, .string nm, .int .i64 vs, a0, a1, a2, a3, a4, a5, a6, a7, b0, b1, b2, b3, b4, b5, b6, b7, .int .i64 pa, .slice cA n cc] := by rw [← hW1]; exact Blk.new w _ _
 have HT1 := Lib.hid (ht.old (D' := There W1) ((There_in w).old hu1) (fun _ h => Nat.lt_of_lt_of_le h hu1.size))
 have HC1 := Lib.hid (hcs.old (D' := There W1) ((There_in w).old hu1) (fun _ h => Nat.lt_of_lt_of_le h hu1.size))
 have HB1 := Lib.hid hb1
 rw [hn] at hcl ⊢
 clear ht hcs hn hb1
 go_enter Try.func5, Try.ntmps5
 have r0 := HB1.out.rowAt
 go_wp2_with (first
     | ((with_reducible refine this_op (.load 30 (.tmp 1)) ?_); refine wpList_at rfl 30 (.tmp 1) rfl ⟨w.heap.size, 0, none⟩ rfl _ _ r0 Try.underlying30 rfl dc_size ?_))
 have HW1 := Lib.hid hW1
 clear hW1 r0
 have hcall := light_any dk nm vs pa a0 a1 a2 a3 a4 a5 a6 a7 b0 b1 b2 b3 b4 b5 b6 b7 cA n cc W1
 refine hcall.mono ?_
 clear hcall
 rintro e w2 ⟨rfl, hb2⟩
 have hu2 : Upd nob W1 w2 := Upd.of_below hb2
 have hu02 := hu1.trans hu2
 have HB2 := Lib.hid (HB1.out.upd hu2 (fun f => f))
 have HT2 := Lib.hid (HT1.out.old (D' := There w2) ((There_in W1).old hu2) (fun _ h => Nat.lt_of_lt_of_le h hu2.size))
 have HC2 := Lib.hid (HC1.out.old (D' := There w2) ((There_in W1).old hu2) (fun _ h => Nat.lt_of_lt_of_le h hu2.size))
 clear HB1 HT1 HC1 HW1
 by_cases hM : n ≤ 20
 · have t1 : decide ((n : Int) ≤ 20) = true := by simp; omega
   rw [t1]
   have hB := HB2.out
   have p0 : w2.cell? ⟨w.heap.size, 0, none⟩ = some (.int .i64 dk) := hB.cell 0
   have p1 : w2.cell? ⟨w.heap.size, 1, none⟩ = some (.string nm) := hB.cell 1
   have pl := hB.lt
   clear hB t1
   by_cases hk : dk = 3
   · subst hk
     by_cases hno : nm.toList = [111, 116, 104, 101, 114]
     · have t3 : (nm.toList == [111, 116, 104, 101, 114]) = true := by simp [hno]
       go_wp2_with fail
       refine (awake_any w2).mono ?_
       rintro e wz ⟨rfl, hbz⟩
       go_wp2_with fail
       go_ret
       exact ⟨rfl, (hu02.trans (Upd.of_below hbz)).below⟩
     have t3 : (nm.toList == [111, 116, 104, 101, 114]) = false := by simp [hno]
     have HNO := Lib.hid hno
     clear hno
     have hB := HB2.out
     have p3 : w2.cell? ⟨w.heap.size, 3, none⟩ = some a0 := hB.cell 3
     have p4 : w2.cell? ⟨w.heap.size, 4, none⟩ = some a1 := hB.cell 4
     have p5 : w2.cell? ⟨w.heap.size, 5, none⟩ = some a2 := hB.cell 5
     have p6 : w2.cell? ⟨w.heap.size, 6, none⟩ = some a3 := hB.cell 6
     have p7 : w2.cell? ⟨w.heap.size, 7, none⟩ = some a4 := hB.cell 7
     have p8 : w2.cell? ⟨w.heap.size, 8, none⟩ = some a5 := hB.cell 8
     have p9 : w2.cell? ⟨w.heap.size, 9, none⟩ = some a6 := hB.cell 9
     have p10 : w2.cell? ⟨w.heap.size, 10, none⟩ = some a7 := hB.cell 10
     clear hB
     go_wp2_with fail
     refine (tmay_top ty _ (There w2) w2 6 (There_in w2) HT2.out).mono ?_
     rintro e w3 ⟨r, rfl, hr, hu3⟩
     have hu03 := hu02.trans hu3
     by_cases hr0 : r = 0
     · have HR := Lib.hid (hr hr0)
       subst hr0
       have HB3 := Lib.hid (HB2.out.upd hu3 (fun f => f))
       have HT3 := Lib.hid (HT2.out.old (D' := There w3) ((There_in w2).old hu3) (fun _ h => Nat.lt_of_lt_of_le h hu3.size))
       have HC3 := Lib.hid (HC2.out.old (D' := There w3) ((There_in w2).old hu3) (fun _ h => Nat.lt_of_lt_of_le h hu3.size))
       clear HB2 HT2 HC2 hr p0 p1 p3 p4 p5 p6 p7 p8 p9 p10 pl
       have hB := HB3.out
       have p1 : w3.cell? ⟨w.heap.size, 1, none⟩ = some (.string nm) := hB.cell 1
       have p3 : w3.cell? ⟨w.heap.size, 3, none⟩ = some a0 := hB.cell 3
       have p4 : w3.cell? ⟨w.heap.size, 4, none⟩ = some a1 := hB.cell 4
       have p5 : w3.cell? ⟨w.heap.size, 5, none⟩ = some a2 := hB.cell 5
       have p6 : w3.cell? ⟨w.heap.size, 6, none⟩ = some a3 := hB.cell 6
       have p7 : w3.cell? ⟨w.heap.size, 7, none⟩ = some a4 := hB.cell 7
       have p8 : w3.cell? ⟨w.heap.size, 8, none⟩ = some a5 := hB.cell 8
       have p9 : w3.cell? ⟨w.heap.size, 9, none⟩ = some a6 := hB.cell 9
       have p10 : w3.cell? ⟨w.heap.size, 10, none⟩ = some a7 := hB.cell 10
       have pl := hB.lt
       clear hB
       go_wp2_with fail
       refine (rment_any ty nm _ (There w3) w3 (There_in w3) HT3.out (by have := ty.height_wt; omega)).mono ?_
       rintro e w4 ⟨rfl, hb4⟩
       have hu4 : Upd nob w3 w4 := Upd.of_below hb4
       have hu04 := hu03.trans hu4
       cases hm1 : rment ty nm with
       | true =>
        go_wp2_with fail
        refine (awake_any w4).mono ?_
        rintro e wz ⟨rfl, hbz⟩
        go_wp2_with fail
        go_ret
        exact ⟨rfl, (hu04.trans (Upd.of_below hbz)).below⟩
       | false =>
        have HM1 := Lib.hid hm1
        have HB4 := Lib.hid (HB3.out.upd hu4 (fun f => f))
        have HT4 := Lib.hid (HT3.out.old (D' := There w4) ((There_in w3).old hu4) (fun _ h => Nat.lt_of_lt_of_le h hu4.size))
        have HC4 := Lib.hid (HC3.out.old (D' := There w4) ((There_in w3).old hu4) (fun _ h => Nat.lt_of_lt_of_le h hu4.size))
        clear HB3 HT3 HC3 hm1 p1 p3 p4 p5 p6 p7 p8 p9 p10 pl
        have hB := HB4.out
        have p3 : w4.cell? ⟨w.heap.size, 3, none⟩ = some a0 := hB.cell 3
        have p4 : w4.cell? ⟨w.heap.size, 4, none⟩ = some a1 := hB.cell 4
        have p5 : w4.cell? ⟨w.heap.size, 5, none⟩ = some a2 := hB.cell 5
        have p6 : w4.cell? ⟨w.heap.size, 6, none⟩ = some a3 := hB.cell 6
        have p7 : w4.cell? ⟨w.heap.size, 7, none⟩ = some a4 := hB.cell 7
        have p8 : w4.cell? ⟨w.heap.size, 8, none⟩ = some a5 := hB.cell 8
        have p9 : w4.cell? ⟨w.heap.size, 9, none⟩ = some a6 := hB.cell 9
        have p10 : w4.cell? ⟨w.heap.size, 10, none⟩ = some a7 := hB.cell 10
        have pl := hB.lt
        clear hB
        go_wp2_with fail
        refine (rment_any ty othN _ (There w4) w4 (There_in w4) HT4.out (by have := ty.height_wt; omega)).mono ?_
        rintro e w5 ⟨rfl, hb5⟩
        have hu5 : Upd nob w4 w5 := Upd.of_below hb5
        have hu05 := hu04.trans hu5
        cases hm2 : rment ty othN with
        | true =>
         go_wp2_with fail
         refine (awake_any w5).mono ?_
         rintro e wz ⟨rfl, hbz⟩
         go_wp2_with fail
         go_ret
         exact ⟨rfl, (hu05.trans (Upd.of_below hbz)).below⟩
        | false =>
         have HM2 := Lib.hid hm2
         have HB5 := Lib.hid (HB4.out.upd hu5 (fun f => f))
         have HT5 := Lib.hid (HT4.out.old (D' := There w5) ((There_in w4).old hu5) (fun _ h => Nat.lt_of_lt_of_le h hu5.size))
         have HC5 := Lib.hid (HC4.out.old (D' := There w5) ((There_in w4).old hu5) (fun _ h => Nat.lt_of_lt_of_le h hu5.size))
         clear HB4 HT4 HC4 hm2 p3 p4 p5 p6 p7 p8 p9 p10 pl
         have r5 := HB5.out.rowAt
         have hz := dc_zero
         go_wp2_with (first
          | ((with_reducible refine this_op (.load 30 (.tmp 1)) ?_); refine wpList_at rfl 30 (.tmp 1) rfl ⟨w.heap.size, 0, none⟩ rfl _ _ r5 Try.underlying30 rfl dc_size ?_)
          | ((with_reducible refine this_op (.store 30 (.tmp 3) (.tmp 42)) ?_); refine wpList_store_row rfl 30 (.tmp 3) (.tmp 42) rfl w5.heap.size _ rfl rfl 30 _ (Blk.new w5 _ _) dc_size rfl HONE.out ?_
             obtain ⟨W6, hW6⟩ : ∃ W, (w5.alloc (.cells #[.int .i64 0, .string ByteArray.empty, .int .i64 0, .int .i64 0, .int .i64 0, .string ByteArray.empty, .int .i64 0, .int .i64 0, .slice none 0 0, .slice none 0 0, .slice none 0 0, .int .i64 0, .int .i64 0, .string ByteArray.empty, .int .i64 0, .int .i64 0, .slice none 0 0, .slice none 0 0, .slice none 0 0, .int .i64 0, .slice none 0 0] 30)).setRow w5.heap.size #[.int .i64 3, .string nm, .int .i64 vs, a0, a1, a2, a3, a4, a5, a6, a7, b0, b1, b2, b3, b4, b5, b6, b7, .int .i64 pa, .slice cA n cc] = W := ⟨_, rfl⟩
             have hu6 : Upd nob w5 W6 := by rw [← hW6]; exact ((Upd.refl nob w5).alloc _).setRow (.inr (Nat.le_refl _)) _
             have hb6 : Blk W6 w5.heap.size 30 #[.int .i64 3, .string nm, .int .i64 vs, a0, a1, a2, a3, a4, a5, a6, a7, b0, b1, b2, b3, b4, b5, b6, b7, .int .i64 pa, .slice cA n cc] := by rw [← hW6]; exact (Blk.new w5 _ _).row _
             have hb6' := HB5.out.upd hu6 (fun f => f)
             rw [hW6]
             clear hW6
             have p1 : W6.cell? ⟨w5.heap.size, 1, none⟩ = some (.string nm) := hb6.cell 1
             have p20 : W6.cell? ⟨w5.heap.size, 20, none⟩ = some (.slice cA n cc) := hb6.cell 20
             have q20 : W6.cell? ⟨w.heap.size, 20, none⟩ = some (.slice cA n cc) := hb6'.cell 20
             have f1 := hb6.frozen 1
             have f20 := hb6.frozen 20
             have pl : w5.heap.size < W6.heap.size := hb6.lt
             have pl' : w.heap.size < W6.heap.size := hb6'.lt
             have HB6 := Lib.hid hb6
             have HC6 := Lib.hid hb6'
             have hne : ¬ w.heap.size = w5.heap.size := fun e => by have := HB5.out.lt; omega
             clear hb6 hb6' r5 hz))
         have HNE := Lib.hid hne
         go_loopg [48] n (fun k v wr => ∃ (j : Nat), j + k = n ∧ v = .int .i64 j ∧ Upd (fun q => q = w5.heap.size) W6 wr ∧ (∃ (A : Option Addr) (c : Nat), Blk wr w5.heap.size 30 #[.int .i64 3, .string othN, .int .i64 vs, a0, a1, a2, a3, a4, a5, a6, a7, b0, b1, b2, b3, b4, b5, b6, b7, .int .i64 pa, .slice A j c] ∧ Coll ctR (There w5) W6.heap.size 46 wr (.slice A j c) ((cts.take j).map fun x => (x.1, rn nm othN x.2))) ∧ ∀ x ∈ cts.take j, x.2.wf 6 = true ∧ x.2.nodes ≤ 400 ∧ rment x.2 othN = false)
         case atStart =>
          refine ⟨0, by omega, rfl, ?_, ⟨none, 0, ?_, Coll.nil_⟩, ?_⟩
          · exact ((Upd.refl (fun q => q = w5.heap.size) W6).setCell (p := ⟨w5.heap.size, 1, none⟩) (.inl rfl) _).setCell (p := ⟨w5.heap.size, 20, none⟩) (.inl rfl) _
          · exact (HB6.out.set 1 (.string othN)).set 20 (.slice none 0 0)
          intro x hx; simp at hx
         case round =>
          obtain ⟨j, hj, rfl, hur, ⟨A, c, hbr, hco⟩, hok⟩ := hrel
          have hUr := hur.size
          have hU6 := hu6.size
          have hC := HC5.out.old (((There_in w5).old hu6).trans (Old.of_upd hur fun k hk => ⟨fun e => by unfold There at hk; omega, Nat.lt_of_lt_of_le hk hu6.size⟩)) (fun _ h => h)
          have hlen : ((cts.take j).map fun x => (x.1, rn nm othN x.2)).length = j := by have := HN.out; simp; omega
          have HLEN := Lib.hid hlen
          have HBR := Lib.hid hbr
          have HCO := Lib.hid hco
          have HOK := Lib.hid hok
          have HT1 := Lib.hid (HC6.out.upd hur HNE.out)
          clear hbr hco hok hlen p1 p20 q20 f1 f20 pl pl'
          by_cases hlt : j < n
          · have t5 : decide ((j : Int) < n) = true := by simp [hlt]
            obtain ⟨x, hx⟩ : ∃ x, cts[j]? = some x := ⟨_, List.getElem?_eq_getElem (by have := HN.out; omega)⟩
            obtain ⟨a, cs, hA, hDa, hrow, htm⟩ := hC j x hx
            obtain ⟨yp, yq, yB, ym, yd, yE, yx, yE', yx', rfl⟩ := htm.lit8
            have hwt : x.2.height ≤ 1048576 ∧ x.1.size ≤ 1048576 := by
             have h1 := hhc x (List.mem_of_getElem? hx)
             have h2 := x.2.height_wt
             omega
            have HWT := Lib.hid hwt
            have HA := Lib.hid hA
            have HX := Lib.hid hx
            have HTM := Lib.hid htm
            clear hC hA hx htm hwt
            have hzc := ct_zero'
            go_wp2_with (first
             | ((with_reducible refine this_op (.indexAddr 28 (.tmp 46) (.tmp 48)) ?_); refine wpList_index_at rfl 28 (.tmp 46) (.tmp 48) rfl _ a _ _ rfl HA.out j rfl hlt 46 Try.underlying28 9 ct_size ?_)
             | ((with_reducible refine this_op (.load 46 (.tmp 50)) ?_); refine wpList_at rfl 46 (.tmp 50) rfl (a.add (j * 9)) rfl _ _ hrow Try.underlying46 rfl ct_size ?_))
            obtain ⟨W7, hW7⟩ : ∃ W, wr.alloc (.cells #[Value.string x.1, .int .i64 x.2.k, .int .i64 x.2.n, .string x.2.nm, .int .i64 yp, .int .i64 yq, .slice yB ym yd, .slice yE x.2.ls.length yx, .slice yE' x.2.ks.length yx'] 46) = W := ⟨_, rfl⟩
            have hu7 : Upd nob wr W7 := by rw [← hW7]; exact (Upd.refl nob wr).alloc _
            have hb7 : Blk W7 wr.heap.size 46 #[Value.string x.1, .int .i64 x.2.k, .int .i64 x.2.n, .string x.2.nm, .int .i64 yp, .int .i64 yq, .slice yB ym yd, .slice yE x.2.ls.length yx, .slice yE' x.2.ks.length yx'] := by rw [← hW7]; exact Blk.new wr _ _
            rw [hW7]
            clear hW7 hzc hrow
            have HT7 := Lib.hid (HTM.out.old (D' := There w5) (Old.of_upd hu7 fun k hk => ⟨fun f => f, Nat.lt_of_lt_of_le hk (Nat.le_trans hu6.size hur.size)⟩) (fun _ h => h))
            have HB7 := Lib.hid hb7
            clear hb7
            refine (tmay_top x.2 _ (There w5) W7 6 (fun k hk => Nat.lt_of_lt_of_le hk (Nat.le_trans hu6.size (Nat.le_trans hur.size hu7.size))) HT7.out).mono ?_
            rintro e w8 ⟨r, rfl, hr, hu8⟩
            have hu78 := hu7.trans hu8
            have HB8 := Lib.hid (HB7.out.upd hu8 (fun f => f))
            clear HB7
            by_cases hr0 : r = 0
            · have HR8 := Lib.hid (hr hr0)
              subst hr0
              have HT8 := Lib.hid (HT7.out.old (D' := There w5) (Old.of_upd hu8 fun k hk => ⟨fun f => f, Nat.lt_of_lt_of_le hk (Nat.le_trans hu6.size (Nat.le_trans hur.size hu7.size))⟩) (fun _ h => h))
              clear HT7 hr
              have hB := HB8.out
              have p1 : w8.cell? ⟨wr.heap.size, 1, none⟩ = some (.int .i64 x.2.k) := hB.cell 1
              have p2 : w8.cell? ⟨wr.heap.size, 2, none⟩ = some (.int .i64 x.2.n) := hB.cell 2
              have p3 : w8.cell? ⟨wr.heap.size, 3, none⟩ = some (.string x.2.nm) := hB.cell 3
              have p4 : w8.cell? ⟨wr.heap.size, 4, none⟩ = some (.int .i64 yp) := hB.cell 4
              have p5 : w8.cell? ⟨wr.heap.size, 5, none⟩ = some (.int .i64 yq) := hB.cell 5
              have p6 : w8.cell? ⟨wr.heap.size, 6, none⟩ = some (.slice yB ym yd) := hB.cell 6
              have p7 : w8.cell? ⟨wr.heap.size, 7, none⟩ = some (.slice yE x.2.ls.length yx) := hB.cell 7
              have p8 : w8.cell? ⟨wr.heap.size, 8, none⟩ = some (.slice yE' x.2.ks.length yx') := hB.cell 8
              have pl := hB.lt
              clear hB
              go_wp2_with fail
              refine (rment_any x.2 othN _ (There w5) w8 (fun k hk => Nat.lt_of_lt_of_le hk (Nat.le_trans hu6.size (Nat.le_trans hur.size hu78.size))) HT8.out (by have := HWT.out.1; omega)).mono ?_
              rintro e w9 ⟨rfl, hb9⟩
              have hu9 : Upd nob w8 w9 := Upd.of_below hb9
              have hu79 := hu78.trans hu9
              clear p1 p2 p3 p4 p5 p6 p7 p8 pl hb9
              cases hm : rment x.2 othN with
              | true =>
               go_wp2_with fail
               refine (awake_any w9).mono ?_
               rintro e wz ⟨rfl, hbz⟩
               go_wp2_with fail
               go_ret
               exact ⟨rfl, (((hu05.trans hu6).trans' hur (fun q hq h => by have h : q = w5.heap.size := h; have := hu05.size; omega)).trans (hu79.trans (Upd.of_below hbz))).below⟩
              | false =>
               have HM9 := Lib.hid hm
               have HB9 := Lib.hid (HB8.out.upd hu9 (fun f => f))
               have HT9 := Lib.hid (HT8.out.old (D' := There w5) (Old.of_upd hu9 fun k hk => ⟨fun f => f, Nat.lt_of_lt_of_le hk (Nat.le_trans hu6.size (Nat.le_trans hur.size hu78.size))⟩) (fun _ h => h))
               clear HB8 HT8 hm
               go_wp2_with fail
               have e5r : w5.heap.size < wr.heap.size := HBR.out.lt
               have e6 : W6.heap.size ≤ wr.heap.size := hUr
               have e79 : wr.heap.size < w9.heap.size := HB9.out.lt
               have e05 : w.heap.size < wr.heap.size := HT1.out.lt
               have c20 : w9.drew.cell? ⟨w5.heap.size, 20, none⟩ = some (.slice A j c) := (HBR.out.upd hu79 (fun f => f)).cell 20
               have c1 : w9.drew.cell? ⟨w.heap.size, 1, none⟩ = some (.string nm) := (HT1.out.upd hu79 (fun f => f)).cell 1
               have d0 : w9.drew.cell? ⟨wr.heap.size, 0, none⟩ = some (.string x.1) := HB9.out.cell 0
               have d1 : w9.drew.cell? ⟨wr.heap.size, 1, none⟩ = some (.int .i64 x.2.k) := HB9.out.cell 1
               have d2 : w9.drew.cell? ⟨wr.heap.size, 2, none⟩ = some (.int .i64 x.2.n) := HB9.out.cell 2
               have d3 : w9.drew.cell? ⟨wr.heap.size, 3, none⟩ = some (.string x.2.nm) := HB9.out.cell 3
               have d4 : w9.drew.cell? ⟨wr.heap.size, 4, none⟩ = some (.int .i64 yp) := HB9.out.cell 4
               have d5 : w9.drew.cell? ⟨wr.heap.size, 5, none⟩ = some (.int .i64 yq) := HB9.out.cell 5
               have d6 : w9.drew.cell? ⟨wr.heap.size, 6, none⟩ = some (.slice yB ym yd) := HB9.out.cell 6
               have d7 : w9.drew.cell? ⟨wr.heap.size, 7, none⟩ = some (.slice yE x.2.ls.length yx) := HB9.out.cell 7
               have d8 : w9.drew.cell? ⟨wr.heap.size, 8, none⟩ = some (.slice yE' x.2.ks.length yx') := HB9.out.cell 8
               refine wp_region_P (by kernel_rfl) ?_
               refine wpAny_of_S [11] (fun fl X => fl.getD 0 false = false → ∀ p : Addr, p.block < w9.heap.size → X.cell? p = w9.drew.cell? p) _ _ _ _ ?_
               have hS : [false].getD 0 false = false → ∀ p : Addr, p.block < w9.heap.size → w9.drew.cell? p = w9.drew.cell? p := fun _ _ _ => rfl
               refine sT 0 ?_ [false] rfl (by kernel_rfl) (by rfl) ?_ hS ?_
               rotate_left; · intro wx hx; clear hx; go_simp; with_reducible rfl
               try simp only [tl]
               refine sT 1 ?_ [false] rfl (by kernel_rfl) (by rfl) ?_ hS ?_
               rotate_left
               · rintro wx ⟨L, hL, hun, hx⟩
                 have hx := hx (unl hL [] (by kernel_rfl) hun)
                 have q0 := (hx ⟨w5.heap.size, 20, none⟩ (by show w5.heap.size < _; omega)).trans c20
                 clear hx hL hun
                 go_simp
                 with_reducible rfl
               try simp only [tl]
               refine sT 2 ?_ [false] rfl (by kernel_rfl) (by rfl) ?_ hS ?_
               rotate_left; · intro wx hx; clear hx; go_simp; with_reducible rfl
               try simp only [tl]
               refine sT 3 ?_ [false] rfl (by kernel_rfl) (by rfl) ?_ hS ?_
               rotate_left
               · rintro wx ⟨L, hL, hun, hx⟩
                 have hx := hx (unl hL [10, 9] (by kernel_rfl) hun)
                 have q0 := (hx ⟨wr.heap.size, 0, none⟩ (by show wr.heap.size < _; omega)).trans d0
                 clear hx hL hun
                 go_simp
                 with_reducible rfl
               try simp only [tl]
               refine sT 4 ?_ [false] rfl (by kernel_rfl) (by rfl) ?_ hS ?_
               rotate_left; · intro wx hx; clear hx; go_simp; with_reducible rfl
               try simp only [tl]
               refine sT 5 (.agg #[.int .i64 x.2.k, .int .i64 x.2.n, .string x.2.nm, .int .i64 yp, .int .i64 yq, .slice yB ym yd, .slice yE x.2.ls.length yx, .slice yE' x.2.ks.length yx']) [false] rfl (by kernel_rfl) (by rfl) ?_ hS ?_
               · rintro wx ⟨L, hL, hun, hx⟩
                 have hx := hx (unl hL [8] (by kernel_rfl) hun)
                 have q0 := (hx ⟨wr.heap.size, 1, none⟩ (by show wr.heap.size < _; omega)).trans d1
                 have q1 := (hx ⟨wr.heap.size, 2, none⟩ (by show wr.heap.size < _; omega)).trans d2
                 have q2 := (hx ⟨wr.heap.size, 3, none⟩ (by show wr.heap.size < _; omega)).trans d3
                 have q3 := (hx ⟨wr.heap.size, 4, none⟩ (by show wr.heap.size < _; omega)).trans d4
                 have q4 := (hx ⟨wr.heap.size, 5, none⟩ (by show wr.heap.size < _; omega)).trans d5
                 have q5 := (hx ⟨wr.heap.size, 6, none⟩ (by show wr.heap.size < _; omega)).trans d6
                 have q6 := (hx ⟨wr.heap.size, 7, none⟩ (by show wr.heap.size < _; omega)).trans d7
                 have q7 := (hx ⟨wr.heap.size, 8, none⟩ (by show wr.heap.size < _; omega)).trans d8
                 clear hx hL hun
                 go_simp
               try simp only [tl]
               refine sT 6 ?_ [false] rfl (by kernel_rfl) (by rfl) ?_ hS ?_
               rotate_left; · intro wx hx; clear hx; go_simp; with_reducible rfl
               try simp only [tl]
               refine sT 7 ?_ [false] rfl (by kernel_rfl) (by rfl) ?_ hS ?_
               rotate_left
               · rintro wx ⟨L, hL, hun, hx⟩
                 have hx := hx (unl hL [8] (by kernel_rfl) hun)
                 have q0 := (hx ⟨w.heap.size, 1, none⟩ (by show w.heap.size < _; omega)).trans c1
                 clear hx hL hun
                 go_simp
                 with_reducible rfl
               try simp only [tl]
               refine wpAnyS_one (i := 8) [false] (by kernel_rfl) rfl (by rfl) fun K hK => ?_
               have hT := HT9.out.old (D' := There w5) (Old.of_upd ((Upd.refl nob w9).drew) fun k hk => ⟨fun f => f, by have hk : k < w5.heap.size := hk; omega⟩) (fun _ h => h)
               go_simp
               refine (renamed_any nm othN (by decide) x.2 _ (There w5) w9.drew (fun k hk => by have hk : k < w5.heap.size := hk; show k < w9.heap.size; omega) hT).mono ?_
               rintro e w10 ⟨cs', rfl, ht10, hu10⟩
               obtain ⟨r0, r1, r2, r3, r4, r5, r6, r7, rfl⟩ := arr8' ht10.oneCell.1
               have hu910 : Upd nob w9 w10 := (Upd.refl nob w9).drew.trans hu10
               have e10 : w9.heap.size ≤ w10.heap.size := hu910.size
               have HL10 := Lib.hid ht10
               have hS : [false].getD 0 false = false → ∀ p : Addr, p.block < w9.heap.size → w10.cell? p = w9.drew.cell? p := fun _ p hp => hu10.cell hp (fun f => f)
               refine hK _ _ hS ?_
               clear ht10 hT
               clear hK K; try simp only [tl]
               refine sT 9 ?_ [false] rfl (by kernel_rfl) (by rfl) ?_ hS ?_
               rotate_left; · intro wx hx; clear hx; go_simp; with_reducible rfl
               try simp only [tl]
               refine wpAnyS_one (i := 10) [false] (by kernel_rfl) rfl (by rfl) fun K hK => ?_
               go_simp
               obtain ⟨W11, hW11⟩ : ∃ W, w10.alloc (.cells #[.string x.1, r0, r1, r2, r3, r4, r5, r6, r7] 46) = W := ⟨_, rfl⟩
               have hu11 : Upd nob w10 W11 := by rw [← hW11]; exact (Upd.refl nob w10).alloc _
               have HB11 := Lib.hid (show Blk W11 w10.heap.size 46 #[.string x.1, r0, r1, r2, r3, r4, r5, r6, r7] by rw [← hW11]; exact Blk.new w10 _ _)
               rw [hW11]
               clear hW11
               have e11 : w10.heap.size < W11.heap.size := HB11.out.lt
               have hur11 : Upd nob wr W11 := hu79.trans (hu910.trans hu11)
               have hS : [false].getD 0 false = false → ∀ p : Addr, p.block < w9.heap.size → W11.cell? p = w9.drew.cell? p := fun h p hp => (hu11.cell (Nat.lt_of_lt_of_le hp e10) (fun f => f)).trans (hS h p hp)
               have hE : ∀ q, There w5 q → q < W6.heap.size := fun q hq => by have hq : q < w5.heap.size := hq; omega
               have HC11 := Lib.hid (HCO.out.upd hur11 (fun _ f => f.elim) (fun q hq => by have := hE q hq; omega))
               have hnO : ∀ q, (Value.slice A j c).ownBlock = some q → W6.heap.size ≤ q ∧ q < wr.heap.size := fun q h => HCO.out.lt h
               have hl11 : ctR.is (fun q => q < w5.heap.size ∨ (w9.heap.size ≤ q ∧ q < w10.heap.size)) W11 (x.1, rn nm othN x.2) #[.string x.1, r0, r1, r2, r3, r4, r5, r6, r7] := ⟨#[r0, r1, r2, r3, r4, r5, r6, r7], rfl, HL10.out.old (Old.of_upd hu11 (fun q hq => ⟨fun f => f, hq.elim (fun h => by have h : q < w5.heap.size := h; omega) (fun h => h.2)⟩)) (fun q hq => hq)⟩
               have HL11 := Lib.hid hl11
               have hD11 : ∀ q, (q < w5.heap.size ∨ (w9.heap.size ≤ q ∧ q < w10.heap.size)) → cd (There w5) W6.heap.size W11 (.slice A j c) q := fun q hq => by
                rcases hq with h | h
                · exact ⟨.inl h, fun h2 => by have := (hnO q h2).1; omega⟩
                exact ⟨.inr ⟨by have := h.1; omega, by have := h.2; omega⟩, fun h2 => by have := (hnO q h2).2; have := h.1; omega⟩
               refine hK _ _ hS ?_
               clear hl11
               clear hK K; try simp only [tl]
               refine wpAnyS_one (i := 11) [true] (by kernel_rfl) rfl (by rfl) fun K hK => ?_
               refine owp_collect (.tmp 63) (.tmp 72) 28 rfl _ 136 Try.underlying28 ct_info (by kernel_rfl) (by decide) rfl HC11.out hE w10.heap.size #[.string x.1, r0, r1, r2, r3, r4, r5, r6, r7] rfl HB11.out (x.1, rn nm othN x.2) _ HL11.out hD11 j HLEN.out (by omega) (by omega) (by omega) ?_
               intro A12 c12 w12 hc12 hu12 hat12
               have e12 : W11.heap.size ≤ w12.heap.size := hu12.size
               have hb12 := (HBR.out.upd hur11 (fun f => f)).upd hu12 (fun h => by have := (hnO _ h).1; have := HB6.out.lt; omega)
               have c20' : w12.cell? ⟨w5.heap.size, 20, none⟩ = some (.slice A j c) := hb12.cell 20
               have f20' := hb12.frozen 20
               have l20' := hb12.lt
               have HB12 := Lib.hid hb12
               have HC12 := Lib.hid hc12
               have hS : [true].getD 0 false = false → ∀ p : Addr, p.block < w9.heap.size → w12.cell? p = w9.drew.cell? p := fun h => by cases h
               refine hK _ _ hS ?_
               clear hb12 hc12 hat12
               clear hK K; try simp only [tl]
               refine sT 12 ?_ [true] rfl (by kernel_rfl) (by rfl) ?_ hS ?_
               rotate_left; · intro wx hx; clear hx; go_simp; with_reducible rfl
               try simp only [tl]
               refine wpAnyS_one (i := 13) [true] (by kernel_rfl) rfl (by rfl) fun K hK => ?_
               go_simp
               obtain ⟨W13, hW13⟩ : ∃ W, w12.setCell ⟨w5.heap.size, 20, none⟩ (.slice A12 (j + 1) c12) = W := ⟨_, rfl⟩
               have hu13 : Upd (fun q => q = w5.heap.size) w12 W13 := by rw [← hW13]; exact (Upd.refl (fun q => q = w5.heap.size) w12).setCell (.inl rfl) _
               have HBF := Lib.hid (show Blk W13 w5.heap.size 30 #[.int .i64 3, .string othN, .int .i64 vs, a0, a1, a2, a3, a4, a5, a6, a7, b0, b1, b2, b3, b4, b5, b6, b7, .int .i64 pa, .slice A12 (j + 1) c12] by rw [← hW13]; exact HB12.out.set 20 _)
               rw [hW13]
               clear hW13
               have e13 : w12.heap.size ≤ W13.heap.size := hu13.size
               have HCF := Lib.hid (HC12.out.upd hu13 (fun k h => by have h : k = w5.heap.size := h; exact ⟨by have := hu6.size; have := HB6.out.lt; omega, fun hd => by have hd : k < w5.heap.size := hd; omega⟩) (fun q hq => by have := hE q hq; omega))
               have HUF := Lib.hid (((hur.trans (hur11.mono (fun _ f => f.elim))).trans' hu12 (fun q hq h => by have := (hnO q h).1; omega)).trans hu13)
               have hS : [true].getD 0 false = false → ∀ p : Addr, p.block < w9.heap.size → W13.cell? p = w9.drew.cell? p := fun h => by cases h
               refine hK _ _ hS ?_
               clear hK K; try simp only [tl]
               refine wpAnyS_done (by kernel_rfl) ?_
               refine NoPanic.normal ?_
               go_wp2_with fail
               go_roundg (gk - 1)
               case measure => omega
               case rel =>
                refine ⟨j + 1, by omega, by go_num, HUF.out, ⟨_, _, HBF.out, ?_⟩, ?_⟩
                · rw [List.take_succ_eq_append_getElem (by have := HN.out; omega), List.map_append]
                  have := HX.out
                  rw [List.getElem?_eq_getElem (by have := HN.out; omega)] at this
                  rw [Option.some.inj this]
                  exact HCF.out
                intro y hy
                rw [List.take_add_one, HX.out] at hy
                rcases List.mem_append.1 hy with hy | hy
                · exact HOK.out y hy
                obtain rfl : y = x := by simpa using hy
                exact ⟨HR8.out.1, HR8.out.2, HM9.out⟩
            have t6 : decide (r = 0) = false := by simp [hr0]
            clear hr
            go_wp2_with fail
            refine (awake_any w8).mono ?_
            rintro e wz ⟨rfl, hbz⟩
            go_wp2_with fail
            go_ret
            exact ⟨rfl, (((hu05.trans hu6).trans' hur (fun q hq h => by have h : q = w5.heap.size := h; have := hu05.size; omega)).trans (hu78.trans (Upd.of_below hbz))).below⟩
          have t5 : decide ((j : Int) < n) = false := by simp; omega
          have : j = n := by omega
          subst this
          clear hC
          have hok2 := HOK.out
          rw [List.take_of_length_le (by rw [HN.out]; exact Nat.le_refl _)] at hok2
          have hcr := HCO.out
          rw [List.take_of_length_le (by rw [HN.out]; exact Nat.le_refl _)] at hcr
          have hur05 : Upd nob w wr := (hu05.trans hu6).trans' hur (fun q hq h => by have h : q = w5.heap.size := h; have := hu05.size; omega)
          obtain ⟨A9, c9, hv9, hcap9, hra⟩ := hcr.rat (D := There wr) (fun q hq => hq.elim (fun h => by have h : q < w5.heap.size := h; show q < wr.heap.size; omega) (fun h => h.2))
          rw [List.length_map, HN.out] at hv9
          injection hv9 with z1 z2 z3
          subst z1 z3
          have hct : CtorsAt (There wr) wr (cts.map fun x => (x.1, rn nm othN x.2)) A := fun i y hy => by
           obtain ⟨a, cs, h1, h2, h3, ct, rfl, h5⟩ := hra i y hy
           exact ⟨a, ct, h1, h2, h3, h5⟩
          have hho : Old (There w5) w5 wr := ((There_in w5).old hu6).trans (Old.of_upd hur fun k hk => ⟨fun e => by unfold There at hk; omega, Nat.lt_of_lt_of_le hk hu6.size⟩)
          have hth : ∀ q, There w5 q → There wr q := fun q hq => by have hq : q < w5.heap.size := hq; show q < wr.heap.size; omega
          have HTr := Lib.hid (HT5.out.old (D' := There wr) hho hth)
          have HCr := Lib.hid (HC5.out.old (D' := There wr) hho hth)
          have HCt := Lib.hid hct
          have hkn : Known nm othN ty cts := ⟨by have := HNO.out; simpa [othN] using this, HR.out.1, HR.out.2, HM1.out, HM2.out, hok2⟩
          have hlaw := names_law hkn 3 vs pa
          have m1 := tof_small 3 nm vs pa ty cts
          have m2 := tof_small 3 othN vs pa ty (cts.map fun x => (x.1, rn nm othN x.2))
          obtain ⟨⟨X, ec⟩, hX⟩ : ∃ R, tof 3 nm vs pa ty cts = R := ⟨_, rfl⟩
          obtain ⟨⟨Y, ec'⟩, hY⟩ : ∃ R, tof 3 othN vs pa ty (cts.map fun x => (x.1, rn nm othN x.2)) = R := ⟨_, rfl⟩
          rw [hX] at hlaw m1
          rw [hY] at hlaw m2
          simp only at hlaw m1 m2
          obtain ⟨hl1, hl2⟩ := hlaw
          subst hl1
          have HL2 := Lib.hid hl2
          have HM1s := Lib.hid m1
          have HM2s := Lib.hid m2
          have HBR2 := HBR
          clear hok2 hcr hra hct hkn hl2 m1 m2 hcap9
          have r1 := HT1.out.rowAt
          go_wp2_with (first
           | ((with_reducible refine this_op (.load 30 (.tmp 1)) ?_); refine wpList_at rfl 30 (.tmp 1) rfl ⟨w.heap.size, 0, none⟩ rfl _ _ r1 Try.underlying30 rfl dc_size ?_))
          have hcall := tof_any 3 nm vs pa ty cts a0 a1 a2 a3 a4 a5 a6 a7 b0 b1 b2 b3 b4 b5 b6 b7 cA cc (There wr) wr (There_in wr) HTr.out (by omega) HCr.out (by rw [HN.out]; omega) (by have := ty.height_wt; omega) (fun x hx => by have := hhc x hx; have := x.2.height_wt; omega)
          rw [HN.out, hX] at hcall
          refine hcall.mono ?_
          clear hcall
          rintro e w2 ⟨cs2, rfl, hs2, hb2⟩
          have hu2 : Upd nob wr w2 := Upd.of_below hb2
          have hu2s := hu2.size
          obtain ⟨k2, n2, B2, m2, d2, A2, e2, rfl, hk2, hlv2⟩ := hs2.lit
          have HS2 := Lib.hid hs2
          have HBr2 := Lib.hid (HBR2.out.upd hu2 (fun f => f))
          clear hs2 hk2 hlv2 hb2 r1
          obtain ⟨W3, hW3⟩ : ∃ W3, w2.alloc (.cells #[.int .i64 X.1, .int .i64 k2, .int .i64 n2, .slice B2 m2 d2, .slice A2 X.2.2.length e2] 35) = W3 := ⟨_, rfl⟩
          have hu3 : Upd nob w2 W3 := by rw [← hW3]; exact (Upd.refl nob w2).alloc _
          have HG3 := Lib.hid (show Blk W3 w2.heap.size 35 #[.int .i64 X.1, .int .i64 k2, .int .i64 n2, .slice B2 m2 d2, .slice A2 X.2.2.length e2] by rw [← hW3]; exact Blk.new w2 _ _)
          have HB3 := Lib.hid (HBr2.out.upd hu3 (fun f => f))
          have r3 := HB3.out.rowAt
          have hz2 := sh_zero
          go_wp2_with (first
           | ((with_reducible refine this_op (.load 30 (.tmp 3)) ?_); refine wpList_at rfl 30 (.tmp 3) rfl ⟨w5.heap.size, 0, none⟩ rfl _ _ r3 Try.underlying30 rfl dc_size ?_))
          have HW3 := Lib.hid hW3
          clear hW3
          have hur3 : Upd nob wr W3 := hu2.trans hu3
          have hcall := tof_any 3 othN vs pa ty (cts.map fun x => (x.1, rn nm othN x.2)) a0 a1 a2 a3 a4 a5 a6 a7 b0 b1 b2 b3 b4 b5 b6 b7 A c (There wr) W3 ((There_in wr).up hur3) (HTr.out.old ((There_in wr).old hur3) (fun _ h => h)) (by decide) (HCt.out.old ((There_in wr).old hur3) (fun _ h => h)) (by rw [List.length_map, HN.out]; omega) (by have := ty.height_wt; omega) (fun x hx => by
           obtain ⟨y, hy, rfl⟩ := List.mem_map.1 hx
           have := hhc y hy; have := y.2.height_wt
           show (rn nm othN y.2).height * 120 ≤ _
           rw [rn_height]; omega)
          rw [List.length_map, HN.out, hY] at hcall
          refine hcall.mono ?_
          clear hcall
          rintro e w4 ⟨cs4, rfl, hs4, hb4⟩
          have hu4 : Upd nob W3 w4 := Upd.of_below hb4
          have hu4s := hu4.size
          obtain ⟨k4, n4, B4, m4, d4, A4, e4, rfl, hk4, hlv4⟩ := hs4.lit
          have HS4 := Lib.hid hs4
          have HG4 := Lib.hid (HG3.out.upd hu4 (fun f => f))
          clear hs4 hk4 hlv4 hb4 r3
          obtain ⟨W5, hW5⟩ : ∃ W5, w4.alloc (.cells #[.int .i64 Y.1, .int .i64 k4, .int .i64 n4, .slice B4 m4 d4, .slice A4 Y.2.2.length e4] 35) = W5 := ⟨_, rfl⟩
          have hu5' : Upd nob w4 W5 := by rw [← hW5]; exact (Upd.refl nob w4).alloc _
          have HG5 := Lib.hid (show Blk W5 w4.heap.size 35 #[.int .i64 Y.1, .int .i64 k4, .int .i64 n4, .slice B4 m4 d4, .slice A4 Y.2.2.length e4] by rw [← hW5]; exact Blk.new w4 _ _)
          have hur5 : Upd nob wr W5 := hur3.trans (hu4.trans hu5')
          have HT := HG4.out.upd hu5' (fun f => f)
          have HU := HG5.out
          have p0 : W5.cell? ⟨w2.heap.size, 0, none⟩ = some (.int .i64 X.1) := HT.cell 0
          have p1 : W5.cell? ⟨w2.heap.size, 1, none⟩ = some (.int .i64 k2) := HT.cell 1
          have p2 : W5.cell? ⟨w2.heap.size, 2, none⟩ = some (.int .i64 n2) := HT.cell 2
          have p3 : W5.cell? ⟨w2.heap.size, 3, none⟩ = some (.slice B2 m2 d2) := HT.cell 3
          have p4 : W5.cell? ⟨w2.heap.size, 4, none⟩ = some (.slice A2 X.2.2.length e2) := HT.cell 4
          have q0 : W5.cell? ⟨w4.heap.size, 0, none⟩ = some (.int .i64 Y.1) := HU.cell 0
          have q1 : W5.cell? ⟨w4.heap.size, 1, none⟩ = some (.int .i64 k4) := HU.cell 1
          have q2 : W5.cell? ⟨w4.heap.size, 2, none⟩ = some (.int .i64 n4) := HU.cell 2
          have q3 : W5.cell? ⟨w4.heap.size, 3, none⟩ = some (.slice B4 m4 d4) := HU.cell 3
          have q4 : W5.cell? ⟨w4.heap.size, 4, none⟩ = some (.slice A4 Y.2.2.length e4) := HU.cell 4
          have lt2 := HT.lt
          have lt4 := HU.lt
          clear HT HU
          have HXX := Lib.hid hX
          have HYY := Lib.hid hY
          clear hX hY
          by_cases hc : ec' = 0
          · subst hc
            go_wp2_with fail
            have hs25 := (HS2.out.old (D' := There W5) (Within.old (Within.grow (There_in wr) hu2.size) (hu3.trans (hu4.trans hu5'))) (fun q hq => (Within.up (Within.grow (There_in wr) hu2.size) (hu3.trans (hu4.trans hu5'))) q hq))
            have hs45 := (HS4.out.old (D' := There W5) (Within.old (Within.grow ((There_in wr).up hur3) hu4.size) hu5') (fun q hq => (Within.up (Within.grow ((There_in wr).up hur3) hu4.size) hu5') q hq))
            refine (sameSh_any X Y _ _ (There W5) W5 (There_in W5) hs25 hs45 (by have := HM1s.out.1; rw [HN.out] at this; omega) (by have := HM2s.out.1; rw [List.length_map, HN.out] at this; omega) (fun y hy => by
             obtain ⟨x, hx, hy2⟩ := HM1s.out.2 y hy
             have := hhc x hx; have := x.2.height_wt; omega)).mono ?_
            rintro e w6 ⟨rfl, hb6⟩
            have hu6' : Upd nob W5 w6 := Upd.of_below hb6
            rw [HL2.out trivial]
            go_wp2_with fail
            refine (awake_any w6).mono ?_
            rintro e wz ⟨rfl, hbz⟩
            go_wp2_with fail
            go_ret
            exact ⟨rfl, (hur05.trans (hur5.trans (hu6'.trans (Upd.of_below hbz)))).below⟩
          have t9 : decide (ec' = 0) = false := by simp [hc]
          go_wp2_with fail
          refine (awake_any W5).mono ?_
          rintro e wz ⟨rfl, hbz⟩
          go_wp2_with fail
          go_ret
          exact ⟨rfl, (hur05.trans (hur5.trans (Upd.of_below hbz))).below⟩
     have t4 : decide (r = 0) = false := by simp [hr0]
     clear hr
     go_wp2_with fail
     refine (awake_any w3).mono ?_
     rintro e wz ⟨rfl, hbz⟩
     go_wp2_with fail
     go_ret
     exact ⟨rfl, (hu03.trans (Upd.of_below hbz)).below⟩
   have t2 : decide (dk = 3) = false := by simp [hk]
   go_wp2_with fail
   refine (awake_any w2).mono ?_
   rintro e w3 ⟨rfl, hb3⟩
   go_wp2_with fail
   go_ret
   exact ⟨rfl, (hu02.trans (Upd.of_below hb3)).below⟩
 have t1 : decide ((n : Int) ≤ 20) = false := by simp; omega
 rw [t1]
 clear hM t1
 go_wp2_with fail
 refine (awake_any w2).mono ?_
 rintro e w3 ⟨rfl, hb3⟩
 go_wp2_with fail
 go_ret
 exact ⟨rfl, (hu02.trans (Upd.of_below hb3)).below⟩
end Go.Proofs.Ytiampoebdmflgaa
/- The row's last step from 'Below', whatever the arguments read. -/
namespace Go.Proofs.Ytiampoebdmflgaa
open Go.ChangeShapes Go.WideShapes Go.ChangeAt Go.RowKit
set_option linter.unusedVariables false
variable {H : Type} {enc : TypeId × Value → H} {P : Program}
theorem all_stay (hl : laidOutB P = true) {W W' : World} {sp : Nat → Bool} : ∀ {ts : List TypeId} {vs : List Value} {ds : List (DataW H)} {ps : List MemPlace}, DataW.TrodAll enc P W 0 (fun _ => true) true ts vs ds ps →
    (∀ t ∈ ts, P.readableRec t = true ∧ t < P.types.size) → (∀ p ∈ ps, W.sameAt W' p) → (∀ p ∈ ps, sp p.block = true) → DataW.TrodAll enc P W' 0 sp true ts vs ds ps
 | [], _, _, _, h, _, _, _ => by
  obtain ⟨rfl, rfl, rfl⟩ := trodAll_nil h
  exact trodAll_mk0
 | t :: ts, _, _, _, h, hr, hs, hp => by
  obtain ⟨v, vs, d, ds, p, q, rfl, rfl, rfl, h1, h2⟩ := trodAll_cons h
  exact trodAll_cons_mk (WideElems.Trod_stays hl (hr t (by simp)).1 (hr t (by simp)).2 h1 (fun x hx => hs x (by simp [hx])) (fun x hx => hp x (by simp [hx])))
   (all_stay hl h2 (fun u hu => hr u (by simp [hu])) (fun x hx => hs x (by simp [hx])) (fun x hx => hp x (by simp [hx])))
theorem post_keep {f : Func} {s : ChangeSpec} {apart fresh handsOn again : Bool} {W W' : World} {args : Array Value} {v : Value} {ds : List (DataW H)} {before : List MemPlace}
    (hl : laidOutB P = true) (hW : DataW.Whole enc P f.params.toList s.vars apart W args.toList ds [] before)
    (hA : DataW.TrodAll enc P W 0 (fun _ => true) true f.params.toList args.toList ds before)
    (hr : ∀ t ∈ f.params.toList, P.readableRec t = true ∧ t < P.types.size)
    (hres : ∀ (b : Nat) (sp : Nat → Bool) (hd : Bool), DataW.TrodAll enc P W' b sp hd f.resultTypes.toList (v.resultList f.resultTypes.size) (s.fn H (ds ++ [])).results [])
    (hargs : (s.fn H (ds ++ [])).args = ds) (hvars : s.vars = []) (hvars2 : (s.fn H (ds ++ [])).vars = [])
    (hb : Below W.heap.size W W')
    (hok : ∀ (j : Nat) (t : TypeId) (r : Value), f.resultTypes[j]? = some t → (v.resultList f.resultTypes.size)[j]? = some r → Value.okWide P W' .any 0 t r) :
    s.post enc P f apart fresh handsOn again W args v W' := by
 have hold : ∀ p ∈ before, (fun b => decide (b < W.heap.size)) p.block = true := fun p hp => by simpa using hW.lt p hp
 have hsame : ∀ p ∈ before, W.sameAt W' p := fun p hp => hb.same (hW.lt p hp)
 have hargs' : ∀ sp : Nat → Bool, (∀ p ∈ before, sp p.block = true) → DataW.TrodAll enc P W' 0 sp true f.params.toList args.toList (s.fn H (ds ++ [])).args before := fun sp hsp => by
  rw [hargs]; exact all_stay hl hA hr hsame hsp
 have hv : ∀ sp : Nat → Bool, DataW.TrodVars enc P W' sp s.vars (s.fn H (ds ++ [])).vars [] := fun sp => by rw [hvars, hvars2]; rfl
 refine ⟨ds, [], before, [], before, [], hW, hres _ _ _, hargs' _ hold, hv _, hb.frame _, fun _ => ?_⟩
 have hlt : ∀ p ∈ before, p.block < W.heap.size := fun p hp => hW.lt p hp
 obtain ⟨p, q, hA1, hV1, hpq, hz, hn⟩ := hW
 refine ⟨hok, _, _, ([] ++ before) ++ [], ⟨[] ++ before, [], trodAll_append (hargs' _ (fun _ _ => rfl)) (hres _ _ _), hv _, rfl, ?_, ?_⟩, ?_⟩
 · intro b off hp
   have hm := hp
   simp only [List.nil_append, List.append_nil] at hm
   rw [World.frozen?_of_block (w := W) (hb.block b (hlt _ hm))]
   exact hz b off hm
 · intro ha
   simpa using hn ha
 intro p hp _
 simpa using hp
end Go.Proofs.Ytiampoebdmflgaa
