/- Texts put one behind the other: Nlevel, Tapps, Linst, Linst2, Ilev, Ilev2. -/
import Derived.Test.YtiampoebdmflgaaGreatF1
import Derived.Test.YtiampoebdmflgaaGreatF3
import Derived.Test.YtiampoebdmflgaaGreatF2
import Derived.Laws.MakeOwn
/- (level.norm).level. -/
namespace Go.Proofs.YtiampoebdmflgaaGreat
open Go.RowKit
set_option linter.unusedVariables false
set_option maxRecDepth 100000
set_option maxHeartbeats 4000000
set_option linter.unusedSimpArgs false
def pk (k : Int) (i : Nat) : List Lv := if 0 ≤ k then [lplus k (.mk 2 i [])] else []
def pks : List Int → Nat → List Lv
 | [], _ => []
 | k :: ks, i => pk k i ++ pks ks (i + 1)
theorem pks_app : ∀ (a b : List Int) (i : Nat), pks (a ++ b) i = pks a i ++ pks b (i + a.length)
 | [], b, i => by simp [pks]
 | k :: a, b, i => by
  have e : i + 1 + a.length = i + (k :: a).length := by simp; omega
  simp only [List.cons_append, pks, pks_app a b (i + 1), e, List.append_assoc]
theorem pks_take (ks : List Int) (j : Nat) (h : j < ks.length) : pks (ks.take (j + 1)) 0 = pks (ks.take j) 0 ++ pk ks[j] j := by
 rw [List.take_succ_eq_append_getElem h, pks_app]
 have : 0 + (ks.take j).length = j := by simp; omega
 rw [this]
 simp [pks]
theorem pk_len (k : Int) (i : Nat) : (pk k i).length ≤ 1 := by unfold pk; split <;> simp
theorem pks_len : ∀ (l : List Int) (i : Nat), (pks l i).length ≤ l.length
 | [], i => by simp [pks]
 | k :: l, i => by have := pks_len l (i + 1); have := pk_len k i; simp [pks]; omega
def nhead (n : Nm) : List Lv := if 0 < n.c ∨ n.ks = [] then [.mk 1 n.c []] else []
def nparts (n : Nm) : List Lv := nhead n ++ pks n.ks 0
def nlevel (n : Nm) : Lv := match nparts n with
 | [] => lzero'
 | p :: ps => ps.foldl (fun o q => .mk 4 0 [o, q]) p
theorem foldl_take {α β : Type} (f : β → α → β) (b : β) (l : List α) (j : Nat) (h : j < l.length) : (l.take (j + 1)).foldl f b = f ((l.take j).foldl f b) l[j] := by
 rw [List.take_succ_eq_append_getElem h, List.foldl_append]; rfl
theorem two_rows3 (c1 c2 : Array Value) (w : World) (g : Nat) (t : TypeId) (h : Blk w g t (c1 ++ c2)) (h1 : c1.size = 3) : rowAt w ((⟨g, 0, none⟩ : Addr).add (0 * 3)) c1 ∧ rowAt w ((⟨g, 0, none⟩ : Addr).add (1 * 3)) c2 := by
 refine ⟨sub_row h.rowAt _ _ fun j v hv => ?_, sub_row h.rowAt _ _ fun j v hv => ?_⟩
 · have hj : j < c1.size := (Array.getElem?_eq_some_iff.1 hv).1
   rw [Nat.zero_mul, Nat.zero_add, Array.getElem?_append_left hj]; exact hv
 rw [Array.getElem?_append_right (by omega), h1, Nat.one_mul, Nat.add_sub_cancel_left]; exact hv
theorem lmax_is {D : Nat → Prop} {w : World} {a b : Lv} {p q p' q' : Int} {B B' : Option Addr} {m d m' d' : Nat} (ha : LvIs D w a #[.int .i64 p, .int .i64 q, .slice B m d]) (hb : LvIs D w b #[.int .i64 p', .int .i64 q', .slice B' m' d']) (g : Nat) (hg : D g)
    (h : Blk w g 25 (#[.int .i64 p, .int .i64 q, .slice B m d] ++ #[.int .i64 p', .int .i64 q', .slice B' m' d'])) : LvIs D w (.mk 4 0 [a, b]) #[.int .i64 4, .int .i64 0, .slice (some ⟨g, 0, none⟩) 2 2] := by
 obtain ⟨r1, r2⟩ := two_rows3 _ _ _ _ _ h rfl
 simp only [LvIs]
 refine ⟨some ⟨g, 0, none⟩, 2, rfl, by unfold InI; omega, by unfold InI; omega, ⟨by simp, by simp⟩, ?_⟩
 simp only [LvsAt]
 exact ⟨⟨_, _, rfl, hg, r1, ha⟩, ⟨_, _, rfl, hg, r2, hb⟩, trivial⟩
theorem nlevel_any (n : Nm) (cs : Array Value) (D : Nat → Prop) (w : World) (hD : Within D w) (hn : NmIs D w n cs) (hne : nparts n ≠ []) :
    Calls Tryz.prog 170 #[.agg cs] w fun e w' => ∃ cs', e = .returned (.agg cs') ∧ LvIs (fresh w w') w' (nlevel n) cs' ∧ Below w.heap.size w w' := by
 have hz := lv_zero
 obtain ⟨A, c, rfl, ⟨hok, hcap⟩, hzs⟩ := hn
 obtain ⟨⟨hc0, hc1⟩, hx, hlen⟩ := hok
 have HX := Lib.hid hx; clear hx
 obtain ⟨N, hN⟩ : ∃ N, n.ks.length = N := ⟨_, rfl⟩
 rw [hN] at hlen hcap
 rw [hN]
 obtain ⟨X, hX⟩ : ∃ X, nlevel n = X := ⟨_, rfl⟩
 rw [hX]
 have HX2 := Lib.hid hX; clear hX
 have HNE := Lib.hid hne; clear hne
 have HN := Lib.hid hN
 obtain ⟨W1, hW1⟩ : ∃ W1, (w.alloc (.cells #[.int .i64 n.c, .slice A N c] 189)).alloc (.cells #[.int .i64 0, .int .i64 0, .slice none 0 0] 25) = W1 := ⟨_, rfl⟩
 have huW1 : Upd nob w W1 := by rw [← hW1]; exact ((Upd.refl nob w).alloc _).alloc _
 have hsW1 : W1.heap.size = w.heap.size + 2 := by rw [← hW1]; simp
 have b0 : Blk W1 (w.heap.size) 189 #[.int .i64 n.c, .slice A N c] := by
  rw [← hW1]
  have h := Blk.new (w) 189 #[.int .i64 n.c, .slice A N c]
  exact h.alloc _
 have b1 : Blk W1 (w.heap.size + 1) 25 #[.int .i64 0, .int .i64 0, .slice none 0 0] := by
  rw [← hW1]
  have h := Blk.new (w.alloc (.cells #[.int .i64 n.c, .slice A N c] 189)) 25 #[.int .i64 0, .int .i64 0, .slice none 0 0]
  rw [World.size_alloc] at h
  exact h
 have HW1 := Lib.hid hW1
 have HB0 := Lib.hid b0
 have HB1 := Lib.hid b1
 have k0 : W1.cell? ⟨w.heap.size, 0, none⟩ = some (.int .i64 n.c) := b0.cell 0
 have k1 : W1.cell? ⟨w.heap.size, 1, none⟩ = some (.slice A N c) := b0.cell 1
 have hlt0 := b0.lt
 clear b0 b1 hW1 hN
 by_cases hcc : 0 < n.c
 · have e1 : decide (0 < n.c) = true := by simp [hcc]
   have hhd : nhead n = [.mk 1 n.c []] := by unfold nhead; rw [if_pos (.inl hcc)]
   go_enter Tryz.func170, Tryz.ntmps170
   go_wp2_with fail
   rw [HW1.out]
   refine (lnum_any n.c W1 (by unfold InI; omega)).mono ?_
   rintro e w3 ⟨rfl, hb3⟩
   have hu3 : Upd nob W1 w3 := Upd.of_below hb3
   have hsz3 := hu3.size
   have hl4 : LvIs nob (w3.alloc (.cells #[.int .i64 1, .int .i64 n.c, .slice none 0 0] 25)) (.mk 1 n.c []) #[.int .i64 1, .int .i64 n.c, .slice none 0 0] := by
    simp only [LvIs, LvsAt]; exact ⟨none, 0, rfl, by unfold InI; omega, by unfold InI; omega, by simp, trivial⟩
   go_wp2_with (first
    | ((with_reducible refine this_op (.buildSlice 23 1 #[(0, .tmp 21)]) ?_); refine wpList_build1 rfl 23 25 (.tmp 21) rfl _ 3 40 Tryz.underlying23 lv_info (by decide) (by decide) #[.int .i64 1, .int .i64 n.c, .slice none 0 0] rfl rfl ?_)
    | (at_builtin; refine wpList_collect (v := .slice none 0 0) rfl (.tmp 18) (.tmp 22) 23 rfl _ 40 Tryz.underlying23 lv_info (by kernel_rfl) (by decide) rfl (Coll.nil_ (R := lvR) (E := nob) (base := w.heap.size + 2)) (fun x h => h.elim) w3.heap.size #[.int .i64 1, .int .i64 n.c, .slice none 0 0] rfl (Blk.new _ _ _) (.mk 1 n.c []) _ hl4 (fun x h => h.elim) 0 rfl (by omega) (by omega) (by simp; omega) ?_
       intro sA6 sc6 w6 hc6 hu6 hat6
       have HC6 := Lib.hid hc6
       have HU6 := Lib.hid hu6
       clear hc6 hu6
       have hu36 : Upd nob W1 w6 := hu3.trans (((Upd.refl nob w3).alloc _).trans (HU6.out.mono (fun _ f => by simp [Value.ownBlock] at f)))
       have q1 : w6.cell? ⟨w.heap.size, 1, none⟩ = some (.slice A N c) := (hu36.cell hlt0 (fun f => f)).trans k1))
   have hu06 : Upd nob w w6 := huW1.trans hu36
   have hB16 := HB1.out.upd hu36 (fun f => f)
   have hB06 := HB0.out.upd hu36 (fun f => f)
   have hc6 : Coll lvR nob (w.heap.size + 2) 25 w6 (.slice sA6 1 sc6) (nhead n) := by rw [hhd]; exact HC6.out
   have hs6 : w.heap.size + 2 ≤ w6.heap.size := by have := hu36.size; omega
   clear k0 k1 hl4 hb3 HC6 HU6 hat6
   go_loopg [3, 27] N (fun k v3 v27 wr => ∃ j : Nat, j + k = N ∧ v27 = .int .i64 j ∧ Blk wr (w.heap.size + 1) 25 #[.int .i64 0, .int .i64 0, .slice none 0 0] ∧ Coll lvR nob (w.heap.size + 2) 25 wr v3 (nhead n ++ pks (n.ks.take j) 0) ∧ Upd nob w wr ∧ w.heap.size + 2 ≤ wr.heap.size)
   case atStart => exact ⟨0, by omega, rfl, hB16, by simpa [pks] using hc6, hu06, hs6⟩
   case round =>
    clear HB0 HB1 huW1 hsW1 hB16 hB06 hc6 hu06 hs6
    obtain ⟨j, hj, rfl, c1, hco, hu, hsz⟩ := hrel
    obtain ⟨sA, sc, hsl, hcp⟩ := hco.form
    subst hsl
    have hM0 : (nhead n ++ pks (n.ks.take j) 0).length ≤ 1 + N := by
     have h1 : (nhead n).length ≤ 1 := by unfold nhead; split <;> simp
     have h2 := pks_len (n.ks.take j) 0
     have h3 : (n.ks.take j).length ≤ N := by rw [← HN.out]; simp; omega
     rw [List.length_append]; omega
    obtain ⟨M, hM⟩ : ∃ M, (nhead n ++ pks (n.ks.take j) 0).length = M := ⟨_, rfl⟩
    rw [hM] at hM0 hcp
    rw [hM] at hco
    rw [hM]
    have HM := Lib.hid hM
    have C1 := Lib.hid c1
    have HCO := Lib.hid hco
    have hnO : ∀ q, (Value.slice sA M sc).ownBlock = some q → w.heap.size + 2 ≤ q ∧ q < wr.heap.size := fun q h => HCO.out.lt h
    clear c1 hco hM
    by_cases hlt : j < N
    · have t2 : decide ((j : Int) < N) = true := by simp [hlt]
      have hlt' : j < n.ks.length := by rw [HN.out]; exact hlt
      obtain ⟨a, hA, hab, hcell, _⟩ := hzs j _ (List.getElem?_eq_getElem hlt')
      obtain ⟨x, hxj⟩ : ∃ x, n.ks[j] = x := ⟨_, rfl⟩
      have hx2 := HX.out n.ks[j] (List.getElem_mem hlt')
      rw [hxj] at hcell hx2
      obtain ⟨hx0, hx1⟩ := hx2
      have hcell' : wr.cell? (a.add j) = some (.int .i64 x) := ((hD.old hu).cell (by rw [Addr_add_block]; exact hab)).trans hcell
      have hpt : pks (n.ks.take (j + 1)) 0 = pks (n.ks.take j) 0 ++ pk x j := by rw [pks_take _ _ hlt', hxj]
      have HPT := Lib.hid hpt
      have HA := Lib.hid hA
      clear hA hcell hxj hpt
      by_cases hx3 : 0 ≤ x
      · have t3 : decide (0 ≤ x) = true := by simp [hx3]
        have hpk : pk x j = [lplus x (.mk 2 j [])] := by unfold pk; rw [if_pos hx3]
        have HPK := Lib.hid hpk
        clear hpk
        go_wp2_with (first
         | (refine wpList_index_at rfl 142 (.tmp 25) (.tmp 27) rfl _ a _ _ rfl HA.out j rfl hlt 3 Tryz.underlying142 1 int_size ?_))
        refine (lvar_any j wr (by unfold InI; omega)).mono ?_
        rintro e w7 ⟨rfl, hb7⟩
        have hu7 : Upd nob wr w7 := Upd.of_below hb7
        have hl7 : LvIs nob w7 (.mk 2 j []) #[.int .i64 2, .int .i64 j, .slice none 0 0] := by
         simp only [LvIs, LvsAt]; exact ⟨none, 0, rfl, by unfold InI; omega, by unfold InI; omega, by simp, trivial⟩
        go_wp2_with fail
        refine (lplus_any x (.mk 2 j []) _ nob w7 (by unfold InI; omega) (fun _ f => f.elim) hl7).mono ?_
        rintro e w8 ⟨cs8, rfl, hl8, hb8⟩
        have hu8 : Upd nob w7 w8 := Upd.of_below hb8
        obtain ⟨p8, q8, B8, m8, d8, rfl⟩ := hl8.lit3
        have hs7 := hu7.size
        have hs8 := hu8.size
        have hu9 : Upd nob wr (w8.alloc (.cells #[.int .i64 p8, .int .i64 q8, .slice B8 m8 d8] 25)) := (hu7.trans hu8).alloc _
        have hc9 := HCO.out.upd hu9 (fun _ f => f.elim) (fun x h => h.elim)
        have HC9 := Lib.hid hc9
        have hl9 : LvIs (fun q => w7.heap.size ≤ q ∧ q < w8.heap.size) (w8.alloc (.cells #[.int .i64 p8, .int .i64 q8, .slice B8 m8 d8] 25)) (lplus x (.mk 2 j [])) #[.int .i64 p8, .int .i64 q8, .slice B8 m8 d8] :=
         hl8.old (Old.of_upd ((Upd.refl nob w8).alloc _) (fun q hq => ⟨fun f => f, hq.elim (fun f => f.elim) (fun h => h.2)⟩)) (fun q hq => hq.elim (fun f => f.elim) (fun h => h))
        clear hc9 hl8 hl7
        go_wp2_with (first
         | ((with_reducible refine this_op (.buildSlice 23 1 #[(0, .tmp 38)]) ?_); refine wpList_build1 rfl 23 25 (.tmp 38) rfl _ 3 40 Tryz.underlying23 lv_info (by decide) (by decide) #[.int .i64 p8, .int .i64 q8, .slice B8 m8 d8] rfl rfl ?_)
         | (at_builtin; refine wpList_collect rfl (.tmp 34) (.tmp 39) 23 rfl _ 40 Tryz.underlying23 lv_info (by kernel_rfl) (by decide) rfl HC9.out (fun x h => h.elim) w8.heap.size #[.int .i64 p8, .int .i64 q8, .slice B8 m8 d8] rfl (Blk.new _ _ _) (lplus x (.mk 2 j [])) _ hl9 (fun q h => ⟨.inr ⟨by have := h.1; omega, by simp; have := h.2; omega⟩, fun h2 => by have := (hnO q h2).2; have := h.1; omega⟩) M HM.out (by omega) (by omega) (by simp; omega) ?_
            intro sA6 sc6 w9 hc6 hu6 hat6
            have HC6 := Lib.hid hc6
            have HU6 := Lib.hid hu6
            clear hc6 hu6))
        go_roundg (gk - 1)
        case measure => omega
        case rel =>
         have hu10 : Upd (fun q => (Value.slice sA M sc).ownBlock = some q) wr w9 := (hu9.mono (fun _ f => f.elim)).trans HU6.out
         refine ⟨j + 1, by omega, by go_num, C1.out.upd hu10 (fun h => by have := (hnO _ h).1; omega), ?_, hu.trans' hu10 (fun q hq h => by have := (hnO q h).1; omega), by have := hu10.size; omega⟩
         rw [HPT.out, HPK.out, ← List.append_assoc]
         exact HC6.out
      have t3 : decide (0 ≤ x) = false := by simp; omega
      have hpk : pk x j = [] := by unfold pk; rw [if_neg hx3]
      have HPK := Lib.hid hpk
      clear hpk
      go_wp2_with (first
       | (refine wpList_index_at rfl 142 (.tmp 25) (.tmp 27) rfl _ a _ _ rfl HA.out j rfl hlt 3 Tryz.underlying142 1 int_size ?_))
      go_roundg (gk - 1)
      case measure => omega
      case rel =>
       refine ⟨j + 1, by omega, by go_num, C1.out, ?_, hu, hsz⟩
       rw [HPT.out, HPK.out, List.append_nil]
       exact HCO.out
    have t2 : decide ((j : Int) < N) = false := by simp; omega
    have hjm : j = N := by omega
    subst hjm
    have htk : n.ks.take j = n.ks := List.take_of_length_le (by rw [HN.out]; exact Nat.le_refl _)
    obtain ⟨L, hL⟩ : ∃ L, nparts n = L := ⟨_, rfl⟩
    have hLe : nhead n ++ pks (n.ks.take j) 0 = L := by rw [htk]; exact hL
    have hLM : L.length = M := by rw [← hLe]; exact HM.out
    have hco := HCO.out
    rw [hLe] at hco
    obtain ⟨A9, c9, hv9, hcap9, hat⟩ := hco.lvs (D := fun q => w.heap.size + 2 ≤ q ∧ q < wr.heap.size) (fun q hq => hq.elim (fun f => f.elim) fun h => h)
    rw [hLM] at hv9 hcap9
    injection hv9 with z1 z2 z3
    subst z1 z3
    have hLne : L ≠ [] := by rw [← hL]; exact HNE.out
    have hM1 : 1 ≤ M := by rw [← hLM]; exact List.length_pos_iff.2 hLne
    obtain ⟨l0, Lt, hLc⟩ : ∃ l0 Lt, L = l0 :: Lt := by cases L with | nil => exact absurd rfl hLne | cons a b => exact ⟨a, b, rfl⟩
    have hX : X = Lt.foldl (fun o q => .mk 4 0 [o, q]) l0 := by rw [← HX2.out, nlevel, hL, hLc]
    have HLX := Lib.hid hX
    have hLtM : Lt.length + 1 = M := by rw [← hLM, hLc]; rfl
    obtain ⟨a0, cs0, hA0, hab0, hr0, hl0⟩ := hat.at_ (j := 0) (l := l0) (by rw [hLc]; rfl)
    obtain ⟨p0, q0, B0, m0, d0, rfl⟩ := hl0.lit3
    subst hA0
    have HAT := Lib.hid hat
    have HL0 := Lib.hid hl0
    have hr0' : rowAt wr (a0.add (0 * 3)) #[.int .i64 p0, .int .i64 q0, .slice B0 m0 d0] := by simpa using hr0
    clear hat hl0 hL hLe hco hX HCO HX2 HNE hLne htk hr0
    obtain ⟨wl, hwl⟩ : ∃ wl, wl = wr := ⟨_, rfl⟩
    subst hwl
    obtain ⟨W5, hW5⟩ : ∃ W5, wl.alloc (.cells #[.int .i64 p0, .int .i64 q0, .slice B0 m0 d0] 25) = W5 := ⟨_, rfl⟩
    have hu5 : Upd nob wl W5 := by rw [← hW5]; exact (Upd.refl nob wl).alloc _
    have HG5 := Lib.hid (show Blk W5 wl.heap.size 25 #[.int .i64 p0, .int .i64 q0, .slice B0 m0 d0] by rw [← hW5]; exact Blk.new wl _ _)
    have hs5 : W5.heap.size = wl.heap.size + 1 := by rw [← hW5]; simp
    have HS5 := Lib.hid hs5
    clear hs5
    obtain ⟨A2, hA2⟩ : ∃ A2, (if sc = 1 then some a0 else (some a0).map (·.add (1 * 3))) = A2 := ⟨_, rfl⟩
    have HA2 := Lib.hid hA2
    clear hA2
    go_wp2_with (first
     | (refine wpList_index_at rfl 23 (.tmp 42) _ rfl _ a0 _ _ rfl rfl 0 rfl hM1 25 Tryz.underlying23 3 lv_size ?_)
     | ((with_reducible refine this_op (.load 25 (.tmp 43)) ?_); refine wpList_at rfl 25 (.tmp 43) rfl (a0.add (0 * 3)) rfl _ _ hr0' Tryz.underlying25 rfl lv_size ?_)
     | ((with_reducible refine this_op (.slice 23 (.tmp 45) (some (.const (.int .i64 1))) none none) ?_); refine wpList_run rfl (.slice A2 (M - 1) (sc - 1)) _ (by rw [← HA2.out]; exact run_slice_l8 23 _ _ rfl (some a0) M sc rfl 1 rfl hM1 und_lvs 3 sz_lvs) ?_))
    have HW5 := Lib.hid hW5
    clear hW5
    go_loopg [48] Lt.length (fun k v48 wr => ∃ i : Nat, i + k = Lt.length ∧ v48 = .int .i64 i ∧ (∃ (p q : Int) (B : Option Addr) (m d : Nat), Blk wr wl.heap.size 25 #[.int .i64 p, .int .i64 q, .slice B m d] ∧ LvIs (fun q => (w.heap.size + 2 ≤ q ∧ q < wr.heap.size) ∧ q ≠ wl.heap.size) wr ((Lt.take i).foldl (fun o q => .mk 4 0 [o, q]) l0) #[.int .i64 p, .int .i64 q, .slice B m d]) ∧ Upd (fun q => q = wl.heap.size) W5 wr)
    case atStart =>
     have hs5 := HS5.out
     refine ⟨0, by omega, rfl, ⟨p0, q0, B0, m0, d0, HG5.out, HL0.out.old (Old.of_upd hu5 (fun q hq => ⟨fun f => f, hq.2⟩)) (fun q hq => ⟨⟨hq.1, by have := hq.2; omega⟩, by have := hq.2; omega⟩)⟩, Upd.refl _ _⟩
    case round =>
     obtain ⟨i, hi, rfl, ⟨p, q, B, m, d, g1, gl⟩, gu⟩ := hrel
     have G1 := Lib.hid g1
     have GL := Lib.hid gl
     clear gl
     have hs5 := HS5.out
     have hgs := gu.size
     by_cases hlt2 : i < Lt.length
     · have t4 : decide ((i : Int) < ((M - 1 : Nat) : Int)) = true := by simp; omega
       obtain ⟨li, hli⟩ : ∃ li, Lt[i] = li := ⟨_, rfl⟩
       obtain ⟨a1, cs1, hA1, hab1, hr1, hl1⟩ := HAT.out.at_ (j := i + 1) (l := li) (by rw [hLc, List.getElem?_cons_succ, List.getElem?_eq_getElem hlt2, hli])
       injection hA1 with hA1
       subst hA1
       obtain ⟨p1, q1, B1, m1, d1, rfl⟩ := hl1.lit3
       have hold : Old (fun q => w.heap.size + 2 ≤ q ∧ q < wl.heap.size) wl wr := (Old.of_upd hu5 (fun q hq => ⟨fun f => f, hq.2⟩)).trans (Old.of_upd gu (fun q hq => ⟨fun h => by have := hq.2; have : q = wl.heap.size := h; omega, by have := hq.2; omega⟩))
       have hr2 : rowAt wr ((a0.add 3).add (i * 3)) #[.int .i64 p1, .int .i64 q1, .slice B1 m1 d1] := by
        have h1 := hr1.old hold (by rw [Addr_add_block]; exact hab1)
        rw [Addr_add_add]
        have e : 3 + i * 3 = (0 + (i + 1)) * 3 := by omega
        rw [e]; exact h1
       have hl2 := hl1.old hold (fun _ h => h)
       have HL2 := Lib.hid hl2
       have hA3 : A2 = some (a0.add 3) := by rw [← HA2.out, if_neg (by omega)]; rfl
       have HA3 := Lib.hid hA3
       clear hA3
       have r9 := g1.rowAt
       have hwb : wr.heap.size ≠ wl.heap.size := by omega
       clear hr1 hl1 hl2 hold g1
       go_wp2_with (first
        | (refine wpList_index_at rfl 23 (.tmp 46) (.tmp 48) rfl _ (a0.add 3) _ _ rfl HA3.out i rfl (by omega) 25 Tryz.underlying23 3 lv_size ?_)
        | ((with_reducible refine this_op (.load 25 (.tmp 50)) ?_); refine wpList_at rfl 25 (.tmp 50) rfl ((a0.add 3).add (i * 3)) rfl _ _ hr2 Tryz.underlying25 rfl lv_size ?_)
        | ((with_reducible refine this_op (.load 25 (.tmp 6)) ?_); refine wpList_at rfl 25 (.tmp 6) rfl ⟨wl.heap.size, 0, none⟩ rfl _ _ (G1.out.upd ((Upd.refl nob wr).alloc _) (fun f => f)).rowAt Tryz.underlying25 rfl lv_size ?_)
        | ((with_reducible refine this_op (.store 25 (.tmp 6) (.tmp 55)) ?_); refine wpList_store_row rfl 25 (.tmp 6) (.tmp 55) rfl wl.heap.size _ rfl rfl 25 _ (G1.out.upd (((Upd.refl nob wr).alloc _).alloc _) (fun f => f)) lv_size rfl (by simp [Value.oneCell']) ?_))
       go_roundg (gk - 1)
       case measure => omega
       case rel =>
        obtain ⟨w9, hw9⟩ : ∃ w9, (wr.alloc (.cells #[.int .i64 p1, .int .i64 q1, .slice B1 m1 d1] 25)).alloc (.cells #[.int .i64 p, .int .i64 q, .slice B m d, .int .i64 p1, .int .i64 q1, .slice B1 m1 d1] 25) = w9 := ⟨_, rfl⟩
        have hu9 : Upd nob wr w9 := by rw [← hw9]; exact ((Upd.refl nob wr).alloc _).alloc _
        have hb9 : Blk w9 (wr.heap.size + 1) 25 (#[.int .i64 p, .int .i64 q, .slice B m d] ++ #[.int .i64 p1, .int .i64 q1, .slice B1 m1 d1]) := by
         rw [← hw9]
         have h := Blk.new (wr.alloc (.cells #[.int .i64 p1, .int .i64 q1, .slice B1 m1 d1] 25)) 25 (#[.int .i64 p, .int .i64 q, .slice B m d] ++ #[.int .i64 p1, .int .i64 q1, .slice B1 m1 d1])
         rw [World.size_alloc] at h
         exact h
        have hs9 : w9.heap.size = wr.heap.size + 2 := by rw [← hw9]; simp
        rw [hw9]
        have hu10 : Upd (fun q => q = wl.heap.size) w9 (w9.setRow wl.heap.size #[.int .i64 4, .int .i64 0, .slice (some ⟨wr.heap.size + 1, 0, none⟩) 2 2]) := (Upd.refl (fun q => q = wl.heap.size) w9).setRow (.inl rfl) _
        have hs10 : (w9.setRow wl.heap.size #[.int .i64 4, .int .i64 0, .slice (some ⟨wr.heap.size + 1, 0, none⟩) 2 2]).heap.size = w9.heap.size := by simp
        refine ⟨i + 1, by omega, by go_num, ⟨4, 0, some ⟨wr.heap.size + 1, 0, none⟩, 2, 2, (G1.out.upd hu9 (fun f => f)).row _, ?_⟩, (gu.trans (hu9.mono (fun _ f => f.elim))).trans hu10⟩
        rw [foldl_take _ _ _ _ hlt2, hli]
        have hol9 : Old (fun q => (w.heap.size + 2 ≤ q ∧ q < wr.heap.size) ∧ q ≠ wl.heap.size) wr w9 := Old.of_upd hu9 (fun q hq => ⟨fun f => f, hq.1.2⟩)
        have hol10 : Old (fun q => (w.heap.size + 2 ≤ q ∧ q < w9.heap.size) ∧ q ≠ wl.heap.size) w9 (w9.setRow wl.heap.size #[.int .i64 4, .int .i64 0, .slice (some ⟨wr.heap.size + 1, 0, none⟩) 2 2]) := Old.of_upd hu10 (fun q hq => ⟨hq.2, hq.1.2⟩)
        have h1 := GL.out.old (D' := fun q => (w.heap.size + 2 ≤ q ∧ q < w9.heap.size) ∧ q ≠ wl.heap.size) hol9 (fun q hq => ⟨⟨hq.1.1, by have := hq.1.2; omega⟩, hq.2⟩)
        have h2 := HL2.out.old (D' := fun q => (w.heap.size + 2 ≤ q ∧ q < w9.heap.size) ∧ q ≠ wl.heap.size) (Old.of_upd hu9 (fun q hq => ⟨fun f => f, by have := hq.2; omega⟩)) (fun q hq => ⟨⟨hq.1, by have := hq.2; omega⟩, by have := hq.2; omega⟩)
        exact (lmax_is h1 h2 (wr.heap.size + 1) ⟨⟨by omega, by omega⟩, by omega⟩ hb9).old hol10 (fun q hq => ⟨⟨hq.1.1, by have := hq.1.2; omega⟩, hq.2⟩)
     have t4 : decide ((i : Int) < ((M - 1 : Nat) : Int)) = false := by simp; omega
     have hil : i = Lt.length := by omega
     have htk : Lt.take i = Lt := List.take_of_length_le (by omega)
     have hgl := GL.out
     rw [htk, ← HLX.out] at hgl
     have HGL := Lib.hid hgl
     have r9 := g1.rowAt
     have hcd : Blk wr (w.heap.size + 1) 25 #[.int .i64 0, .int .i64 0, .slice none 0 0] := (C1.out.upd hu5 (fun f => f)).upd gu (fun h => by have : w.heap.size + 1 = wl.heap.size := h; omega)
     have HCD := Lib.hid hcd
     clear hgl htk hcd g1 GL
     go_wp2_with (first
      | ((with_reducible refine this_op (.load 25 (.tmp 6)) ?_); refine wpList_at rfl 25 (.tmp 6) rfl ⟨wl.heap.size, 0, none⟩ rfl _ _ r9 Tryz.underlying25 rfl lv_size ?_)
      | ((with_reducible refine this_op (.store 25 (.tmp 2) (.tmp 57)) ?_); refine wpList_store_row rfl 25 (.tmp 2) (.tmp 57) rfl (w.heap.size + 1) _ rfl rfl 25 _ HCD.out lv_size rfl (by simp [Value.oneCell']) ?_))
     refine bodyPost_ret (results_cell_row rfl _ _ (w.heap.size + 1) 25 #[.int .i64 p, .int .i64 q, .slice B m d] (0, 0) _ rfl (HCD.out.row _) Tryz.underlying25 rfl lv_size) rfl ?_
     have hfin : Upd (fun x => x = w.heap.size + 1) wr (wr.setRow (w.heap.size + 1) #[.int .i64 p, .int .i64 q, .slice B m d]) := (Upd.refl (fun x => x = w.heap.size + 1) wr).setRow (.inl rfl) _
     have hs10 : (wr.setRow (w.heap.size + 1) #[.int .i64 p, .int .i64 q, .slice B m d]).heap.size = wr.heap.size := by simp
     refine ⟨_, rfl, HGL.out.old (Old.of_upd hfin fun q hq => ⟨fun h => by have : q = w.heap.size + 1 := h; have := hq.1.1; omega, hq.1.2⟩) (fun q hq => ⟨by have := hq.1.1; omega, by have := hq.1.2; omega⟩), ?_⟩
     exact (((hu.trans hu5).trans' gu (fun x hx h => by have : x = wl.heap.size := h; omega)).trans' hfin (fun x hx h => by have : x = w.heap.size + 1 := h; omega)).below
 have e1 : decide (0 < n.c) = false := by simp; omega
 by_cases hks : N = 0
 · have e2 : ((N : Int) == 0) = true := by simp [hks]
   have hhd : nhead n = [.mk 1 n.c []] := by unfold nhead; rw [if_pos (.inr (List.eq_nil_of_length_eq_zero (by rw [HN.out]; exact hks)))]
   clear hks
   go_enter Tryz.func170, Tryz.ntmps170
   go_wp2_with fail
   rw [HW1.out]
   refine (lnum_any n.c W1 (by unfold InI; omega)).mono ?_
   rintro e w3 ⟨rfl, hb3⟩
   have hu3 : Upd nob W1 w3 := Upd.of_below hb3
   have hsz3 := hu3.size
   have hl4 : LvIs nob (w3.alloc (.cells #[.int .i64 1, .int .i64 n.c, .slice none 0 0] 25)) (.mk 1 n.c []) #[.int .i64 1, .int .i64 n.c, .slice none 0 0] := by
    simp only [LvIs, LvsAt]; exact ⟨none, 0, rfl, by unfold InI; omega, by unfold InI; omega, by simp, trivial⟩
   go_wp2_with (first
    | ((with_reducible refine this_op (.buildSlice 23 1 #[(0, .tmp 21)]) ?_); refine wpList_build1 rfl 23 25 (.tmp 21) rfl _ 3 40 Tryz.underlying23 lv_info (by decide) (by decide) #[.int .i64 1, .int .i64 n.c, .slice none 0 0] rfl rfl ?_)
    | (at_builtin; refine wpList_collect (v := .slice none 0 0) rfl (.tmp 18) (.tmp 22) 23 rfl _ 40 Tryz.underlying23 lv_info (by kernel_rfl) (by decide) rfl (Coll.nil_ (R := lvR) (E := nob) (base := w.heap.size + 2)) (fun x h => h.elim) w3.heap.size #[.int .i64 1, .int .i64 n.c, .slice none 0 0] rfl (Blk.new _ _ _) (.mk 1 n.c []) _ hl4 (fun x h => h.elim) 0 rfl (by omega) (by omega) (by simp; omega) ?_
       intro sA6 sc6 w6 hc6 hu6 hat6
       have HC6 := Lib.hid hc6
       have HU6 := Lib.hid hu6
       clear hc6 hu6
       have hu36 : Upd nob W1 w6 := hu3.trans (((Upd.refl nob w3).alloc _).trans (HU6.out.mono (fun _ f => by simp [Value.ownBlock] at f)))
       have q1 : w6.cell? ⟨w.heap.size, 1, none⟩ = some (.slice A N c) := (hu36.cell hlt0 (fun f => f)).trans k1))
   have hu06 : Upd nob w w6 := huW1.trans hu36
   have hB16 := HB1.out.upd hu36 (fun f => f)
   have hB06 := HB0.out.upd hu36 (fun f => f)
   have hc6 : Coll lvR nob (w.heap.size + 2) 25 w6 (.slice sA6 1 sc6) (nhead n) := by rw [hhd]; exact HC6.out
   have hs6 : w.heap.size + 2 ≤ w6.heap.size := by have := hu36.size; omega
   clear k0 k1 hl4 hb3 HC6 HU6 hat6
   go_loopg [3, 27] N (fun k v3 v27 wr => ∃ j : Nat, j + k = N ∧ v27 = .int .i64 j ∧ Blk wr (w.heap.size + 1) 25 #[.int .i64 0, .int .i64 0, .slice none 0 0] ∧ Coll lvR nob (w.heap.size + 2) 25 wr v3 (nhead n ++ pks (n.ks.take j) 0) ∧ Upd nob w wr ∧ w.heap.size + 2 ≤ wr.heap.size)
   case atStart => exact ⟨0, by omega, rfl, hB16, by simpa [pks] using hc6, hu06, hs6⟩
   case round =>
    clear HB0 HB1 huW1 hsW1 hB16 hB06 hc6 hu06 hs6
    obtain ⟨j, hj, rfl, c1, hco, hu, hsz⟩ := hrel
    obtain ⟨sA, sc, hsl, hcp⟩ := hco.form
    subst hsl
    have hM0 : (nhead n ++ pks (n.ks.take j) 0).length ≤ 1 + N := by
     have h1 : (nhead n).length ≤ 1 := by unfold nhead; split <;> simp
     have h2 := pks_len (n.ks.take j) 0
     have h3 : (n.ks.take j).length ≤ N := by rw [← HN.out]; simp; omega
     rw [List.length_append]; omega
    obtain ⟨M, hM⟩ : ∃ M, (nhead n ++ pks (n.ks.take j) 0).length = M := ⟨_, rfl⟩
    rw [hM] at hM0 hcp
    rw [hM] at hco
    rw [hM]
    have HM := Lib.hid hM
    have C1 := Lib.hid c1
    have HCO := Lib.hid hco
    have hnO : ∀ q, (Value.slice sA M sc).ownBlock = some q → w.heap.size + 2 ≤ q ∧ q < wr.heap.size := fun q h => HCO.out.lt h
    clear c1 hco hM
    by_cases hlt : j < N
    · have t2 : decide ((j : Int) < N) = true := by simp [hlt]
      have hlt' : j < n.ks.length := by rw [HN.out]; exact hlt
      obtain ⟨a, hA, hab, hcell, _⟩ := hzs j _ (List.getElem?_eq_getElem hlt')
      obtain ⟨x, hxj⟩ : ∃ x, n.ks[j] = x := ⟨_, rfl⟩
      have hx2 := HX.out n.ks[j] (List.getElem_mem hlt')
      rw [hxj] at hcell hx2
      obtain ⟨hx0, hx1⟩ := hx2
      have hcell' : wr.cell? (a.add j) = some (.int .i64 x) := ((hD.old hu).cell (by rw [Addr_add_block]; exact hab)).trans hcell
      have hpt : pks (n.ks.take (j + 1)) 0 = pks (n.ks.take j) 0 ++ pk x j := by rw [pks_take _ _ hlt', hxj]
      have HPT := Lib.hid hpt
      have HA := Lib.hid hA
      clear hA hcell hxj hpt
      by_cases hx3 : 0 ≤ x
      · have t3 : decide (0 ≤ x) = true := by simp [hx3]
        have hpk : pk x j = [lplus x (.mk 2 j [])] := by unfold pk; rw [if_pos hx3]
        have HPK := Lib.hid hpk
        clear hpk
        go_wp2_with (first
         | (refine wpList_index_at rfl 142 (.tmp 25) (.tmp 27) rfl _ a _ _ rfl HA.out j rfl hlt 3 Tryz.underlying142 1 int_size ?_))
        refine (lvar_any j wr (by unfold InI; omega)).mono ?_
        rintro e w7 ⟨rfl, hb7⟩
        have hu7 : Upd nob wr w7 := Upd.of_below hb7
        have hl7 : LvIs nob w7 (.mk 2 j []) #[.int .i64 2, .int .i64 j, .slice none 0 0] := by
         simp only [LvIs, LvsAt]; exact ⟨none, 0, rfl, by unfold InI; omega, by unfold InI; omega, by simp, trivial⟩
        go_wp2_with fail
        refine (lplus_any x (.mk 2 j []) _ nob w7 (by unfold InI; omega) (fun _ f => f.elim) hl7).mono ?_
        rintro e w8 ⟨cs8, rfl, hl8, hb8⟩
        have hu8 : Upd nob w7 w8 := Upd.of_below hb8
        obtain ⟨p8, q8, B8, m8, d8, rfl⟩ := hl8.lit3
        have hs7 := hu7.size
        have hs8 := hu8.size
        have hu9 : Upd nob wr (w8.alloc (.cells #[.int .i64 p8, .int .i64 q8, .slice B8 m8 d8] 25)) := (hu7.trans hu8).alloc _
        have hc9 := HCO.out.upd hu9 (fun _ f => f.elim) (fun x h => h.elim)
        have HC9 := Lib.hid hc9
        have hl9 : LvIs (fun q => w7.heap.size ≤ q ∧ q < w8.heap.size) (w8.alloc (.cells #[.int .i64 p8, .int .i64 q8, .slice B8 m8 d8] 25)) (lplus x (.mk 2 j [])) #[.int .i64 p8, .int .i64 q8, .slice B8 m8 d8] :=
         hl8.old (Old.of_upd ((Upd.refl nob w8).alloc _) (fun q hq => ⟨fun f => f, hq.elim (fun f => f.elim) (fun h => h.2)⟩)) (fun q hq => hq.elim (fun f => f.elim) (fun h => h))
        clear hc9 hl8 hl7
        go_wp2_with (first
         | ((with_reducible refine this_op (.buildSlice 23 1 #[(0, .tmp 38)]) ?_); refine wpList_build1 rfl 23 25 (.tmp 38) rfl _ 3 40 Tryz.underlying23 lv_info (by decide) (by decide) #[.int .i64 p8, .int .i64 q8, .slice B8 m8 d8] rfl rfl ?_)
         | (at_builtin; refine wpList_collect rfl (.tmp 34) (.tmp 39) 23 rfl _ 40 Tryz.underlying23 lv_info (by kernel_rfl) (by decide) rfl HC9.out (fun x h => h.elim) w8.heap.size #[.int .i64 p8, .int .i64 q8, .slice B8 m8 d8] rfl (Blk.new _ _ _) (lplus x (.mk 2 j [])) _ hl9 (fun q h => ⟨.inr ⟨by have := h.1; omega, by simp; have := h.2; omega⟩, fun h2 => by have := (hnO q h2).2; have := h.1; omega⟩) M HM.out (by omega) (by omega) (by simp; omega) ?_
            intro sA6 sc6 w9 hc6 hu6 hat6
            have HC6 := Lib.hid hc6
            have HU6 := Lib.hid hu6
            clear hc6 hu6))
        go_roundg (gk - 1)
        case measure => omega
        case rel =>
         have hu10 : Upd (fun q => (Value.slice sA M sc).ownBlock = some q) wr w9 := (hu9.mono (fun _ f => f.elim)).trans HU6.out
         refine ⟨j + 1, by omega, by go_num, C1.out.upd hu10 (fun h => by have := (hnO _ h).1; omega), ?_, hu.trans' hu10 (fun q hq h => by have := (hnO q h).1; omega), by have := hu10.size; omega⟩
         rw [HPT.out, HPK.out, ← List.append_assoc]
         exact HC6.out
      have t3 : decide (0 ≤ x) = false := by simp; omega
      have hpk : pk x j = [] := by unfold pk; rw [if_neg hx3]
      have HPK := Lib.hid hpk
      clear hpk
      go_wp2_with (first
       | (refine wpList_index_at rfl 142 (.tmp 25) (.tmp 27) rfl _ a _ _ rfl HA.out j rfl hlt 3 Tryz.underlying142 1 int_size ?_))
      go_roundg (gk - 1)
      case measure => omega
      case rel =>
       refine ⟨j + 1, by omega, by go_num, C1.out, ?_, hu, hsz⟩
       rw [HPT.out, HPK.out, List.append_nil]
       exact HCO.out
    have t2 : decide ((j : Int) < N) = false := by simp; omega
    have hjm : j = N := by omega
    subst hjm
    have htk : n.ks.take j = n.ks := List.take_of_length_le (by rw [HN.out]; exact Nat.le_refl _)
    obtain ⟨L, hL⟩ : ∃ L, nparts n = L := ⟨_, rfl⟩
    have hLe : nhead n ++ pks (n.ks.take j) 0 = L := by rw [htk]; exact hL
    have hLM : L.length = M := by rw [← hLe]; exact HM.out
    have hco := HCO.out
    rw [hLe] at hco
    obtain ⟨A9, c9, hv9, hcap9, hat⟩ := hco.lvs (D := fun q => w.heap.size + 2 ≤ q ∧ q < wr.heap.size) (fun q hq => hq.elim (fun f => f.elim) fun h => h)
    rw [hLM] at hv9 hcap9
    injection hv9 with z1 z2 z3
    subst z1 z3
    have hLne : L ≠ [] := by rw [← hL]; exact HNE.out
    have hM1 : 1 ≤ M := by rw [← hLM]; exact List.length_pos_iff.2 hLne
    obtain ⟨l0, Lt, hLc⟩ : ∃ l0 Lt, L = l0 :: Lt := by cases L with | nil => exact absurd rfl hLne | cons a b => exact ⟨a, b, rfl⟩
    have hX : X = Lt.foldl (fun o q => .mk 4 0 [o, q]) l0 := by rw [← HX2.out, nlevel, hL, hLc]
    have HLX := Lib.hid hX
    have hLtM : Lt.length + 1 = M := by rw [← hLM, hLc]; rfl
    obtain ⟨a0, cs0, hA0, hab0, hr0, hl0⟩ := hat.at_ (j := 0) (l := l0) (by rw [hLc]; rfl)
    obtain ⟨p0, q0, B0, m0, d0, rfl⟩ := hl0.lit3
    subst hA0
    have HAT := Lib.hid hat
    have HL0 := Lib.hid hl0
    have hr0' : rowAt wr (a0.add (0 * 3)) #[.int .i64 p0, .int .i64 q0, .slice B0 m0 d0] := by simpa using hr0
    clear hat hl0 hL hLe hco hX HCO HX2 HNE hLne htk hr0
    obtain ⟨wl, hwl⟩ : ∃ wl, wl = wr := ⟨_, rfl⟩
    subst hwl
    obtain ⟨W5, hW5⟩ : ∃ W5, wl.alloc (.cells #[.int .i64 p0, .int .i64 q0, .slice B0 m0 d0] 25) = W5 := ⟨_, rfl⟩
    have hu5 : Upd nob wl W5 := by rw [← hW5]; exact (Upd.refl nob wl).alloc _
    have HG5 := Lib.hid (show Blk W5 wl.heap.size 25 #[.int .i64 p0, .int .i64 q0, .slice B0 m0 d0] by rw [← hW5]; exact Blk.new wl _ _)
    have hs5 : W5.heap.size = wl.heap.size + 1 := by rw [← hW5]; simp
    have HS5 := Lib.hid hs5
    clear hs5
    obtain ⟨A2, hA2⟩ : ∃ A2, (if sc = 1 then some a0 else (some a0).map (·.add (1 * 3))) = A2 := ⟨_, rfl⟩
    have HA2 := Lib.hid hA2
    clear hA2
    go_wp2_with (first
     | (refine wpList_index_at rfl 23 (.tmp 42) _ rfl _ a0 _ _ rfl rfl 0 rfl hM1 25 Tryz.underlying23 3 lv_size ?_)
     | ((with_reducible refine this_op (.load 25 (.tmp 43)) ?_); refine wpList_at rfl 25 (.tmp 43) rfl (a0.add (0 * 3)) rfl _ _ hr0' Tryz.underlying25 rfl lv_size ?_)
     | ((with_reducible refine this_op (.slice 23 (.tmp 45) (some (.const (.int .i64 1))) none none) ?_); refine wpList_run rfl (.slice A2 (M - 1) (sc - 1)) _ (by rw [← HA2.out]; exact run_slice_l8 23 _ _ rfl (some a0) M sc rfl 1 rfl hM1 und_lvs 3 sz_lvs) ?_))
    have HW5 := Lib.hid hW5
    clear hW5
    go_loopg [48] Lt.length (fun k v48 wr => ∃ i : Nat, i + k = Lt.length ∧ v48 = .int .i64 i ∧ (∃ (p q : Int) (B : Option Addr) (m d : Nat), Blk wr wl.heap.size 25 #[.int .i64 p, .int .i64 q, .slice B m d] ∧ LvIs (fun q => (w.heap.size + 2 ≤ q ∧ q < wr.heap.size) ∧ q ≠ wl.heap.size) wr ((Lt.take i).foldl (fun o q => .mk 4 0 [o, q]) l0) #[.int .i64 p, .int .i64 q, .slice B m d]) ∧ Upd (fun q => q = wl.heap.size) W5 wr)
    case atStart =>
     have hs5 := HS5.out
     refine ⟨0, by omega, rfl, ⟨p0, q0, B0, m0, d0, HG5.out, HL0.out.old (Old.of_upd hu5 (fun q hq => ⟨fun f => f, hq.2⟩)) (fun q hq => ⟨⟨hq.1, by have := hq.2; omega⟩, by have := hq.2; omega⟩)⟩, Upd.refl _ _⟩
    case round =>
     obtain ⟨i, hi, rfl, ⟨p, q, B, m, d, g1, gl⟩, gu⟩ := hrel
     have G1 := Lib.hid g1
     have GL := Lib.hid gl
     clear gl
     have hs5 := HS5.out
     have hgs := gu.size
     by_cases hlt2 : i < Lt.length
     · have t4 : decide ((i : Int) < ((M - 1 : Nat) : Int)) = true := by simp; omega
       obtain ⟨li, hli⟩ : ∃ li, Lt[i] = li := ⟨_, rfl⟩
       obtain ⟨a1, cs1, hA1, hab1, hr1, hl1⟩ := HAT.out.at_ (j := i + 1) (l := li) (by rw [hLc, List.getElem?_cons_succ, List.getElem?_eq_getElem hlt2, hli])
       injection hA1 with hA1
       subst hA1
       obtain ⟨p1, q1, B1, m1, d1, rfl⟩ := hl1.lit3
       have hold : Old (fun q => w.heap.size + 2 ≤ q ∧ q < wl.heap.size) wl wr := (Old.of_upd hu5 (fun q hq => ⟨fun f => f, hq.2⟩)).trans (Old.of_upd gu (fun q hq => ⟨fun h => by have := hq.2; have : q = wl.heap.size := h; omega, by have := hq.2; omega⟩))
       have hr2 : rowAt wr ((a0.add 3).add (i * 3)) #[.int .i64 p1, .int .i64 q1, .slice B1 m1 d1] := by
        have h1 := hr1.old hold (by rw [Addr_add_block]; exact hab1)
        rw [Addr_add_add]
        have e : 3 + i * 3 = (0 + (i + 1)) * 3 := by omega
        rw [e]; exact h1
       have hl2 := hl1.old hold (fun _ h => h)
       have HL2 := Lib.hid hl2
       have hA3 : A2 = some (a0.add 3) := by rw [← HA2.out, if_neg (by omega)]; rfl
       have HA3 := Lib.hid hA3
       clear hA3
       have r9 := g1.rowAt
       have hwb : wr.heap.size ≠ wl.heap.size := by omega
       clear hr1 hl1 hl2 hold g1
       go_wp2_with (first
        | (refine wpList_index_at rfl 23 (.tmp 46) (.tmp 48) rfl _ (a0.add 3) _ _ rfl HA3.out i rfl (by omega) 25 Tryz.underlying23 3 lv_size ?_)
        | ((with_reducible refine this_op (.load 25 (.tmp 50)) ?_); refine wpList_at rfl 25 (.tmp 50) rfl ((a0.add 3).add (i * 3)) rfl _ _ hr2 Tryz.underlying25 rfl lv_size ?_)
        | ((with_reducible refine this_op (.load 25 (.tmp 6)) ?_); refine wpList_at rfl 25 (.tmp 6) rfl ⟨wl.heap.size, 0, none⟩ rfl _ _ (G1.out.upd ((Upd.refl nob wr).alloc _) (fun f => f)).rowAt Tryz.underlying25 rfl lv_size ?_)
        | ((with_reducible refine this_op (.store 25 (.tmp 6) (.tmp 55)) ?_); refine wpList_store_row rfl 25 (.tmp 6) (.tmp 55) rfl wl.heap.size _ rfl rfl 25 _ (G1.out.upd (((Upd.refl nob wr).alloc _).alloc _) (fun f => f)) lv_size rfl (by simp [Value.oneCell']) ?_))
       go_roundg (gk - 1)
       case measure => omega
       case rel =>
        obtain ⟨w9, hw9⟩ : ∃ w9, (wr.alloc (.cells #[.int .i64 p1, .int .i64 q1, .slice B1 m1 d1] 25)).alloc (.cells #[.int .i64 p, .int .i64 q, .slice B m d, .int .i64 p1, .int .i64 q1, .slice B1 m1 d1] 25) = w9 := ⟨_, rfl⟩
        have hu9 : Upd nob wr w9 := by rw [← hw9]; exact ((Upd.refl nob wr).alloc _).alloc _
        have hb9 : Blk w9 (wr.heap.size + 1) 25 (#[.int .i64 p, .int .i64 q, .slice B m d] ++ #[.int .i64 p1, .int .i64 q1, .slice B1 m1 d1]) := by
         rw [← hw9]
         have h := Blk.new (wr.alloc (.cells #[.int .i64 p1, .int .i64 q1, .slice B1 m1 d1] 25)) 25 (#[.int .i64 p, .int .i64 q, .slice B m d] ++ #[.int .i64 p1, .int .i64 q1, .slice B1 m1 d1])
         rw [World.size_alloc] at h
         exact h
        have hs9 : w9.heap.size = wr.heap.size + 2 := by rw [← hw9]; simp
        rw [hw9]
        have hu10 : Upd (fun q => q = wl.heap.size) w9 (w9.setRow wl.heap.size #[.int .i64 4, .int .i64 0, .slice (some ⟨wr.heap.size + 1, 0, none⟩) 2 2]) := (Upd.refl (fun q => q = wl.heap.size) w9).setRow (.inl rfl) _
        have hs10 : (w9.setRow wl.heap.size #[.int .i64 4, .int .i64 0, .slice (some ⟨wr.heap.size + 1, 0, none⟩) 2 2]).heap.size = w9.heap.size := by simp
        refine ⟨i + 1, by omega, by go_num, ⟨4, 0, some ⟨wr.heap.size + 1, 0, none⟩, 2, 2, (G1.out.upd hu9 (fun f => f)).row _, ?_⟩, (gu.trans (hu9.mono (fun _ f => f.elim))).trans hu10⟩
        rw [foldl_take _ _ _ _ hlt2, hli]
        have hol9 : Old (fun q => (w.heap.size + 2 ≤ q ∧ q < wr.heap.size) ∧ q ≠ wl.heap.size) wr w9 := Old.of_upd hu9 (fun q hq => ⟨fun f => f, hq.1.2⟩)
        have hol10 : Old (fun q => (w.heap.size + 2 ≤ q ∧ q < w9.heap.size) ∧ q ≠ wl.heap.size) w9 (w9.setRow wl.heap.size #[.int .i64 4, .int .i64 0, .slice (some ⟨wr.heap.size + 1, 0, none⟩) 2 2]) := Old.of_upd hu10 (fun q hq => ⟨hq.2, hq.1.2⟩)
        have h1 := GL.out.old (D' := fun q => (w.heap.size + 2 ≤ q ∧ q < w9.heap.size) ∧ q ≠ wl.heap.size) hol9 (fun q hq => ⟨⟨hq.1.1, by have := hq.1.2; omega⟩, hq.2⟩)
        have h2 := HL2.out.old (D' := fun q => (w.heap.size + 2 ≤ q ∧ q < w9.heap.size) ∧ q ≠ wl.heap.size) (Old.of_upd hu9 (fun q hq => ⟨fun f => f, by have := hq.2; omega⟩)) (fun q hq => ⟨⟨hq.1, by have := hq.2; omega⟩, by have := hq.2; omega⟩)
        exact (lmax_is h1 h2 (wr.heap.size + 1) ⟨⟨by omega, by omega⟩, by omega⟩ hb9).old hol10 (fun q hq => ⟨⟨hq.1.1, by have := hq.1.2; omega⟩, hq.2⟩)
     have t4 : decide ((i : Int) < ((M - 1 : Nat) : Int)) = false := by simp; omega
     have hil : i = Lt.length := by omega
     have htk : Lt.take i = Lt := List.take_of_length_le (by omega)
     have hgl := GL.out
     rw [htk, ← HLX.out] at hgl
     have HGL := Lib.hid hgl
     have r9 := g1.rowAt
     have hcd : Blk wr (w.heap.size + 1) 25 #[.int .i64 0, .int .i64 0, .slice none 0 0] := (C1.out.upd hu5 (fun f => f)).upd gu (fun h => by have : w.heap.size + 1 = wl.heap.size := h; omega)
     have HCD := Lib.hid hcd
     clear hgl htk hcd g1 GL
     go_wp2_with (first
      | ((with_reducible refine this_op (.load 25 (.tmp 6)) ?_); refine wpList_at rfl 25 (.tmp 6) rfl ⟨wl.heap.size, 0, none⟩ rfl _ _ r9 Tryz.underlying25 rfl lv_size ?_)
      | ((with_reducible refine this_op (.store 25 (.tmp 2) (.tmp 57)) ?_); refine wpList_store_row rfl 25 (.tmp 2) (.tmp 57) rfl (w.heap.size + 1) _ rfl rfl 25 _ HCD.out lv_size rfl (by simp [Value.oneCell']) ?_))
     refine bodyPost_ret (results_cell_row rfl _ _ (w.heap.size + 1) 25 #[.int .i64 p, .int .i64 q, .slice B m d] (0, 0) _ rfl (HCD.out.row _) Tryz.underlying25 rfl lv_size) rfl ?_
     have hfin : Upd (fun x => x = w.heap.size + 1) wr (wr.setRow (w.heap.size + 1) #[.int .i64 p, .int .i64 q, .slice B m d]) := (Upd.refl (fun x => x = w.heap.size + 1) wr).setRow (.inl rfl) _
     have hs10 : (wr.setRow (w.heap.size + 1) #[.int .i64 p, .int .i64 q, .slice B m d]).heap.size = wr.heap.size := by simp
     refine ⟨_, rfl, HGL.out.old (Old.of_upd hfin fun q hq => ⟨fun h => by have : q = w.heap.size + 1 := h; have := hq.1.1; omega, hq.1.2⟩) (fun q hq => ⟨by have := hq.1.1; omega, by have := hq.1.2; omega⟩), ?_⟩
     exact (((hu.trans hu5).trans' gu (fun x hx h => by have : x = wl.heap.size := h; omega)).trans' hfin (fun x hx h => by have : x = w.heap.size + 1 := h; omega)).below
 have e2 : ((N : Int) == 0) = false := by simp; omega
 have hhd : nhead n = [] := by unfold nhead; rw [if_neg (fun h => h.elim hcc (fun h => hks (by rw [← HN.out, h]; rfl)))]
 go_enter Tryz.func170, Tryz.ntmps170
 have k0' := k0
 have k1' := k1
 rw [← HW1.out] at k0' k1'
 go_wp2_with fail
 rw [HW1.out]
 have hu06 : Upd nob w W1 := huW1
 have hB16 := HB1.out
 have hB06 := HB0.out
 have hc6 : Coll lvR nob (w.heap.size + 2) 25 W1 (.slice none 0 0) (nhead n) := by rw [hhd]; exact Coll.nil_
 have hs6 : w.heap.size + 2 ≤ W1.heap.size := by omega
 clear k0 k1 k0' k1'
 go_loopg [3, 27] N (fun k v3 v27 wr => ∃ j : Nat, j + k = N ∧ v27 = .int .i64 j ∧ Blk wr (w.heap.size + 1) 25 #[.int .i64 0, .int .i64 0, .slice none 0 0] ∧ Coll lvR nob (w.heap.size + 2) 25 wr v3 (nhead n ++ pks (n.ks.take j) 0) ∧ Upd nob w wr ∧ w.heap.size + 2 ≤ wr.heap.size)
 case atStart => exact ⟨0, by omega, rfl, hB16, by simpa [pks] using hc6, hu06, hs6⟩
 case round =>
  clear HB0 HB1 huW1 hsW1 hB16 hB06 hc6 hu06 hs6
  obtain ⟨j, hj, rfl, c1, hco, hu, hsz⟩ := hrel
  obtain ⟨sA, sc, hsl, hcp⟩ := hco.form
  subst hsl
  have hM0 : (nhead n ++ pks (n.ks.take j) 0).length ≤ 1 + N := by
   have h1 : (nhead n).length ≤ 1 := by unfold nhead; split <;> simp
   have h2 := pks_len (n.ks.take j) 0
   have h3 : (n.ks.take j).length ≤ N := by rw [← HN.out]; simp; omega
   rw [List.length_append]; omega
  obtain ⟨M, hM⟩ : ∃ M, (nhead n ++ pks (n.ks.take j) 0).length = M := ⟨_, rfl⟩
  rw [hM] at hM0 hcp
  rw [hM] at hco
  rw [hM]
  have HM := Lib.hid hM
  have C1 := Lib.hid c1
  have HCO := Lib.hid hco
  have hnO : ∀ q, (Value.slice sA M sc).ownBlock = some q → w.heap.size + 2 ≤ q ∧ q < wr.heap.size := fun q h => HCO.out.lt h
  clear c1 hco hM
  by_cases hlt : j < N
  · have t2 : decide ((j : Int) < N) = true := by simp [hlt]
    have hlt' : j < n.ks.length := by rw [HN.out]; exact hlt
    obtain ⟨a, hA, hab, hcell, _⟩ := hzs j _ (List.getElem?_eq_getElem hlt')
    obtain ⟨x, hxj⟩ : ∃ x, n.ks[j] = x := ⟨_, rfl⟩
    have hx2 := HX.out n.ks[j] (List.getElem_mem hlt')
    rw [hxj] at hcell hx2
    obtain ⟨hx0, hx1⟩ := hx2
    have hcell' : wr.cell? (a.add j) = some (.int .i64 x) := ((hD.old hu).cell (by rw [Addr_add_block]; exact hab)).trans hcell
    have hpt : pks (n.ks.take (j + 1)) 0 = pks (n.ks.take j) 0 ++ pk x j := by rw [pks_take _ _ hlt', hxj]
    have HPT := Lib.hid hpt
    have HA := Lib.hid hA
    clear hA hcell hxj hpt
    by_cases hx3 : 0 ≤ x
    · have t3 : decide (0 ≤ x) = true := by simp [hx3]
      have hpk : pk x j = [lplus x (.mk 2 j [])] := by unfold pk; rw [if_pos hx3]
      have HPK := Lib.hid hpk
      clear hpk
      go_wp2_with (first
       | (refine wpList_index_at rfl 142 (.tmp 25) (.tmp 27) rfl _ a _ _ rfl HA.out j rfl hlt 3 Tryz.underlying142 1 int_size ?_))
      refine (lvar_any j wr (by unfold InI; omega)).mono ?_
      rintro e w7 ⟨rfl, hb7⟩
      have hu7 : Upd nob wr w7 := Upd.of_below hb7
      have hl7 : LvIs nob w7 (.mk 2 j []) #[.int .i64 2, .int .i64 j, .slice none 0 0] := by
       simp only [LvIs, LvsAt]; exact ⟨none, 0, rfl, by unfold InI; omega, by unfold InI; omega, by simp, trivial⟩
      go_wp2_with fail
      refine (lplus_any x (.mk 2 j []) _ nob w7 (by unfold InI; omega) (fun _ f => f.elim) hl7).mono ?_
      rintro e w8 ⟨cs8, rfl, hl8, hb8⟩
      have hu8 : Upd nob w7 w8 := Upd.of_below hb8
      obtain ⟨p8, q8, B8, m8, d8, rfl⟩ := hl8.lit3
      have hs7 := hu7.size
      have hs8 := hu8.size
      have hu9 : Upd nob wr (w8.alloc (.cells #[.int .i64 p8, .int .i64 q8, .slice B8 m8 d8] 25)) := (hu7.trans hu8).alloc _
      have hc9 := HCO.out.upd hu9 (fun _ f => f.elim) (fun x h => h.elim)
      have HC9 := Lib.hid hc9
      have hl9 : LvIs (fun q => w7.heap.size ≤ q ∧ q < w8.heap.size) (w8.alloc (.cells #[.int .i64 p8, .int .i64 q8, .slice B8 m8 d8] 25)) (lplus x (.mk 2 j [])) #[.int .i64 p8, .int .i64 q8, .slice B8 m8 d8] :=
       hl8.old (Old.of_upd ((Upd.refl nob w8).alloc _) (fun q hq => ⟨fun f => f, hq.elim (fun f => f.elim) (fun h => h.2)⟩)) (fun q hq => hq.elim (fun f => f.elim) (fun h => h))
      clear hc9 hl8 hl7
      go_wp2_with (first
       | ((with_reducible refine this_op (.buildSlice 23 1 #[(0, .tmp 38)]) ?_); refine wpList_build1 rfl 23 25 (.tmp 38) rfl _ 3 40 Tryz.underlying23 lv_info (by decide) (by decide) #[.int .i64 p8, .int .i64 q8, .slice B8 m8 d8] rfl rfl ?_)
       | (at_builtin; refine wpList_collect rfl (.tmp 34) (.tmp 39) 23 rfl _ 40 Tryz.underlying23 lv_info (by kernel_rfl) (by decide) rfl HC9.out (fun x h => h.elim) w8.heap.size #[.int .i64 p8, .int .i64 q8, .slice B8 m8 d8] rfl (Blk.new _ _ _) (lplus x (.mk 2 j [])) _ hl9 (fun q h => ⟨.inr ⟨by have := h.1; omega, by simp; have := h.2; omega⟩, fun h2 => by have := (hnO q h2).2; have := h.1; omega⟩) M HM.out (by omega) (by omega) (by simp; omega) ?_
          intro sA6 sc6 w9 hc6 hu6 hat6
          have HC6 := Lib.hid hc6
          have HU6 := Lib.hid hu6
          clear hc6 hu6))
      go_roundg (gk - 1)
      case measure => omega
      case rel =>
       have hu10 : Upd (fun q => (Value.slice sA M sc).ownBlock = some q) wr w9 := (hu9.mono (fun _ f => f.elim)).trans HU6.out
       refine ⟨j + 1, by omega, by go_num, C1.out.upd hu10 (fun h => by have := (hnO _ h).1; omega), ?_, hu.trans' hu10 (fun q hq h => by have := (hnO q h).1; omega), by have := hu10.size; omega⟩
       rw [HPT.out, HPK.out, ← List.append_assoc]
       exact HC6.out
    have t3 : decide (0 ≤ x) = false := by simp; omega
    have hpk : pk x j = [] := by unfold pk; rw [if_neg hx3]
    have HPK := Lib.hid hpk
    clear hpk
    go_wp2_with (first
     | (refine wpList_index_at rfl 142 (.tmp 25) (.tmp 27) rfl _ a _ _ rfl HA.out j rfl hlt 3 Tryz.underlying142 1 int_size ?_))
    go_roundg (gk - 1)
    case measure => omega
    case rel =>
     refine ⟨j + 1, by omega, by go_num, C1.out, ?_, hu, hsz⟩
     rw [HPT.out, HPK.out, List.append_nil]
     exact HCO.out
  have t2 : decide ((j : Int) < N) = false := by simp; omega
  have hjm : j = N := by omega
  subst hjm
  have htk : n.ks.take j = n.ks := List.take_of_length_le (by rw [HN.out]; exact Nat.le_refl _)
  obtain ⟨L, hL⟩ : ∃ L, nparts n = L := ⟨_, rfl⟩
  have hLe : nhead n ++ pks (n.ks.take j) 0 = L := by rw [htk]; exact hL
  have hLM : L.length = M := by rw [← hLe]; exact HM.out
  have hco := HCO.out
  rw [hLe] at hco
  obtain ⟨A9, c9, hv9, hcap9, hat⟩ := hco.lvs (D := fun q => w.heap.size + 2 ≤ q ∧ q < wr.heap.size) (fun q hq => hq.elim (fun f => f.elim) fun h => h)
  rw [hLM] at hv9 hcap9
  injection hv9 with z1 z2 z3
  subst z1 z3
  have hLne : L ≠ [] := by rw [← hL]; exact HNE.out
  have hM1 : 1 ≤ M := by rw [← hLM]; exact List.length_pos_iff.2 hLne
  obtain ⟨l0, Lt, hLc⟩ : ∃ l0 Lt, L = l0 :: Lt := by cases L with | nil => exact absurd rfl hLne | cons a b => exact ⟨a, b, rfl⟩
  have hX : X = Lt.foldl (fun o q => .mk 4 0 [o, q]) l0 := by rw [← HX2.out, nlevel, hL, hLc]
  have HLX := Lib.hid hX
  have hLtM : Lt.length + 1 = M := by rw [← hLM, hLc]; rfl
  obtain ⟨a0, cs0, hA0, hab0, hr0, hl0⟩ := hat.at_ (j := 0) (l := l0) (by rw [hLc]; rfl)
  obtain ⟨p0, q0, B0, m0, d0, rfl⟩ := hl0.lit3
  subst hA0
  have HAT := Lib.hid hat
  have HL0 := Lib.hid hl0
  have hr0' : rowAt wr (a0.add (0 * 3)) #[.int .i64 p0, .int .i64 q0, .slice B0 m0 d0] := by simpa using hr0
  clear hat hl0 hL hLe hco hX HCO HX2 HNE hLne htk hr0
  obtain ⟨wl, hwl⟩ : ∃ wl, wl = wr := ⟨_, rfl⟩
  subst hwl
  obtain ⟨W5, hW5⟩ : ∃ W5, wl.alloc (.cells #[.int .i64 p0, .int .i64 q0, .slice B0 m0 d0] 25) = W5 := ⟨_, rfl⟩
  have hu5 : Upd nob wl W5 := by rw [← hW5]; exact (Upd.refl nob wl).alloc _
  have HG5 := Lib.hid (show Blk W5 wl.heap.size 25 #[.int .i64 p0, .int .i64 q0, .slice B0 m0 d0] by rw [← hW5]; exact Blk.new wl _ _)
  have hs5 : W5.heap.size = wl.heap.size + 1 := by rw [← hW5]; simp
  have HS5 := Lib.hid hs5
  clear hs5
  obtain ⟨A2, hA2⟩ : ∃ A2, (if sc = 1 then some a0 else (some a0).map (·.add (1 * 3))) = A2 := ⟨_, rfl⟩
  have HA2 := Lib.hid hA2
  clear hA2
  go_wp2_with (first
   | (refine wpList_index_at rfl 23 (.tmp 42) _ rfl _ a0 _ _ rfl rfl 0 rfl hM1 25 Tryz.underlying23 3 lv_size ?_)
   | ((with_reducible refine this_op (.load 25 (.tmp 43)) ?_); refine wpList_at rfl 25 (.tmp 43) rfl (a0.add (0 * 3)) rfl _ _ hr0' Tryz.underlying25 rfl lv_size ?_)
   | ((with_reducible refine this_op (.slice 23 (.tmp 45) (some (.const (.int .i64 1))) none none) ?_); refine wpList_run rfl (.slice A2 (M - 1) (sc - 1)) _ (by rw [← HA2.out]; exact run_slice_l8 23 _ _ rfl (some a0) M sc rfl 1 rfl hM1 und_lvs 3 sz_lvs) ?_))
  have HW5 := Lib.hid hW5
  clear hW5
  go_loopg [48] Lt.length (fun k v48 wr => ∃ i : Nat, i + k = Lt.length ∧ v48 = .int .i64 i ∧ (∃ (p q : Int) (B : Option Addr) (m d : Nat), Blk wr wl.heap.size 25 #[.int .i64 p, .int .i64 q, .slice B m d] ∧ LvIs (fun q => (w.heap.size + 2 ≤ q ∧ q < wr.heap.size) ∧ q ≠ wl.heap.size) wr ((Lt.take i).foldl (fun o q => .mk 4 0 [o, q]) l0) #[.int .i64 p, .int .i64 q, .slice B m d]) ∧ Upd (fun q => q = wl.heap.size) W5 wr)
  case atStart =>
   have hs5 := HS5.out
   refine ⟨0, by omega, rfl, ⟨p0, q0, B0, m0, d0, HG5.out, HL0.out.old (Old.of_upd hu5 (fun q hq => ⟨fun f => f, hq.2⟩)) (fun q hq => ⟨⟨hq.1, by have := hq.2; omega⟩, by have := hq.2; omega⟩)⟩, Upd.refl _ _⟩
  case round =>
   obtain ⟨i, hi, rfl, ⟨p, q, B, m, d, g1, gl⟩, gu⟩ := hrel
   have G1 := Lib.hid g1
   have GL := Lib.hid gl
   clear gl
   have hs5 := HS5.out
   have hgs := gu.size
   by_cases hlt2 : i < Lt.length
   · have t4 : decide ((i : Int) < ((M - 1 : Nat) : Int)) = true := by simp; omega
     obtain ⟨li, hli⟩ : ∃ li, Lt[i] = li := ⟨_, rfl⟩
     obtain ⟨a1, cs1, hA1, hab1, hr1, hl1⟩ := HAT.out.at_ (j := i + 1) (l := li) (by rw [hLc, List.getElem?_cons_succ, List.getElem?_eq_getElem hlt2, hli])
     injection hA1 with hA1
     subst hA1
     obtain ⟨p1, q1, B1, m1, d1, rfl⟩ := hl1.lit3
     have hold : Old (fun q => w.heap.size + 2 ≤ q ∧ q < wl.heap.size) wl wr := (Old.of_upd hu5 (fun q hq => ⟨fun f => f, hq.2⟩)).trans (Old.of_upd gu (fun q hq => ⟨fun h => by have := hq.2; have : q = wl.heap.size := h; omega, by have := hq.2; omega⟩))
     have hr2 : rowAt wr ((a0.add 3).add (i * 3)) #[.int .i64 p1, .int .i64 q1, .slice B1 m1 d1] := by
      have h1 := hr1.old hold (by rw [Addr_add_block]; exact hab1)
      rw [Addr_add_add]
      have e : 3 + i * 3 = (0 + (i + 1)) * 3 := by omega
      rw [e]; exact h1
     have hl2 := hl1.old hold (fun _ h => h)
     have HL2 := Lib.hid hl2
     have hA3 : A2 = some (a0.add 3) := by rw [← HA2.out, if_neg (by omega)]; rfl
     have HA3 := Lib.hid hA3
     clear hA3
     have r9 := g1.rowAt
     have hwb : wr.heap.size ≠ wl.heap.size := by omega
     clear hr1 hl1 hl2 hold g1
     go_wp2_with (first
      | (refine wpList_index_at rfl 23 (.tmp 46) (.tmp 48) rfl _ (a0.add 3) _ _ rfl HA3.out i rfl (by omega) 25 Tryz.underlying23 3 lv_size ?_)
      | ((with_reducible refine this_op (.load 25 (.tmp 50)) ?_); refine wpList_at rfl 25 (.tmp 50) rfl ((a0.add 3).add (i * 3)) rfl _ _ hr2 Tryz.underlying25 rfl lv_size ?_)
      | ((with_reducible refine this_op (.load 25 (.tmp 6)) ?_); refine wpList_at rfl 25 (.tmp 6) rfl ⟨wl.heap.size, 0, none⟩ rfl _ _ (G1.out.upd ((Upd.refl nob wr).alloc _) (fun f => f)).rowAt Tryz.underlying25 rfl lv_size ?_)
      | ((with_reducible refine this_op (.store 25 (.tmp 6) (.tmp 55)) ?_); refine wpList_store_row rfl 25 (.tmp 6) (.tmp 55) rfl wl.heap.size _ rfl rfl 25 _ (G1.out.upd (((Upd.refl nob wr).alloc _).alloc _) (fun f => f)) lv_size rfl (by simp [Value.oneCell']) ?_))
     go_roundg (gk - 1)
     case measure => omega
     case rel =>
      obtain ⟨w9, hw9⟩ : ∃ w9, (wr.alloc (.cells #[.int .i64 p1, .int .i64 q1, .slice B1 m1 d1] 25)).alloc (.cells #[.int .i64 p, .int .i64 q, .slice B m d, .int .i64 p1, .int .i64 q1, .slice B1 m1 d1] 25) = w9 := ⟨_, rfl⟩
      have hu9 : Upd nob wr w9 := by rw [← hw9]; exact ((Upd.refl nob wr).alloc _).alloc _
      have hb9 : Blk w9 (wr.heap.size + 1) 25 (#[.int .i64 p, .int .i64 q, .slice B m d] ++ #[.int .i64 p1, .int .i64 q1, .slice B1 m1 d1]) := by
       rw [← hw9]
       have h := Blk.new (wr.alloc (.cells #[.int .i64 p1, .int .i64 q1, .slice B1 m1 d1] 25)) 25 (#[.int .i64 p, .int .i64 q, .slice B m d] ++ #[.int .i64 p1, .int .i64 q1, .slice B1 m1 d1])
       rw [World.size_alloc] at h
       exact h
      have hs9 : w9.heap.size = wr.heap.size + 2 := by rw [← hw9]; simp
      rw [hw9]
      have hu10 : Upd (fun q => q = wl.heap.size) w9 (w9.setRow wl.heap.size #[.int .i64 4, .int .i64 0, .slice (some ⟨wr.heap.size + 1, 0, none⟩) 2 2]) := (Upd.refl (fun q => q = wl.heap.size) w9).setRow (.inl rfl) _
      have hs10 : (w9.setRow wl.heap.size #[.int .i64 4, .int .i64 0, .slice (some ⟨wr.heap.size + 1, 0, none⟩) 2 2]).heap.size = w9.heap.size := by simp
      refine ⟨i + 1, by omega, by go_num, ⟨4, 0, some ⟨wr.heap.size + 1, 0, none⟩, 2, 2, (G1.out.upd hu9 (fun f => f)).row _, ?_⟩, (gu.trans (hu9.mono (fun _ f => f.elim))).trans hu10⟩
      rw [foldl_take _ _ _ _ hlt2, hli]
      have hol9 : Old (fun q => (w.heap.size + 2 ≤ q ∧ q < wr.heap.size) ∧ q ≠ wl.heap.size) wr w9 := Old.of_upd hu9 (fun q hq => ⟨fun f => f, hq.1.2⟩)
      have hol10 : Old (fun q => (w.heap.size + 2 ≤ q ∧ q < w9.heap.size) ∧ q ≠ wl.heap.size) w9 (w9.setRow wl.heap.size #[.int .i64 4, .int .i64 0, .slice (some ⟨wr.heap.size + 1, 0, none⟩) 2 2]) := Old.of_upd hu10 (fun q hq => ⟨hq.2, hq.1.2⟩)
      have h1 := GL.out.old (D' := fun q => (w.heap.size + 2 ≤ q ∧ q < w9.heap.size) ∧ q ≠ wl.heap.size) hol9 (fun q hq => ⟨⟨hq.1.1, by have := hq.1.2; omega⟩, hq.2⟩)
      have h2 := HL2.out.old (D' := fun q => (w.heap.size + 2 ≤ q ∧ q < w9.heap.size) ∧ q ≠ wl.heap.size) (Old.of_upd hu9 (fun q hq => ⟨fun f => f, by have := hq.2; omega⟩)) (fun q hq => ⟨⟨hq.1, by have := hq.2; omega⟩, by have := hq.2; omega⟩)
      exact (lmax_is h1 h2 (wr.heap.size + 1) ⟨⟨by omega, by omega⟩, by omega⟩ hb9).old hol10 (fun q hq => ⟨⟨hq.1.1, by have := hq.1.2; omega⟩, hq.2⟩)
   have t4 : decide ((i : Int) < ((M - 1 : Nat) : Int)) = false := by simp; omega
   have hil : i = Lt.length := by omega
   have htk : Lt.take i = Lt := List.take_of_length_le (by omega)
   have hgl := GL.out
   rw [htk, ← HLX.out] at hgl
   have HGL := Lib.hid hgl
   have r9 := g1.rowAt
   have hcd : Blk wr (w.heap.size + 1) 25 #[.int .i64 0, .int .i64 0, .slice none 0 0] := (C1.out.upd hu5 (fun f => f)).upd gu (fun h => by have : w.heap.size + 1 = wl.heap.size := h; omega)
   have HCD := Lib.hid hcd
   clear hgl htk hcd g1 GL
   go_wp2_with (first
    | ((with_reducible refine this_op (.load 25 (.tmp 6)) ?_); refine wpList_at rfl 25 (.tmp 6) rfl ⟨wl.heap.size, 0, none⟩ rfl _ _ r9 Tryz.underlying25 rfl lv_size ?_)
    | ((with_reducible refine this_op (.store 25 (.tmp 2) (.tmp 57)) ?_); refine wpList_store_row rfl 25 (.tmp 2) (.tmp 57) rfl (w.heap.size + 1) _ rfl rfl 25 _ HCD.out lv_size rfl (by simp [Value.oneCell']) ?_))
   refine bodyPost_ret (results_cell_row rfl _ _ (w.heap.size + 1) 25 #[.int .i64 p, .int .i64 q, .slice B m d] (0, 0) _ rfl (HCD.out.row _) Tryz.underlying25 rfl lv_size) rfl ?_
   have hfin : Upd (fun x => x = w.heap.size + 1) wr (wr.setRow (w.heap.size + 1) #[.int .i64 p, .int .i64 q, .slice B m d]) := (Upd.refl (fun x => x = w.heap.size + 1) wr).setRow (.inl rfl) _
   have hs10 : (wr.setRow (w.heap.size + 1) #[.int .i64 p, .int .i64 q, .slice B m d]).heap.size = wr.heap.size := by simp
   refine ⟨_, rfl, HGL.out.old (Old.of_upd hfin fun q hq => ⟨fun h => by have : q = w.heap.size + 1 := h; have := hq.1.1; omega, hq.1.2⟩) (fun q hq => ⟨by have := hq.1.1; omega, by have := hq.1.2; omega⟩), ?_⟩
   exact (((hu.trans hu5).trans' gu (fun x hx h => by have : x = wl.heap.size := h; omega)).trans' hfin (fun x hx h => by have : x = w.heap.size + 1 := h; omega)).below
end Go.Proofs.YtiampoebdmflgaaGreat
/- term.Apps. -/
namespace Go.Proofs.YtiampoebdmflgaaGreat
open Go.RowKit
set_option linter.unusedVariables false
set_option maxRecDepth 100000
set_option maxHeartbeats 4000000
set_option linter.unusedSimpArgs false
def tapp (f a : Tm) : Tm := .mk 6 0 ByteArray.empty lzero' [] [f, a]
def traw (f : Tm) (args : List Tm) : Tm := args.foldl tapp f
def tApps (f : Tm) (args : List Tm) : Tm := if tgreat (traw f args) = true then tmz else town (traw f args)
theorem two_rows8 (c1 c2 : Array Value) (w : World) (g : Nat) (t : TypeId) (h : Blk w g t (c1 ++ c2)) (h1 : c1.size = 8) : rowAt w ((⟨g, 0, none⟩ : Addr).add (0 * 8)) c1 ∧ rowAt w ((⟨g, 0, none⟩ : Addr).add (1 * 8)) c2 := by
 refine ⟨sub_row h.rowAt _ _ fun j v hv => ?_, sub_row h.rowAt _ _ fun j v hv => ?_⟩
 · have hj : j < c1.size := (Array.getElem?_eq_some_iff.1 hv).1
   rw [Nat.zero_mul, Nat.zero_add, Array.getElem?_append_left hj]; exact hv
 rw [Array.getElem?_append_right (by omega), h1, Nat.one_mul, Nat.add_sub_cancel_left]; exact hv
theorem tapp_is {D : Nat → Prop} {w : World} {a b : Tm} {ca cb : Array Value} (ha : TmIs D w a ca) (hb : TmIs D w b cb) (g : Nat) (hg : D g) (h : Blk w g 28 (ca ++ cb)) :
    TmIs D w (tapp a b) #[.int .i64 6, .int .i64 0, .string ByteArray.empty, .int .i64 0, .int .i64 0, .slice none 0 0, .slice none 0 0, .slice (some ⟨g, 0, none⟩) 2 2] := by
 obtain ⟨r1, r2⟩ := two_rows8 _ _ _ _ _ h ha.oneCell.1
 simp only [tapp, TmIs]
 refine ⟨_, _, _, none, 0, some ⟨g, 0, none⟩, 2, rfl, by unfold InI; omega, by unfold InI; omega, by simp, lzero_is _ _, ⟨by simp, Nat.zero_le _⟩, by simp only [LvsAt], ⟨by simp, by simp⟩, ?_⟩
 simp only [TmsAt]
 exact ⟨⟨_, _, rfl, hg, r1, ha⟩, ⟨_, _, rfl, hg, r2, hb⟩, trivial⟩
theorem tApps_any (f : Tm) (cs : Array Value) (args : List Tm) (A : Option Addr) (c : Nat) (D : Nat → Prop) (w : World) (hD : Within D w) (hl : TmIs D w f cs) (hal : args.length * 120 ≤ 140737488351232) (ha : TmsAt D w args A 0) :
    Calls Tryz.prog 68 #[.agg cs, .slice A args.length c] w fun e w' => ∃ cs', e = .returned (.agg cs') ∧ TmIs (grow D w w') w' (tApps f args) cs' ∧ Below w.heap.size w w' := by
 have hz := tm_zero
 obtain ⟨X, hX⟩ : ∃ X, tApps f args = X := ⟨_, rfl⟩
 rw [hX]
 have HX := Lib.hid hX; clear hX
 have HL := Lib.hid hl
 obtain ⟨p0, q0, B0, m0, d0, F0, x0, F0', x0', rfl⟩ := hl.lit8
 obtain ⟨N, hN⟩ : ∃ N, args.length = N := ⟨_, rfl⟩
 rw [hN] at hal
 rw [hN]
 have HN := Lib.hid hN
 clear hl hN
 obtain ⟨W1, hW1⟩ : ∃ W1, (w.alloc (.cells #[.int .i64 f.k, .int .i64 f.n, .string f.nm, .int .i64 p0, .int .i64 q0, .slice B0 m0 d0, .slice F0 f.ls.length x0, .slice F0' f.ks.length x0'] 28)).alloc (.cells #[.int .i64 0, .int .i64 0, .string ByteArray.empty, .int .i64 0, .int .i64 0, .slice none 0 0, .slice none 0 0, .slice none 0 0] 28) = W1 := ⟨_, rfl⟩
 have huW1 : Upd nob w W1 := by rw [← hW1]; exact ((Upd.refl nob w).alloc _).alloc _
 have hsW1 : W1.heap.size = w.heap.size + 2 := by rw [← hW1]; simp
 have b0 : Blk W1 (w.heap.size) 28 #[.int .i64 f.k, .int .i64 f.n, .string f.nm, .int .i64 p0, .int .i64 q0, .slice B0 m0 d0, .slice F0 f.ls.length x0, .slice F0' f.ks.length x0'] := by
  rw [← hW1]
  have h := Blk.new (w) 28 #[.int .i64 f.k, .int .i64 f.n, .string f.nm, .int .i64 p0, .int .i64 q0, .slice B0 m0 d0, .slice F0 f.ls.length x0, .slice F0' f.ks.length x0']
  exact h.alloc _
 have b1 : Blk W1 (w.heap.size + 1) 28 #[.int .i64 0, .int .i64 0, .string ByteArray.empty, .int .i64 0, .int .i64 0, .slice none 0 0, .slice none 0 0, .slice none 0 0] := by
  rw [← hW1]
  have h := Blk.new (w.alloc (.cells #[.int .i64 f.k, .int .i64 f.n, .string f.nm, .int .i64 p0, .int .i64 q0, .slice B0 m0 d0, .slice F0 f.ls.length x0, .slice F0' f.ks.length x0'] 28)) 28 #[.int .i64 0, .int .i64 0, .string ByteArray.empty, .int .i64 0, .int .i64 0, .slice none 0 0, .slice none 0 0, .slice none 0 0]
  rw [World.size_alloc] at h
  exact h
 have HW1 := Lib.hid hW1
 have HB0 := Lib.hid b0
 have HB1 := Lib.hid b1
 have hl1 := HL.out.old (D' := fun q => (D q ∨ (w.heap.size + 2 ≤ q ∧ q < W1.heap.size)) ∧ q ≠ w.heap.size) (hD.old huW1) (fun q hq => ⟨.inl hq, by have := hD q hq; omega⟩)
 have HL1 := Lib.hid hl1
 clear b0 b1 hW1 hl1
 go_enter Tryz.func68, Tryz.ntmps68
 go_wp2_with fail
 rw [HW1.out]
 go_loopg [9] N (fun k v9 wr => ∃ i : Nat, i + k = N ∧ v9 = .int .i64 i ∧ (∃ cs, Blk wr w.heap.size 28 cs ∧ TmIs (fun q => (D q ∨ (w.heap.size + 2 ≤ q ∧ q < wr.heap.size)) ∧ q ≠ w.heap.size) wr (traw f (args.take i)) cs) ∧ Blk wr (w.heap.size + 1) 28 #[.int .i64 0, .int .i64 0, .string ByteArray.empty, .int .i64 0, .int .i64 0, .slice none 0 0, .slice none 0 0, .slice none 0 0] ∧ Upd nob w wr ∧ w.heap.size + 2 ≤ wr.heap.size)
 case atStart => exact ⟨0, by omega, rfl, ⟨_, HB0.out, HL1.out⟩, HB1.out, huW1, by omega⟩
 case round =>
  clear HB0 HB1 huW1 hsW1 HL1
  obtain ⟨i, hi, rfl, ⟨cs, g1, gl⟩, h1, hu, hsz⟩ := hrel
  have G1 := Lib.hid g1
  have H1 := Lib.hid h1
  have GL := Lib.hid gl
  by_cases hlt : i < N
  · have t2 : decide ((i : Int) < N) = true := by simp [hlt]
    have hlt' : i < args.length := by rw [HN.out]; exact hlt
    obtain ⟨li, hli⟩ : ∃ li, args[i] = li := ⟨_, rfl⟩
    obtain ⟨a, cs1, hA, hab, hr1, hl1⟩ := ha.at_ (j := i) (l := li) (by rw [List.getElem?_eq_getElem hlt', hli])
    rw [Nat.zero_add] at hr1
    obtain ⟨p1, q1, B1, m1, d1, E1, x1, E1', x1', rfl⟩ := hl1.lit8
    obtain ⟨p2, q2, B2, m2, d2, E2, x2, E2', x2', rfl⟩ := gl.lit8
    have hr2 : rowAt wr (a.add (i * 8)) #[.int .i64 li.k, .int .i64 li.n, .string li.nm, .int .i64 p1, .int .i64 q1, .slice B1 m1 d1, .slice E1 li.ls.length x1, .slice E1' li.ks.length x1'] := hr1.old (hD.old hu) (by rw [Addr_add_block]; exact hab)
    have hl2 := hl1.old (hD.old hu) (fun _ h => h)
    have HA := Lib.hid hA
    have HL2 := Lib.hid hl2
    have HLI := Lib.hid hli
    clear hA hr1 hl1 hl2 gl g1 h1 hli
    go_wp2_with (first
     | (refine wpList_index_at rfl 26 (.tmp 7) (.tmp 9) rfl _ a _ _ rfl HA.out i rfl hlt 28 Tryz.underlying26 8 tm_size ?_)
     | ((with_reducible refine this_op (.load 28 (.tmp 11)) ?_); refine wpList_at rfl 28 (.tmp 11) rfl (a.add (i * 8)) rfl _ _ hr2 Tryz.underlying28 rfl tm_size ?_)
     | ((with_reducible refine this_op (.load 28 (.tmp 2)) ?_); refine wpList_at rfl 28 (.tmp 2) rfl ⟨w.heap.size, 0, none⟩ rfl _ _ (G1.out.upd ((Upd.refl nob wr).alloc _) (fun f => f)).rowAt Tryz.underlying28 rfl tm_size ?_)
     | ((with_reducible refine this_op (.store 28 (.tmp 2) (.tmp 16)) ?_); refine wpList_store_row rfl 28 (.tmp 2) (.tmp 16) rfl w.heap.size _ rfl rfl 28 _ (G1.out.upd (((Upd.refl nob wr).alloc _).alloc _) (fun f => f)) tm_size rfl (by simp [Value.oneCell']) ?_))
    go_roundg (gk - 1)
    case measure => omega
    case rel =>
     obtain ⟨w9, hw9⟩ : ∃ w9, (wr.alloc (.cells #[.int .i64 li.k, .int .i64 li.n, .string li.nm, .int .i64 p1, .int .i64 q1, .slice B1 m1 d1, .slice E1 li.ls.length x1, .slice E1' li.ks.length x1'] 28)).alloc (.cells (#[.int .i64 (traw f (args.take i)).k, .int .i64 (traw f (args.take i)).n, .string (traw f (args.take i)).nm, .int .i64 p2, .int .i64 q2, .slice B2 m2 d2, .slice E2 (traw f (args.take i)).ls.length x2, .slice E2' (traw f (args.take i)).ks.length x2'] ++ #[.int .i64 li.k, .int .i64 li.n, .string li.nm, .int .i64 p1, .int .i64 q1, .slice B1 m1 d1, .slice E1 li.ls.length x1, .slice E1' li.ks.length x1']) 28) = w9 := ⟨_, rfl⟩
     have hu9 : Upd nob wr w9 := by rw [← hw9]; exact ((Upd.refl nob wr).alloc _).alloc _
     have hb9 : Blk w9 (wr.heap.size + 1) 28 (#[.int .i64 (traw f (args.take i)).k, .int .i64 (traw f (args.take i)).n, .string (traw f (args.take i)).nm, .int .i64 p2, .int .i64 q2, .slice B2 m2 d2, .slice E2 (traw f (args.take i)).ls.length x2, .slice E2' (traw f (args.take i)).ks.length x2'] ++ #[.int .i64 li.k, .int .i64 li.n, .string li.nm, .int .i64 p1, .int .i64 q1, .slice B1 m1 d1, .slice E1 li.ls.length x1, .slice E1' li.ks.length x1']) := by
      rw [← hw9]
      have h := Blk.new (wr.alloc (.cells #[.int .i64 li.k, .int .i64 li.n, .string li.nm, .int .i64 p1, .int .i64 q1, .slice B1 m1 d1, .slice E1 li.ls.length x1, .slice E1' li.ks.length x1'] 28)) 28 (#[.int .i64 (traw f (args.take i)).k, .int .i64 (traw f (args.take i)).n, .string (traw f (args.take i)).nm, .int .i64 p2, .int .i64 q2, .slice B2 m2 d2, .slice E2 (traw f (args.take i)).ls.length x2, .slice E2' (traw f (args.take i)).ks.length x2'] ++ #[.int .i64 li.k, .int .i64 li.n, .string li.nm, .int .i64 p1, .int .i64 q1, .slice B1 m1 d1, .slice E1 li.ls.length x1, .slice E1' li.ks.length x1'])
      rw [World.size_alloc] at h
      exact h
     have hs9 : w9.heap.size = wr.heap.size + 2 := by rw [← hw9]; simp
     have hw9' : ((wr.alloc (.cells #[.int .i64 li.k, .int .i64 li.n, .string li.nm, .int .i64 p1, .int .i64 q1, .slice B1 m1 d1, .slice E1 li.ls.length x1, .slice E1' li.ks.length x1'] 28)).alloc (.cells #[.int .i64 (traw f (args.take i)).k, .int .i64 (traw f (args.take i)).n, .string (traw f (args.take i)).nm, .int .i64 p2, .int .i64 q2, .slice B2 m2 d2, .slice E2 (traw f (args.take i)).ls.length x2, .slice E2' (traw f (args.take i)).ks.length x2', .int .i64 li.k, .int .i64 li.n, .string li.nm, .int .i64 p1, .int .i64 q1, .slice B1 m1 d1, .slice E1 li.ls.length x1, .slice E1' li.ks.length x1'] 28)) = w9 := hw9
     rw [hw9']
     have hu10 : Upd (fun q => q = w.heap.size) w9 (w9.setRow w.heap.size #[.int .i64 6, .int .i64 0, .string ByteArray.empty, .int .i64 0, .int .i64 0, .slice none 0 0, .slice none 0 0, .slice (some ⟨wr.heap.size + 1, 0, none⟩) 2 2]) := (Upd.refl (fun q => q = w.heap.size) w9).setRow (.inl rfl) _
     have hs10 : (w9.setRow w.heap.size #[.int .i64 6, .int .i64 0, .string ByteArray.empty, .int .i64 0, .int .i64 0, .slice none 0 0, .slice none 0 0, .slice (some ⟨wr.heap.size + 1, 0, none⟩) 2 2]).heap.size = w9.heap.size := by simp
     refine ⟨i + 1, by omega, by go_num, ⟨_, (G1.out.upd hu9 (fun f => f)).row _, ?_⟩, (H1.out.upd hu9 (fun f => f)).upd hu10 (fun h => by have : w.heap.size + 1 = w.heap.size := h; omega), (hu.trans hu9).trans' hu10 (fun q hq h => by have : q = w.heap.size := h; omega), by omega⟩
     have htr : traw f (args.take (i + 1)) = tapp (traw f (args.take i)) li := by unfold traw; rw [foldl_take _ _ _ _ hlt', HLI.out]
     rw [htr]
     have hol9 : Old (fun q => (D q ∨ (w.heap.size + 2 ≤ q ∧ q < wr.heap.size)) ∧ q ≠ w.heap.size) wr w9 := Old.of_upd hu9 (fun q hq => ⟨fun f => f, hq.1.elim (fun h => by have := hD q h; have := hu.size; omega) (fun h => h.2)⟩)
     have hol10 : Old (fun q => (D q ∨ (w.heap.size + 2 ≤ q ∧ q < w9.heap.size)) ∧ q ≠ w.heap.size) w9 (w9.setRow w.heap.size #[.int .i64 6, .int .i64 0, .string ByteArray.empty, .int .i64 0, .int .i64 0, .slice none 0 0, .slice none 0 0, .slice (some ⟨wr.heap.size + 1, 0, none⟩) 2 2]) := Old.of_upd hu10 (fun q hq => ⟨hq.2, hq.1.elim (fun h => by have := hD q h; have := hu.size; omega) (fun h => h.2)⟩)
     have k1 := GL.out.old (D' := fun q => (D q ∨ (w.heap.size + 2 ≤ q ∧ q < w9.heap.size)) ∧ q ≠ w.heap.size) hol9 (fun q hq => ⟨hq.1.imp id (fun h => ⟨h.1, by have := h.2; omega⟩), hq.2⟩)
     have k2 := HL2.out.old (D' := fun q => (D q ∨ (w.heap.size + 2 ≤ q ∧ q < w9.heap.size)) ∧ q ≠ w.heap.size) ((hD.up hu).old hu9) (fun q hq => ⟨.inl hq, by have := hD q hq; omega⟩)
     exact (tapp_is k1 k2 (wr.heap.size + 1) ⟨.inr ⟨by omega, by omega⟩, by omega⟩ hb9).old hol10 (fun q hq => ⟨hq.1.imp id (fun h => ⟨h.1, by have := h.2; omega⟩), hq.2⟩)
  have t2 : decide ((i : Int) < N) = false := by simp; omega
  have hil : i = N := by omega
  have htk : args.take i = args := List.take_of_length_le (by rw [HN.out]; omega)
  rw [htk] at gl
  have HGL := Lib.hid gl
  have r9 := g1.rowAt
  have hcs := gl.oneCell
  have hsi : (Tryz.prog.info? 28).map (·.size) = some cs.size := by rw [hcs.1]; exact tm_size
  have hDx : Within (fun q => (D q ∨ (w.heap.size + 2 ≤ q ∧ q < wr.heap.size)) ∧ q ≠ w.heap.size) wr := fun q hq => hq.1.elim (fun h => (hD.up hu) q h) (fun h => h.2)
  clear gl htk g1 h1 GL
  go_wp2_with (first
   | ((with_reducible refine this_op (.load 28 (.tmp 2)) ?_); refine wpList_at rfl 28 (.tmp 2) rfl ⟨w.heap.size, 0, none⟩ rfl _ _ r9 Tryz.underlying28 rfl hsi ?_))
  refine (tgreat_any (traw f args) cs _ wr hDx HGL.out).mono ?_
  rintro e w3 ⟨rfl, hb3⟩
  have hu3 : Upd nob wr w3 := Upd.of_below hb3
  have r3 := (G1.out.upd hu3 (fun f => f)).rowAt
  have C3 := H1.out.upd hu3 (fun f => f)
  have hu03 := hu.trans hu3
  have hz3 := hu3.size
  clear r9
  cases hg : tgreat (traw f args) with
  | true =>
   have HG := Lib.hid hg; clear hg
   go_wp2_with (first
    | ((with_reducible refine this_op (.store 28 (.tmp 4) (.tmp 20)) ?_); refine wpList_store_row rfl 28 (.tmp 4) (.tmp 20) rfl (w.heap.size + 1) _ rfl rfl 28 _ C3 tm_size rfl (by simp [Value.oneCell']) ?_))
   refine bodyPost_ret (results_cell_row rfl _ _ (w.heap.size + 1) 28 #[.int .i64 0, .int .i64 0, .string ByteArray.empty, .int .i64 0, .int .i64 0, .slice none 0 0, .slice none 0 0, .slice none 0 0] (0, 0) _ rfl (C3.row _) Tryz.underlying28 rfl tm_size) rfl ?_
   have hx : X = tmz := by rw [← HX.out, tApps, if_pos HG.out]
   rw [hx]
   exact ⟨_, rfl, TmIs.short _ _ (by unfold InI; omega) (by unfold InI; omega), fin_row hu03.below (by omega) _⟩
  | false =>
   have HG := Lib.hid hg; clear hg
   go_wp2_with (first
    | ((with_reducible refine this_op (.load 28 (.tmp 2)) ?_); refine wpList_at rfl 28 (.tmp 2) rfl ⟨w.heap.size, 0, none⟩ rfl _ _ r3 Tryz.underlying28 rfl hsi ?_))
   refine (town_any (traw f args) cs _ w3 (hDx.up hu3) (HGL.out.old (hDx.old hu3) (fun _ h => h))).mono ?_
   rintro e w4 ⟨cs4, rfl, hl4, hb4⟩
   have hu4 : Upd nob w3 w4 := Upd.of_below hb4
   have hs4 := hl4.oneCell
   have hsi4 : (Tryz.prog.info? 28).map (·.size) = some cs4.size := by rw [hs4.1]; exact tm_size
   have C4 := C3.upd hu4 (fun f => f)
   have hz4 := hu4.size
   clear C3 r3
   go_wp2_with (first
    | ((with_reducible refine this_op (.store 28 (.tmp 4) (.tmp 22)) ?_); refine wpList_store_row rfl 28 (.tmp 4) (.tmp 22) rfl (w.heap.size + 1) _ rfl rfl 28 _ C4 hsi4 (by rw [hs4.1]; rfl) hs4.2 ?_))
   refine bodyPost_ret (results_cell_row rfl _ _ (w.heap.size + 1) 28 cs4 (0, 0) _ rfl (C4.row _) Tryz.underlying28 rfl hsi4) rfl ?_
   have hx : X = town (traw f args) := by rw [← HX.out, tApps, if_neg (by rw [HG.out]; decide)]
   rw [hx]
   have hfin : Upd (fun q => q = w.heap.size + 1) w4 (w4.setRow (w.heap.size + 1) cs4) := (Upd.refl (fun q => q = w.heap.size + 1) w4).setRow (.inl rfl) _
   have hs10 : (w4.setRow (w.heap.size + 1) cs4).heap.size = w4.heap.size := by simp
   refine ⟨cs4, rfl, hl4.old (Old.of_upd hfin fun q hq => ?_) (fun q hq => ?_), fin_row (hu03.trans hu4).below (by omega) _⟩
   · rcases hq with hq | hq
     · rcases hq.1 with h | h
       · have := hD q h; have := hu.size; exact ⟨fun h => by have : q = w.heap.size + 1 := h; omega, by omega⟩
       exact ⟨fun h2 => by have : q = w.heap.size + 1 := h2; omega, by have := h.2; omega⟩
     have := hq.1; have := hq.2; exact ⟨fun h => by have : q = w.heap.size + 1 := h; omega, by omega⟩
   rcases hq with hq | hq
   · rcases hq.1 with h | h
     · exact .inl h
     exact .inr ⟨by have := h.1; omega, by have := h.2; omega⟩
   have := hq.1; have := hq.2; exact .inr ⟨by omega, by omega⟩
end Go.Proofs.YtiampoebdmflgaaGreat
/- level.Inst: its visitor. -/
namespace Go.Proofs.YtiampoebdmflgaaGreat
open Go.RowKit
set_option linter.unusedVariables false
set_option maxRecDepth 100000
set_option maxHeartbeats 4000000
set_option linter.unusedSimpArgs false
def iStep (vs : List Lv) (s : List Nm) (l : Lv) (_ : Int) : Int × List Nm :=
 if l.k ≠ 2 ∨ (vs.length : Int) ≤ l.n then (0, s) else match vs[l.n.toNat]? with
  | none => (0, s)
  | some v => if lsnd v = false then (1, s) else (0, s.set l.n.toNat (lof [] v))
theorem iStep_out {vs : List Lv} {s : List Nm} {l : Lv} {d : Int} (h : l.k ≠ 2 ∨ (vs.length : Int) ≤ l.n) : iStep vs s l d = (0, s) := if_pos h
theorem iStep_in {vs : List Lv} {s : List Nm} {l : Lv} {d : Int} {j : Nat} {v : Lv} (hk : l.k = 2) (hn : l.n = j) (hv : vs[j]? = some v) : iStep vs s l d = if lsnd v = false then (1, s) else (0, s.set j (lof [] v)) := by
 have hj := (List.getElem?_eq_some_iff.1 hv).1
 have e : (l.n).toNat = j := by omega
 unfold iStep
 rw [if_neg (by omega), e, hv]
theorem kat_cons (r : Array Value) (rows : List (Array Value)) : cat (r :: rows) = r.toList ++ cat rows := by simp [cat]
theorem kat_len {n : Nat} : ∀ rows : List (Array Value), (∀ x ∈ rows, x.size = n) → (cat rows).length = rows.length * n
 | [], _ => by simp [cat]
 | r :: rows, h => by
  have h1 := h r (by simp)
  have h2 := kat_len rows (fun x hx => h x (by simp [hx]))
  rw [kat_cons, List.length_append, Array.length_toList, h1, h2, List.length_cons, Nat.succ_mul]; omega
theorem kat_set {n : Nat} : ∀ (rows : List (Array Value)) (j : Nat) (r : Array Value), (∀ x ∈ rows, x.size = n) → r.size = n → j < rows.length → cat (rows.set j r) = (cat rows).take (j * n) ++ r.toList ++ (cat rows).drop (j * n + n)
 | [], j, _, _, _, h => absurd h (by simp)
 | x :: rows, 0, r, h, h2, _ => by
  have h1 := h x (by simp)
  simp only [List.set_cons_zero, kat_cons, Nat.zero_mul, Nat.zero_add, List.take_zero, List.nil_append]
  rw [List.drop_append_of_le_length (by rw [Array.length_toList, h1]; exact Nat.le_refl _), List.drop_of_length_le (by rw [Array.length_toList, h1]; exact Nat.le_refl _), List.nil_append]
 | x :: rows, j + 1, r, h, h2, hj => by
  have h1 := h x (by simp)
  have ih := kat_set rows j r (fun y hy => h y (by simp [hy])) h2 (by simpa using hj)
  simp only [List.set_cons_succ, kat_cons, ih]
  have e1 : (j + 1) * n = x.toList.length + j * n := by rw [Array.length_toList, h1, Nat.succ_mul]; omega
  have e2 : (j + 1) * n + n = x.toList.length + (j * n + n) := by rw [e1]; omega
  have f1 : ∀ (a b : List Value) (k : Nat), (a ++ b).take (a.length + k) = a ++ b.take k := fun a b k => by rw [List.take_append, List.take_of_length_le (by omega)]; congr 2; omega
  have f2 : ∀ (a b : List Value) (k : Nat), (a ++ b).drop (a.length + k) = b.drop k := fun a b k => by rw [List.drop_append, List.drop_of_length_le (by omega), List.nil_append]; congr 1; omega
  rw [e2, e1, f1, f2]
  simp only [List.append_assoc]
def InIs (W : World) (g : Nat) (s : List Nm) : Prop :=
 ∃ rows : List (Array Value), rows.length = s.length ∧ (∀ x ∈ rows, x.size = 2) ∧ Blk W g 189 (cat rows).toArray ∧ ∀ (j : Nat) (n : Nm), s[j]? = some n → ∃ r, rows[j]? = some r ∧ NmIs (fun q => q < W.heap.size ∧ q ≠ g) W n r
theorem InIs.upd {W W' : World} {g : Nat} {s : List Nm} (h : InIs W g s) (hu : Upd nob W W') : InIs W' g s := by
 obtain ⟨rows, h1, h2, h3, h4⟩ := h
 refine ⟨rows, h1, h2, h3.upd hu (fun f => f), fun j n hj => ?_⟩
 obtain ⟨r, hr, hn⟩ := h4 j n hj
 exact ⟨r, hr, hn.old (Old.of_upd hu fun q hq => ⟨fun f => f, hq.1⟩) (fun q hq => ⟨Nat.lt_of_lt_of_le hq.1 hu.size, hq.2⟩)⟩
theorem InIs.set {W : World} {g : Nat} {s : List Nm} (h : InIs W g s) {n : Nm} {r : Array Value} {j : Nat} (hj : j < s.length) (hr : NmIs (fun q => q < W.heap.size ∧ q ≠ g) W n r) :
    ∃ cur : Array Value, Blk W g 189 cur ∧ j * 2 + 2 ≤ cur.size ∧ InIs (W.setRow g (cur.toList.take (j * 2) ++ r.toList ++ cur.toList.drop (j * 2 + 2)).toArray) g (s.set j n) := by
 obtain ⟨rows, h1, h2, h3, h4⟩ := h
 have hrs : r.size = 2 := hr.cells.1
 have hsz : ((cat rows).toArray : Array Value).size = rows.length * 2 := by rw [List.size_toArray, kat_len rows h2]
 refine ⟨_, h3, by rw [hsz]; omega, rows.set j r, by simp [h1], fun x hx => ?_, ?_, fun i m hi => ?_⟩
 · rcases List.mem_or_eq_of_mem_set hx with hx | rfl
   · exact h2 x hx
   exact hrs
 · rw [kat_set rows j r h2 hrs (by omega)]; exact h3.row _
 have hu : Upd (fun q => q = g) W (W.setRow g ((cat rows).toArray.toList.take (j * 2) ++ r.toList ++ (cat rows).toArray.toList.drop (j * 2 + 2)).toArray) := (Upd.refl (fun q => q = g) W).setRow (.inl rfl) _
 have hol : Old (fun q => q < W.heap.size ∧ q ≠ g) W (W.setRow g ((cat rows).toArray.toList.take (j * 2) ++ r.toList ++ (cat rows).toArray.toList.drop (j * 2 + 2)).toArray) := Old.of_upd hu fun q hq => ⟨hq.2, hq.1⟩
 have hsz2 := hu.size
 rw [List.getElem?_set] at hi
 by_cases hij : j = i
 · subst hij
   rw [if_pos rfl, if_pos hj] at hi
   injection hi with hi
   subst hi
   exact ⟨r, by rw [List.getElem?_set, if_pos rfl, if_pos (by omega)], hr.old hol (fun q hq => ⟨by omega, hq.2⟩)⟩
 rw [if_neg hij] at hi
 obtain ⟨r', hr', hn'⟩ := h4 i m hi
 exact ⟨r', by rw [List.getElem?_set, if_neg hij]; exact hr', hn'.old hol (fun q hq => ⟨by omega, hq.2⟩)⟩
theorem InIs.at_ {W : World} {g : Nat} {s : List Nm} (h : InIs W g s) : NmsAt (There W) W s (some ⟨g, 0, none⟩) := fun j n hj => by
 obtain ⟨rows, h1, h2, h3, h4⟩ := h
 obtain ⟨r, hr, hn⟩ := h4 j n hj
 have hjl := (List.getElem?_eq_some_iff.1 hr)
 obtain ⟨hjl, rfl⟩ := hjl
 refine ⟨_, _, rfl, h3.lt, fun i v hv => ?_, hn.old (Old.refl _ _) (fun q hq => hq.1)⟩
 refine h3.rowAt _ _ ?_ |>.trans rfl |> fun h => by simpa [Addr_add_add] using h
 have := cat_get rows 2 h2 j hjl i v hv
 simpa using this
def InR (D : Nat → Prop) (vs : List Lv) (g1 g2 gN : Nat) (s : List Nm) (W : World) : Prop :=
 (∃ A c, Blk W g1 23 #[.slice A vs.length c] ∧ LvsAt D W vs A 0) ∧ Blk W g2 200 #[.slice (some ⟨gN, 0, none⟩) vs.length vs.length] ∧ s.length = vs.length ∧ InIs W gN s ∧ Within D W ∧ (g1 ≠ gN ∧ g2 ≠ gN ∧ ¬ D gN)
theorem InR.upd {D : Nat → Prop} {vs : List Lv} {g1 g2 gN : Nat} {s : List Nm} {W W' : World} (h : InR D vs g1 g2 gN s W) (hu : Upd nob W W') : InR D vs g1 g2 gN s W' := by
 obtain ⟨⟨A, c, h1, h2⟩, h3, h4, h5, h6, h7⟩ := h
 exact ⟨⟨A, c, h1.upd hu (fun f => f), h2.old (h6.old hu) (fun _ h => h)⟩, h3.upd hu (fun f => f), h4, h5.upd hu, h6.up hu, h7⟩
theorem inst1_any (l : Lv) (cs : Array Value) (d : Int) (vs : List Lv) (g1 g2 gN : Nat) (s : List Nm) (D : Nat → Prop) (w : World) (hG : l.k = 2 → 0 ≤ l.n) (hl : LvIs D w l cs) (hR : InR D vs g1 g2 gN s w) :
    Calls Tryz.prog 169 #[.agg cs, .int .i64 d, .pointer (some ⟨g1, 0, none⟩), .pointer (some ⟨g2, 0, none⟩)] w fun e w' =>
     e = .returned (.int .i64 (iStep vs s l d).1) ∧ InI (iStep vs s l d).1 ∧ InR D vs g1 g2 gN (iStep vs s l d).2 w' ∧ Upd (fun q => q = gN) w w' := by
 have HR := Lib.hid hR
 obtain ⟨⟨A, c, hb1, hvs⟩, hb2, hsl, hin, hD, hne1, hne2, hneD⟩ := hR
 obtain ⟨⟨X1, X2⟩, hX⟩ : ∃ X, iStep vs s l d = X := ⟨_, rfl⟩
 rw [hX]
 obtain ⟨k, n, ks⟩ := l
 simp only [Lv.k, Lv.n] at hG
 simp only [LvIs] at hl
 obtain ⟨A1, c1, rfl, hk, hn, hlen, _⟩ := hl
 have HX := Lib.hid hX; clear hX
 obtain ⟨M, hM⟩ : ∃ M, vs.length = M := ⟨_, rfl⟩
 rw [hM] at hb1 hb2 hsl
 have HM := Lib.hid hM
 obtain ⟨W1, hW1⟩ : ∃ W1, w.alloc (.cells #[.int .i64 k, .int .i64 n, .slice A1 ks.length c1] 25) = W1 := ⟨_, rfl⟩
 have huW1 : Upd nob w W1 := by rw [← hW1]; exact (Upd.refl nob w).alloc _
 have hsW1 : W1.heap.size = w.heap.size + 1 := by rw [← hW1]; simp
 have b0 : Blk W1 (w.heap.size) 25 #[.int .i64 k, .int .i64 n, .slice A1 ks.length c1] := by
  rw [← hW1]
  have h := Blk.new (w) 25 #[.int .i64 k, .int .i64 n, .slice A1 ks.length c1]
  exact h
 have HW1 := Lib.hid hW1
 have p0 : W1.cell? ⟨w.heap.size, 0, none⟩ = some (.int .i64 k) := b0.cell 0
 have p1 : W1.cell? ⟨w.heap.size, 1, none⟩ = some (.int .i64 n) := b0.cell 1
 have p2 : W1.cell? ⟨g1, 0, none⟩ = some (.slice A M c) := (hb1.upd huW1 (fun f => f)).cell 0
 have p3 : W1.cell? ⟨g2, 0, none⟩ = some (.slice (some ⟨gN, 0, none⟩) M M) := (hb2.upd huW1 (fun f => f)).cell 0
 have hlt0 := b0.lt
 have hlt1 := (hb1.upd huW1 (fun f => f)).lt
 have hlt2 := (hb2.upd huW1 (fun f => f)).lt
 have HVS := Lib.hid hvs
 have HIN := Lib.hid hin
 clear b0 hb1 hb2 hvs hin hM hW1
 by_cases hk2 : k = 2
 · have e1 : (k != 2) = false := by simp [hk2]
   have HK2 := Lib.hid hk2
   clear hk2
   by_cases hnm : (M : Int) ≤ n
   · have e2 : decide ((M : Int) ≤ n) = true := by simp [hnm]
     have hx : (0, s) = (X1, X2) := by rw [← HX.out, iStep_out (l := .mk k n ks) (.inr (by rw [HM.out]; exact hnm))]
     go_enter Tryz.func169, Tryz.ntmps169
     have q0 := p0
     have q1 := p1
     have q2 := p2
     have q3 := p3
     rw [← HW1.out] at q0 q1 q2 q3
     clear p0 p1 p2 p3
     go_wp2_with fail
     go_ret
     injection hx with hx1 hx2
     subst hx1 hx2
     exact ⟨rfl, by unfold InI; omega, HR.out.upd ((Upd.refl nob w).alloc _), (Upd.refl _ w).alloc _⟩
   have e2 : decide ((M : Int) ≤ n) = false := by simp; omega
   have hn0 := hG HK2.out
   obtain ⟨j, hj⟩ : ∃ j : Nat, n = j := ⟨n.toNat, by omega⟩
   subst hj
   have hjm : j < vs.length := by rw [HM.out]; omega
   obtain ⟨v, hv⟩ : ∃ v, vs[j]? = some v := ⟨_, List.getElem?_eq_getElem hjm⟩
   obtain ⟨a, csv, hA, hab, hrow, hlv⟩ := HVS.out.at_ hv
   rw [Nat.zero_add] at hrow
   have hrow1 : rowAt W1 (a.add (j * 3)) csv := hrow.old (hD.old huW1) (by rw [Addr_add_block]; exact hab)
   have hlv1 := hlv.old (hD.old huW1) (fun _ h => h)
   have HLV := Lib.hid hlv1
   have HA := Lib.hid hA
   have hcs := hlv1.oneCell
   have hsi : (Tryz.prog.info? 25).map (·.size) = some csv.size := by rw [hcs.1]; exact lv_size
   have hjM : j < M := by omega
   have hx : (if lsnd v = false then (1, s) else (0, s.set j (lof [] v))) = (X1, X2) := by
    rw [← HX.out, iStep_in (l := .mk k j ks) (j := j) HK2.out rfl hv]
   have HX2 := Lib.hid hx
   clear hrow hlv hlv1 hA hx HX
   have hp := sound_any v csv D W1 (hD.up huW1) HLV.out
   cases hsv : lsnd v with
   | false =>
    rw [hsv] at hp
    go_enter Tryz.func169, Tryz.ntmps169
    have q0 := p0
    have q1 := p1
    have q2 := p2
    have q3 := p3
    have r1 := hrow1
    rw [← HW1.out] at q0 q1 q2 q3 r1
    clear p0 p1 p2 p3 hrow1
    go_wp2_with (first
     | (refine wpList_index_at rfl 23 (.tmp 17) (.tmp 19) rfl _ a _ _ rfl HA.out j rfl hjM 25 Tryz.underlying23 3 lv_size ?_)
     | ((with_reducible refine this_op (.load 25 (.tmp 20)) ?_); refine wpList_at rfl 25 (.tmp 20) rfl (a.add (j * 3)) rfl _ _ r1 Tryz.underlying25 rfl hsi ?_))
    rw [HW1.out]
    refine hp.mono ?_
    rintro e w2 ⟨rfl, hb2⟩
    go_wp2_with fail
    go_ret
    have hx := HX2.out
    rw [hsv, if_pos rfl] at hx
    injection hx with hx1 hx2
    subst hx1 hx2
    exact ⟨rfl, by unfold InI; omega, HR.out.upd (huW1.trans (Upd.of_below hb2)), (huW1.trans (Upd.of_below hb2)).mono (fun _ f => f.elim)⟩
   | true =>
    rw [hsv] at hp
    go_enter Tryz.func169, Tryz.ntmps169
    have q0 := p0
    have q1 := p1
    have q2 := p2
    have q3 := p3
    have r1 := hrow1
    rw [← HW1.out] at q0 q1 q2 q3 r1
    go_wp2_with (first
     | (refine wpList_index_at rfl 23 (.tmp 17) (.tmp 19) rfl _ a _ _ rfl HA.out j rfl hjM 25 Tryz.underlying23 3 lv_size ?_)
     | ((with_reducible refine this_op (.load 25 (.tmp 20)) ?_); refine wpList_at rfl 25 (.tmp 20) rfl (a.add (j * 3)) rfl _ _ r1 Tryz.underlying25 rfl hsi ?_))
    rw [HW1.out]
    clear q0 q1 q2 q3 r1
    refine hp.mono ?_
    rintro e w2 ⟨rfl, hb2⟩
    have hu2 : Upd nob W1 w2 := Upd.of_below hb2
    have hu02 := huW1.trans hu2
    have s1 := (hu2.cell (p := ⟨w.heap.size, 1, none⟩) hlt0 (fun f => f)).trans p1
    have s2 := (hu2.cell (p := ⟨g1, 0, none⟩) hlt1 (fun f => f)).trans p2
    have s3 := (hu2.cell (p := ⟨g2, 0, none⟩) hlt2 (fun f => f)).trans p3
    have hl0 : w.heap.size < w2.heap.size := Nat.lt_of_lt_of_le hlt0 hu2.size
    have hl1 : g1 < w2.heap.size := Nat.lt_of_lt_of_le hlt1 hu2.size
    have hl2 : g2 < w2.heap.size := Nat.lt_of_lt_of_le hlt2 hu2.size
    have r2 : rowAt w2 (a.add (j * 3)) csv := hrow1.old ((hD.up huW1).old hu2) (by rw [Addr_add_block]; exact hab)
    have hla : a.block < w2.heap.size := hD.up hu02 _ hab
    have hp2 := lof_any [] none 0 (by simp) v csv D w2 (lok_of_snd hsv) (hD.up hu02) (HLV.out.old ((hD.up huW1).old hu2) (fun _ h => h)) (fun j n h => by simp at h)
    have hgN : gN < w2.heap.size := by obtain ⟨rows, _, _, h3, _⟩ := HIN.out; exact Nat.lt_of_lt_of_le h3.lt hu02.size
    clear p0 p1 p2 p3 hrow1 hp
    go_wp2_with fail
    refine wp_region_P (by kernel_rfl) ?_
    refine wpAny_of_E (fun X : World => ∀ p : Addr, p.block < w2.heap.size → X.cell? p = w2.cell? p) 10 _ _ _ _ ?_
    have hS : ∀ p : Addr, p.block < w2.heap.size → w2.drew.cell? p = w2.cell? p := fun _ _ => rfl
    refine eT 0 ?_ [] rfl (by kernel_rfl) (by rfl) ?_ hS ?_
    rotate_left
    · intro wx hx
      have q0 := (hx ⟨g2, 0, none⟩ hl2).trans s3
      clear hx
      go_simp
      with_reducible rfl
    try simp only [tl]
    refine eT 1 ?_ [] rfl (by kernel_rfl) (by rfl) ?_ hS ?_
    rotate_left; · intro wx hx; clear hx; go_simp; with_reducible rfl
    try simp only [tl]
    refine eT 2 ?_ [] rfl (by kernel_rfl) (by rfl) ?_ hS ?_
    rotate_left
    · intro wx hx
      have q0 := (hx ⟨w.heap.size, 1, none⟩ hl0).trans s1
      clear hx
      go_simp
      with_reducible rfl
    try simp only [tl]
    refine eT 3 ?_ [] rfl (by kernel_rfl) (by rfl) ?_ hS ?_
    rotate_left
    · intro wx hx
      have q0 := (hx ⟨g1, 0, none⟩ hl1).trans s2
      clear hx
      go_simp
      with_reducible rfl
    try simp only [tl]
    refine eT 4 ?_ [] rfl (by kernel_rfl) (by rfl) ?_ hS ?_
    rotate_left; · intro wx hx; clear hx; go_simp; with_reducible rfl
    try simp only [tl]
    refine eT 5 ?_ [] rfl (by kernel_rfl) (by rfl) ?_ hS ?_
    rotate_left
    · intro wx hx
      have q0 := (hx ⟨w.heap.size, 1, none⟩ hl0).trans s1
      clear hx
      go_simp
      with_reducible rfl
    try simp only [tl]
    refine eT 6 (.pointer (some (Addr.add a (j * 3)))) [] rfl (by kernel_rfl) (by rfl) ?_ hS ?_
    · intro wx hx
      exact run_index_at 23 (.tmp 27) (.tmp 29) rfl _ a _ _ rfl HA.out j rfl hjM 25 Tryz.underlying23 3 lv_size
    try simp only [tl]
    refine eT 7 (.agg csv) [] rfl (by kernel_rfl) (by rfl) ?_ hS ?_
    · intro wx hx
      exact run_load_at 25 (.tmp 30) rfl (a.add (j * 3)) rfl csv _ (row_on r2 (by rw [Addr_add_block]; exact hla) hx) Tryz.underlying25 rfl hsi
    try simp only [tl]
    refine wpAnyE_one (i := 8) (by kernel_rfl) (by kernel_rfl) rfl (by rfl) fun K hK => ?_
    go_simp
    refine (lof_any [] none 0 (by simp) v csv D w2.drew (lok_of_snd hsv) (hD.up hu02).drew ((HLV.out.old ((hD.up huW1).old hu2) (fun _ h => h)).drew) (fun j n h => by simp at h)).mono ?_
    rintro e w4 ⟨csn, rfl, hn4, hb4⟩
    have hu24 : Upd nob w2 w4 := ((Upd.refl nob w2).drew).trans (Upd.of_below hb4)
    have hn5 : NmIs (fun q => q < w4.heap.size ∧ q ≠ gN) w4 (lof [] v) csn := hn4.old (Old.refl _ _) (fun q hq => hq.elim (fun h => ⟨Nat.lt_of_lt_of_le (hD.up hu02 q h) hu24.size, fun e => hneD (e ▸ h)⟩) (fun h => ⟨h.2, by have := h.1; have e : w2.drew.heap.size = w2.heap.size := rfl; omega⟩))
    have hin4 : InIs w4 gN s := HIN.out.upd (hu02.trans hu24)
    obtain ⟨cur, hcur, hcsz, hnew⟩ := hin4.set (j := j) (by rw [hsl]; omega) hn5
    have HNEW := Lib.hid hnew
    have hcn := hn5.cells
    have hsin : (Tryz.prog.info? 189).map (·.size) = some csn.size := by rw [hcn.1]; exact nm_size
    clear hn4 hn5 hin4 hnew hb4
    refine hK _ _ (cells_of_upd hu24) ?_
    clear hK K; try simp only [tl]
    have hS : ∀ p : Addr, p.block < w2.heap.size → w4.cell? p = w2.cell? p := cells_of_upd hu24
    refine eT 9 (.pointer (some (Addr.add ⟨gN, 0, none⟩ (j * 2)))) [] rfl (by kernel_rfl) (by rfl) ?_ hS ?_
    · intro wx hx
      exact run_index_at 200 (.tmp 24) (.tmp 26) rfl _ ⟨gN, 0, none⟩ _ _ rfl rfl j rfl hjM 189 Tryz.underlying200 2 nm_size
    try simp only [tl]
    refine wpAnyE_z (by kernel_rfl) rfl (by rfl) fun K hK => ?_
    have hadd : Addr.add ⟨gN, 0, none⟩ (j * 2) = ⟨gN, j * 2, none⟩ := by unfold Addr.add; split <;> simp_all
    refine owp_store_part 189 (.tmp 33) (.tmp 32) rfl gN (j * 2) csn (by rw [← hadd]; rfl) rfl 189 cur _ hcur hsin (by rw [hcn.1]; exact hcsz) hcn.2 (by rw [hcn.1]) ?_
    refine hK _ _ ?_
    clear hK K; try simp only [tl]
    refine wpAny_done (by kernel_rfl) ?_ _
    refine NoPanic.normal ?_
    go_wp2_with fail
    go_ret
    have hx := HX2.out
    rw [hsv, if_neg (by decide)] at hx
    injection hx with hx1 hx2
    subst hx1 hx2
    have hu9 : Upd (fun q => q = gN) w4 (w4.setRow gN (cur.toList.take (j * 2) ++ csn.toList ++ cur.toList.drop (j * 2 + 2)).toArray) := (Upd.refl (fun q => q = gN) w4).setRow (.inl rfl) _
    obtain ⟨⟨A, c, k1, k2⟩, k3, k4, k5, k6, k7⟩ := HR.out
    have hu04 := hu02.trans hu24
    have hD4 := k6.up hu04
    refine ⟨rfl, by unfold InI; omega, ⟨⟨A, c, (k1.upd hu04 (fun f => f)).upd hu9 (fun h => hne1 h), (k2.old (k6.old hu04) (fun _ h => h)).old (Old.of_upd hu9 fun q hq => ⟨fun h => hneD (h ▸ hq), hD4 q hq⟩) (fun _ h => h)⟩, (k3.upd hu04 (fun f => f)).upd hu9 (fun h => hne2 h), by simp [k4], HNEW.out, hD4.up hu9, hne1, hne2, hneD⟩, (hu04.mono (fun _ f => f.elim)).trans hu9⟩
 have e1 : (k != 2) = true := by simp [hk2]
 have hx : (0, s) = (X1, X2) := by rw [← HX.out, iStep_out (l := .mk k n ks) (.inl hk2)]
 go_enter Tryz.func169, Tryz.ntmps169
 have q0 := p0
 have q1 := p1
 have q2 := p2
 have q3 := p3
 rw [← HW1.out] at q0 q1 q2 q3
 clear p0 p1 p2 p3
 go_wp2_with fail
 go_ret
 injection hx with hx1 hx2
 subst hx1 hx2
 exact ⟨rfl, by unfold InI; omega, HR.out.upd ((Upd.refl nob w).alloc _), (Upd.refl _ w).alloc _⟩
theorem inst_visit (D : Nat → Prop) (vs : List Lv) (g1 g2 gN : Nat) (hg : ¬ D gN) :
    LVisit Tryz.prog 169 #[.pointer (some ⟨g1, 0, none⟩), .pointer (some ⟨g2, 0, none⟩)] D (fun q => q = gN) (InR D vs g1 g2 gN) (iStep vs) (fun l => l.k = 2 → 0 ≤ l.n) where
 enter := fun _ _ => by go_simp
 keep := fun h hu => h.upd hu
 ge := fun k hk e => hg (e ▸ hk)
 lt := fun s W h k e => by obtain ⟨_, _, _, ⟨rows, _, _, h3, _⟩, _⟩ := h; subst e; exact h3.lt
 call := fun l cs d s W hG hl hr _ _ _ => inst1_any l cs d vs g1 g2 gN s D W hG hl hr
end Go.Proofs.YtiampoebdmflgaaGreat
/- level.Inst. -/
namespace Go.Proofs.YtiampoebdmflgaaGreat
open Go.RowKit
set_option linter.unusedVariables false
set_option maxRecDepth 100000
set_option maxHeartbeats 4000000
set_option linter.unusedSimpArgs false
def linst (l : Lv) (vs : List Lv) : Lv :=
 if lsnd l = false then lzero' else if (lwalk (iStep vs) l 1 (List.replicate vs.length ⟨0, []⟩)).1 ≠ 0 then lzero' else nlevel ((lof (lwalk (iStep vs) l 1 (List.replicate vs.length ⟨0, []⟩)).2 l).short)
theorem linst_unsound {l : Lv} {vs : List Lv} (h : lsnd l = false) : linst l vs = lzero' := if_pos h
theorem linst_eq {l : Lv} {vs : List Lv} (h : lsnd l = true) {e : Int} {s : List Nm} (hw : lwalk (iStep vs) l 1 (List.replicate vs.length ⟨0, []⟩) = (e, s)) : linst l vs = if e ≠ 0 then lzero' else nlevel ((lof s l).short) := by
 unfold linst
 rw [if_neg (by rw [h]; decide), hw]
mutual
theorem all_ok (G : Lv → Prop) (hG : ∀ k n ks, lright 1099511627776 1000 k n ks.length = true → G (.mk k n ks)) : ∀ l : Lv, LOk l → l.All G
 | .mk k n ks, h => by
  simp only [LOk] at h
  exact ⟨hG _ _ _ h.1, alls_ok G hG ks h.2⟩
theorem alls_ok (G : Lv → Prop) (hG : ∀ k n ks, lright 1099511627776 1000 k n ks.length = true → G (.mk k n ks)) : ∀ ks : List Lv, LOks ks → Lv.Alls G ks
 | [], _ => trivial
 | l :: ls, h => by
  simp only [LOks] at h
  exact ⟨all_ok G hG l h.1, alls_ok G hG ls h.2⟩
end
theorem right2 {n : Int} {m : Nat} (h : lright 1099511627776 1000 2 n m = true) : 0 ≤ n := by
 unfold lright at h
 simp at h
 omega
theorem all_var {l : Lv} (h : LOk l) : l.All fun l => l.k = 2 → 0 ≤ l.n := all_ok _ (fun k n ks hr hk => by
 simp only [Lv.k] at hk
 subst hk
 exact right2 hr) l h
mutual
theorem snd_height : ∀ (l : Lv) (d s : Int), (lwalk sndStep l d s).1 = 0 → d + l.height ≤ 257
 | .mk k n ks, d, s, h => by
  simp only [lwalk] at h
  split at h
  · rename_i h0
    have hd : d ≤ 256 := by
     unfold sndStep at h0
     by_cases hn : 1000 < wrap64 (s + 1) ∨ 256 < d ∨ lright 1099511627776 1000 (Lv.mk k n ks).k (Lv.mk k n ks).n (Lv.mk k n ks).ks.length = false
     · simp only [if_pos hn] at h0; cases h0
     have : ¬ 256 < d := fun h => hn (.inr (.inl h)); omega
    have := snds_height ks _ _ h
    simp only [Lv.height]
    by_cases hks : Lv.heights ks = 0
    · omega
    have := this.resolve_left hks; omega
  rename_i h0; exact absurd h h0
theorem snds_height : ∀ (ks : List Lv) (d s : Int), (lwalks sndStep ks d s).1 = 0 → Lv.heights ks = 0 ∨ d + Lv.heights ks ≤ 257
 | [], _, _, _ => .inl rfl
 | l :: ls, d, s, h => by
  simp only [lwalks] at h
  split at h
  · rename_i h0
    have h1 := snd_height l d s h0
    have h2 := snds_height ls _ _ h
    simp only [Lv.heights]
    right
    rcases h2 with h2 | h2 <;> omega
  rename_i h0; exact absurd h h0
end
theorem trimN_last (ks : List Int) : ∀ m, trimN ks m = 0 ∨ (1 ≤ trimN ks m ∧ 0 ≤ ks.getD (trimN ks m - 1) 0)
 | 0 => .inl rfl
 | j + 1 => by
  rw [trimN]
  split
  · exact trimN_last ks j
  right; exact ⟨by omega, by simp only [Nat.add_sub_cancel]; omega⟩
theorem short_parts (n : Nm) : nparts n.short ≠ [] := by
 unfold nparts
 by_cases h : n.short.ks = []
 · unfold nhead; rw [if_pos (.inr h)]; simp
 have h1 := trimN_last n.ks n.ks.length
 have h0 := trimN_le n.ks n.ks.length
 have hks : n.short.ks = n.ks.take (trimN n.ks n.ks.length) := rfl
 rcases h1 with h1 | ⟨h1, h2⟩
 · rw [hks, h1] at h; exact absurd (List.take_zero ..) h
 obtain ⟨m, hm⟩ : ∃ m, trimN n.ks n.ks.length = m + 1 := ⟨trimN n.ks n.ks.length - 1, by omega⟩
 rw [hm] at h0 h2 hks
 have hlt : m < n.ks.length := by omega
 rw [hks, List.take_succ_eq_append_getElem hlt, pks_app]
 have e : n.ks.getD (m + 1 - 1) 0 = n.ks[m] := by simp [hlt]
 rw [e] at h2
 have : pks [n.ks[m]] (0 + (n.ks.take m).length) ≠ [] := by
  simp only [pks, List.append_nil]
  unfold pk
  rw [if_pos h2]; simp
 intro hh
 simp only [List.append_eq_nil_iff] at hh
 exact this hh.2.2
theorem made2 (a b : Value) (m : Nat) : madeCells #[a, b] (m * 2) = (cat (List.replicate m #[a, b])).toArray := by
 have hs : ∀ x ∈ List.replicate m #[a, b], x.size = 2 := fun x hx => by rw [(List.mem_replicate.1 hx).2]; rfl
 apply Array.ext_getElem?
 intro i
 by_cases h1 : i < m * 2
 · have hj : i / 2 < (List.replicate m #[a, b]).length := by rw [List.length_replicate]; omega
   have hx : (List.replicate m #[a, b])[i / 2][i % 2]? = some (if i % 2 = 0 then a else b) := by
    rw [List.getElem_replicate]
    rcases Nat.mod_two_eq_zero_or_one i with h | h <;> simp [h]
   have h3 := cat_get _ 2 hs (i / 2) hj (i % 2) _ hx
   have e : i / 2 * 2 + i % 2 = i := by omega
   rw [e] at h3
   have h4 : (cat (List.replicate m #[a, b])).toArray[i]? = some (if i % 2 = 0 then a else b) := by simpa using h3
   rw [h4]
   unfold madeCells
   simp only [Array.getElem?_map, Array.getElem?_range, h1, if_true, Option.map_some]
   rcases Nat.mod_two_eq_zero_or_one i with h | h <;> simp [h]
 rw [Array.getElem?_eq_none (by rw [size_madeCells]; omega), Array.getElem?_eq_none (by rw [List.size_toArray, kat_len _ hs, List.length_replicate]; omega)]
theorem linst_any (l : Lv) (cs : Array Value) (vs : List Lv) (Av : Option Addr) (cv : Nat) (D : Nat → Prop) (w : World) (hD : Within D w) (hl : LvIs D w l cs) (hvl : vs.length * 40 ≤ 140737488351232) (hvs : LvsAt D w vs Av 0) :
    Calls Tryz.prog 150 #[.agg cs, .slice Av vs.length cv] w fun e w' => ∃ cs', e = .returned (.agg cs') ∧ LvIs (grow D w w') w' (linst l vs) cs' ∧ Below w.heap.size w w' := by
 have hz := lv_zero
 obtain ⟨X, hX⟩ : ∃ X, linst l vs = X := ⟨_, rfl⟩
 rw [hX]
 have HX := Lib.hid hX; clear hX
 obtain ⟨k, n, ks⟩ := l
 have HL := Lib.hid hl
 simp only [LvIs] at hl
 obtain ⟨A1, c1, rfl, _, _, _, _⟩ := hl
 obtain ⟨M, hM⟩ : ∃ M, vs.length = M := ⟨_, rfl⟩
 rw [hM] at hvl
 rw [hM]
 have HM := Lib.hid hM
 obtain ⟨i0, hi0, hiz, his, hib⟩ := info_split nm_info
 have hmk : ∀ wx : World, (Instr.makeSlice 200 (.int .i64 M) (.int .i64 M)).run Tryz.prog wx = .ok (.slice (some ⟨wx.heap.size, 0, none⟩) M M) (wx.alloc (.cells (madeCells #[.int .i64 0, .slice none 0 0] (M * 2)) 189)) := fun wx => by
  have := run_make (P := Tryz.prog) (w := wx) 200 189 i0 _ Tryz.underlying200 hi0 hiz .i64 .i64 M M (by omega) (by omega) (by rw [hib]; omega) (by omega)
  rw [his] at this
  simpa [Value.cells] using this
 clear hi0 hiz his hib hM
 obtain ⟨W1, hW1⟩ : ∃ W1, ((w.alloc (.cells #[.int .i64 k, .int .i64 n, .slice A1 ks.length c1] 25)).alloc (.cells #[.slice Av M cv] 23)).alloc (.cells #[.int .i64 0, .int .i64 0, .slice none 0 0] 25) = W1 := ⟨_, rfl⟩
 have huW1 : Upd nob w W1 := by rw [← hW1]; exact (((Upd.refl nob w).alloc _).alloc _).alloc _
 have hsW1 : W1.heap.size = w.heap.size + 3 := by rw [← hW1]; simp
 have b0 : Blk W1 (w.heap.size) 25 #[.int .i64 k, .int .i64 n, .slice A1 ks.length c1] := by
  rw [← hW1]
  have h := Blk.new (w) 25 #[.int .i64 k, .int .i64 n, .slice A1 ks.length c1]
  exact (h.alloc _).alloc _
 have b1 : Blk W1 (w.heap.size + 1) 23 #[.slice Av M cv] := by
  rw [← hW1]
  have h := Blk.new (w.alloc (.cells #[.int .i64 k, .int .i64 n, .slice A1 ks.length c1] 25)) 23 #[.slice Av M cv]
  rw [World.size_alloc] at h
  exact h.alloc _
 have b2 : Blk W1 (w.heap.size + 1 + 1) 25 #[.int .i64 0, .int .i64 0, .slice none 0 0] := by
  rw [← hW1]
  have h := Blk.new ((w.alloc (.cells #[.int .i64 k, .int .i64 n, .slice A1 ks.length c1] 25)).alloc (.cells #[.slice Av M cv] 23)) 25 #[.int .i64 0, .int .i64 0, .slice none 0 0]
  rw [World.size_alloc, World.size_alloc] at h
  exact h
 have HW1 := Lib.hid hW1
 have hrow := b0.rowAt
 have p1 : W1.cell? ⟨w.heap.size + 1, 0, none⟩ = some (.slice Av M cv) := b1.cell 0
 have HB0 := Lib.hid b0
 have HB1 := Lib.hid b1
 have HB2 := Lib.hid b2
 have hD1 := hD.up huW1
 have HL1 := Lib.hid (HL.out.old (hD.old huW1) (fun _ h => h))
 have HV1 := Lib.hid (hvs.old (hD.old huW1) (fun _ h => h))
 clear hW1 b0 b1 b2 hvs
 go_enter Tryz.func150, Tryz.ntmps150
 have r0 := hrow
 rw [← HW1.out] at r0
 go_wp2_with (first
  | ((with_reducible refine this_op (.load 25 (.tmp 2)) ?_); refine wpList_at rfl 25 (.tmp 2) rfl ⟨w.heap.size, 0, none⟩ rfl _ _ r0 Tryz.underlying25 rfl lv_size ?_))
 rw [HW1.out]
 clear r0 hrow
 refine (sound_any (.mk k n ks) _ D W1 hD1 HL1.out).mono ?_
 rintro e w2 ⟨rfl, hb2⟩
 have hu2 : Upd nob W1 w2 := Upd.of_below hb2
 have hu02 := huW1.trans hu2
 have C2 := Lib.hid (HB2.out.upd hu2 (fun f => f))
 cases hs : lsnd (.mk k n ks) with
 | false =>
  have HS := Lib.hid hs; clear hs
  go_wp2_with (first
   | ((with_reducible refine this_op (.store 25 (.tmp 4) (.tmp 10)) ?_); refine wpList_store_row rfl 25 (.tmp 4) (.tmp 10) rfl (w.heap.size + 1 + 1) _ rfl rfl 25 _ C2.out lv_size rfl (by simp [Value.oneCell']) ?_))
  refine bodyPost_ret (results_cell_row rfl _ _ (w.heap.size + 1 + 1) 25 #[.int .i64 0, .int .i64 0, .slice none 0 0] (0, 0) _ rfl (C2.out.row _) Tryz.underlying25 rfl lv_size) rfl ?_
  have hx : X = lzero' := by rw [← HX.out]; exact linst_unsound HS.out
  rw [hx]
  have hfin : Upd (fun q => q = w.heap.size + 1 + 1) w2 (w2.setRow (w.heap.size + 1 + 1) #[.int .i64 0, .int .i64 0, .slice none 0 0]) := (Upd.refl (fun q => q = w.heap.size + 1 + 1) w2).setRow (.inl rfl) _
  exact ⟨_, rfl, lzero_is _ _, (hu02.trans' hfin (fun q hq h => by have : q = w.heap.size + 1 + 1 := h; omega)).below⟩
 | true =>
  have HS := Lib.hid hs; clear hs
  have hr2 := (HB0.out.upd hu2 (fun f => f)).rowAt
  have p2 : w2.cell? ⟨w.heap.size + 1, 0, none⟩ = some (.slice Av M cv) := (HB1.out.upd hu2 (fun f => f)).cell 0
  have lt1 := (HB1.out.upd hu2 (fun f => f)).lt
  have hd2 := hD1.up hu2
  have HL2 := Lib.hid (HL1.out.old (hD1.old hu2) (fun _ h => h))
  have HV2 := Lib.hid (HV1.out.old (hD1.old hu2) (fun _ h => h))
  obtain ⟨W3, hW3⟩ : ∃ W3, (w2.alloc (.cells (madeCells #[.int .i64 0, .slice none 0 0] (M * 2)) 189)).alloc (.cells #[.slice (some ⟨w2.heap.size, 0, none⟩) M M] 200) = W3 := ⟨_, rfl⟩
  have hu3 : Upd nob w2 W3 := by rw [← hW3]; exact ((Upd.refl nob w2).alloc _).alloc _
  have hs3 : W3.heap.size = w2.heap.size + 2 := by rw [← hW3]; simp
  have hbn : Blk W3 w2.heap.size 189 (madeCells #[.int .i64 0, .slice none 0 0] (M * 2)) := by rw [← hW3]; exact (Blk.new w2 _ _).alloc _
  have hbs : Blk W3 (w2.heap.size + 1) 200 #[.slice (some ⟨w2.heap.size, 0, none⟩) M M] := by
   rw [← hW3]
   have h := Blk.new (w2.alloc (.cells (madeCells #[.int .i64 0, .slice none 0 0] (M * 2)) 189)) 200 #[.slice (some ⟨w2.heap.size, 0, none⟩) M M]
   rw [World.size_alloc] at h
   exact h
  have hin : InIs W3 w2.heap.size (List.replicate vs.length ⟨0, []⟩) := by
   rw [made2] at hbn
   rw [HM.out]
   refine ⟨_, by simp, fun x hx => by rw [(List.mem_replicate.1 hx).2]; rfl, hbn, fun j m hj => ?_⟩
   obtain ⟨hj1, hj2⟩ := List.getElem?_eq_some_iff.1 hj
   rw [List.getElem_replicate] at hj2
   subst hj2
   rw [List.length_replicate] at hj1
   refine ⟨_, by rw [List.getElem?_replicate, if_pos hj1]; rfl, none, 0, rfl, ⟨⟨⟨by simp, by simp⟩, fun x hx => (by cases hx), by simp⟩, by simp⟩, fun j z h => (by simp at h)⟩
  have hInR : InR D vs (w.heap.size + 1) (w2.heap.size + 1) w2.heap.size (List.replicate vs.length ⟨0, []⟩) W3 := by
   refine ⟨⟨Av, cv, by rw [HM.out]; exact (HB1.out.upd hu2 (fun f => f)).upd hu3 (fun f => f), HV2.out.old (hd2.old hu3) (fun _ h => h)⟩, by rw [HM.out]; exact hbs, by simp, hin, hd2.up hu3, by omega, by omega, fun h => ?_⟩
   have := hd2 _ h; omega
  have hok := lok_of_snd HS.out
  have hht : (1 : Int) + (Lv.mk k n ks).height ≤ 257 := snd_height _ 1 0 (by have := HS.out; unfold lsnd at this; simpa using this)
  obtain ⟨⟨re, rs⟩, hrw⟩ : ∃ r, lwalk (iStep vs) (.mk k n ks) 1 (List.replicate vs.length ⟨0, []⟩) = r := ⟨_, rfl⟩
  have hcall := lwalk_any (inst_visit D vs (w.heap.size + 1) (w2.heap.size + 1) w2.heap.size (fun h => by have := hd2 _ h; omega)) (.mk k n ks) (all_var hok) _ 1 _ W3 (HL2.out.old (hd2.old hu3) (fun _ h => h)) hInR (hd2.up hu3) (by omega) (.inl (by omega))
  rw [hrw] at hcall
  have HRW := Lib.hid hrw
  have HCALL := Lib.hid hcall
  have HB13 := Lib.hid (HB0.out.upd (hu2.trans hu3) (fun f => f))
  have HB33 := Lib.hid hbs
  have r3 := HB13.out.rowAt
  clear hrw hcall hInR hin hbn hbs
  go_wp2_with (first
   | ((with_reducible refine this_op (.load 25 (.tmp 2)) ?_); refine wpList_at rfl 25 (.tmp 2) rfl ⟨w.heap.size, 0, none⟩ rfl _ _ r3 Tryz.underlying25 rfl lv_size ?_))
  have HW3 := Lib.hid hW3
  clear hW3 r3 hr2 p2
  refine HCALL.out.mono ?_
  rintro e w4 ⟨rfl, hR4, hu4⟩
  have HR4 := Lib.hid hR4
  have hu04 : Upd (fun q => q = w2.heap.size) w2 w4 := (hu3.mono (fun _ f => f.elim)).trans hu4
  have HU04 := Lib.hid hu04
  have hsz4 := hu04.size
  have C4 := Lib.hid (C2.out.upd hu04 (fun h => by have : w.heap.size + 1 + 1 = w2.heap.size := h; have := hu2.size; omega))
  have D4 := Lib.hid ((HB0.out.upd hu2 (fun f => f)).upd hu04 (fun h => by have : w.heap.size = w2.heap.size := h; have := hu2.size; omega))
  have E4 := Lib.hid (HB33.out.upd hu4 (fun h => by have : w2.heap.size + 1 = w2.heap.size := h; omega))
  have p5 : w4.cell? ⟨w2.heap.size + 1, 0, none⟩ = some (.slice (some ⟨w2.heap.size, 0, none⟩) M M) := E4.out.cell 0
  have lt5 := E4.out.lt
  have r4 := D4.out.rowAt
  clear hR4 hu4 hu04
  by_cases hre : re = 0
  · have t1 : (re != 0) = false := by simp [hre]
    have HRE := Lib.hid hre
    clear hre
    have hX : X = nlevel ((lof rs (.mk k n ks)).short) := by rw [← HX.out, linst_eq HS.out HRW.out, if_neg (fun h => h HRE.out)]
    have HX2 := Lib.hid hX
    clear hX
    go_wp2_with (first
     | ((with_reducible refine this_op (.load 25 (.tmp 2)) ?_); refine wpList_at rfl 25 (.tmp 2) rfl ⟨w.heap.size, 0, none⟩ rfl _ _ r4 Tryz.underlying25 rfl lv_size ?_))
    obtain ⟨_, _, hrl, hin4, _, _⟩ := HR4.out
    have hl4 : LvIs (There w4) w4 (.mk k n ks) #[.int .i64 k, .int .i64 n, .slice A1 ks.length c1] := (HL2.out.old (Old.of_upd HU04.out (fun q hq => ⟨fun h => by have : q = w2.heap.size := h; have := hd2 _ hq; omega, hd2 q hq⟩)) (fun q hq => (hd2.up HU04.out) q hq))
    have hcall := lof_any rs (some ⟨w2.heap.size, 0, none⟩) M (by rw [hrl, HM.out]; omega) (.mk k n ks) _ (There w4) w4 hok (There_in w4) hl4 hin4.at_
    rw [hrl, HM.out] at hcall
    refine hcall.mono ?_
    rintro e w5 ⟨cs5, rfl, hn5, hb5⟩
    have hu5 : Upd nob w4 w5 := Upd.of_below hb5
    go_wp2_with fail
    refine (nshort_any _ cs5 (There w5) w5 (There_in w5) (hn5.old (Old.refl _ _) (fun q hq => hq.elim (fun h => Nat.lt_of_lt_of_le h hu5.size) (fun h => h.2)))).mono ?_
    rintro e w6 ⟨cs6, rfl, hn6, hb6⟩
    have hu6 : Upd nob w5 w6 := Upd.of_below hb6
    go_wp2_with fail
    refine (nlevel_any _ cs6 (There w5) w6 (fun q hq => Nat.lt_of_lt_of_le hq hu6.size) hn6 (short_parts _)).mono ?_
    rintro e w7 ⟨cs7, rfl, hl7, hb7⟩
    have hu7 : Upd nob w6 w7 := Upd.of_below hb7
    have hu47 := (hu5.trans hu6).trans hu7
    have C7 := C4.out.upd hu47 (fun f => f)
    have hs7 := hl7.oneCell
    have hsi7 : (Tryz.prog.info? 25).map (·.size) = some cs7.size := by rw [hs7.1]; exact lv_size
    clear hcall
    go_wp2_with (first
     | ((with_reducible refine this_op (.store 25 (.tmp 4) (.tmp 24)) ?_); refine wpList_store_row rfl 25 (.tmp 4) (.tmp 24) rfl (w.heap.size + 1 + 1) _ rfl rfl 25 _ C7 hsi7 (by rw [hs7.1]; rfl) hs7.2 ?_))
    refine bodyPost_ret (results_cell_row rfl _ _ (w.heap.size + 1 + 1) 25 cs7 (0, 0) _ rfl (C7.row _) Tryz.underlying25 rfl hsi7) rfl ?_
    have hfin : Upd (fun q => q = w.heap.size + 1 + 1) w7 (w7.setRow (w.heap.size + 1 + 1) cs7) := (Upd.refl (fun q => q = w.heap.size + 1 + 1) w7).setRow (.inl rfl) _
    have hs8 : (w7.setRow (w.heap.size + 1 + 1) cs7).heap.size = w7.heap.size := by simp
    have hz2 := hu2.size
    have hz5 := hu5.size
    have hz6 := hu6.size
    rw [HX2.out]
    refine ⟨cs7, rfl, hl7.old (Old.of_upd hfin fun q hq => ⟨fun h => by have : q = w.heap.size + 1 + 1 := h; have := hq.1; omega, hq.2⟩) (fun q hq => .inr ⟨by have := hq.1; omega, by have := hq.2; omega⟩), ?_⟩
    exact ((((hu02.trans' HU04.out (fun q hq h => by have : q = w2.heap.size := h; omega)).trans hu47)).trans' hfin (fun q hq h => by have : q = w.heap.size + 1 + 1 := h; omega)).below
  have t1 : (re != 0) = true := by simp [hre]
  have hX : X = lzero' := by rw [← HX.out, linst_eq HS.out HRW.out, if_pos hre]
  have HX2 := Lib.hid hX
  clear hX
  go_wp2_with (first
   | ((with_reducible refine this_op (.store 25 (.tmp 4) (.tmp 19)) ?_); refine wpList_store_row rfl 25 (.tmp 4) (.tmp 19) rfl (w.heap.size + 1 + 1) _ rfl rfl 25 _ C4.out lv_size rfl (by simp [Value.oneCell']) ?_))
  refine bodyPost_ret (results_cell_row rfl _ _ (w.heap.size + 1 + 1) 25 #[.int .i64 0, .int .i64 0, .slice none 0 0] (0, 0) _ rfl (C4.out.row _) Tryz.underlying25 rfl lv_size) rfl ?_
  have hfin : Upd (fun q => q = w.heap.size + 1 + 1) w4 (w4.setRow (w.heap.size + 1 + 1) #[.int .i64 0, .int .i64 0, .slice none 0 0]) := (Upd.refl (fun q => q = w.heap.size + 1 + 1) w4).setRow (.inl rfl) _
  have hz2 := hu2.size
  rw [HX2.out]
  exact ⟨_, rfl, lzero_is _ _, ((hu02.trans' HU04.out (fun q hq h => by have : q = w2.heap.size := h; omega)).trans' hfin (fun q hq h => by have : q = w.heap.size + 1 + 1 := h; omega)).below⟩
end Go.Proofs.YtiampoebdmflgaaGreat
/- term.InstLevels's ends. -/
namespace Go.Proofs.YtiampoebdmflgaaGreat
open Go.RowKit
set_option linter.unusedVariables false
set_option maxRecDepth 100000
set_option maxHeartbeats 4000000
set_option linter.unusedSimpArgs false
def ilF (vs : List Lv) (t : Tm) (_ : Int) : Tm :=
 if t.k = 1 then .mk 1 t.n ByteArray.empty lzero' [] [] else if t.k = 2 then .mk 2 0 ByteArray.empty (linst t.lv vs) [] [] else if t.k = 7 then .mk 7 0 t.nm lzero' (t.ls.map fun l => linst l vs) [] else .mk t.k 0 ByteArray.empty lzero' [] []
theorem ilev1_any (t : Tm) (cs : Array Value) (i : Int) (vs : List Lv) (Av : Option Addr) (cv g : Nat) (D : Nat → Prop) (w : World) (hD : Within D w) (ht : TmIs D w t cs) (hgb : Blk w g 23 #[.slice Av vs.length cv]) (hvl : vs.length * 40 ≤ 140737488351232) (hvs : LvsAt D w vs Av 0) :
    Calls Tryz.prog 149 #[.agg cs, .int .i64 i, .pointer (some ⟨g, 0, none⟩)] w fun e w' => ∃ cs', e = .returned (.agg cs') ∧ TmIs (grow D w w') w' (ilF vs t i) cs' ∧ Below w.heap.size w w' := by
 obtain ⟨M, hM⟩ : ∃ M, vs.length = M := ⟨_, rfl⟩
 rw [hM] at hgb hvl
 have HM := Lib.hid hM
 have hglt := hgb.lt
 have HGB := Lib.hid hgb
 have HVS := Lib.hid hvs
 clear hgb hvs hM
 have hz := tm_zero
 obtain ⟨x, y, z, A, c, A', c', rfl, hk, hn, hnm, hlv, hls1, hls, hks1, hks⟩ := ht.lit
 obtain ⟨k, n, nm, lv, ls, ks⟩ := t
 simp only [Tm.k, Tm.n, Tm.nm, Tm.lv, Tm.ls, Tm.ks] at hk hn hnm hlv hls1 hls hks1 hks ht ⊢
 have hzI : InI 0 := by unfold InI; omega
 have hz3 := lv_zero
 by_cases h1 : k = 1
 · subst h1
   have htn : ilF vs (.mk 1 n nm lv ls ks) i = .mk 1 n ByteArray.empty lzero' [] [] := by simp [ilF, Tm.k, Tm.n]
   rw [htn]
   clear htn
   go_enter Tryz.func149, Tryz.ntmps149
   go_wp2
   refine bodyPost_ret (results_cell_row rfl _ _ (w.heap.size + 1) 28 #[.int .i64 1, .int .i64 n, .string ByteArray.empty, .int .i64 0, .int .i64 0, .slice none 0 0, .slice none 0 0, .slice none 0 0] (0, 0) _ rfl (second_blk _ _ _ _ _) Tryz.underlying28 rfl tm_size) rfl ?_
   exact ⟨_, rfl, TmIs.short _ _ hk hn, ((((Upd.refl nob w).alloc _).alloc _).alloc _).below⟩
 by_cases h2 : k = 2
 · subst h2
   have htn : ilF vs (.mk 2 n nm lv ls ks) i = .mk 2 0 ByteArray.empty (linst lv vs) [] [] := by simp [ilF, Tm.k, Tm.lv]
   rw [htn]
   clear htn
   obtain ⟨W1, hW1⟩ : ∃ W1, ((w.alloc (.cells #[.int .i64 2, .int .i64 n, .string nm, x, y, z, .slice A ls.length c, .slice A' ks.length c'] 28)).alloc (.cells #[.int .i64 0, .int .i64 0, .string ByteArray.empty, .int .i64 0, .int .i64 0, .slice none 0 0, .slice none 0 0, .slice none 0 0] 28)).alloc (.cells #[.int .i64 2, .int .i64 0, .string ByteArray.empty, .int .i64 0, .int .i64 0, .slice none 0 0, .slice none 0 0, .slice none 0 0] 28) = W1 := ⟨_, rfl⟩
   have huW1 : Upd nob w W1 := by rw [← hW1]; exact (((Upd.refl nob w).alloc _).alloc _).alloc _
   have hsW1 : W1.heap.size = w.heap.size + 3 := by rw [← hW1]; simp
   have b0 : Blk W1 (w.heap.size) 28 #[.int .i64 2, .int .i64 n, .string nm, x, y, z, .slice A ls.length c, .slice A' ks.length c'] := by
    rw [← hW1]
    have h := Blk.new (w) 28 #[.int .i64 2, .int .i64 n, .string nm, x, y, z, .slice A ls.length c, .slice A' ks.length c']
    exact (h.alloc _).alloc _
   have b1 : Blk W1 (w.heap.size + 1) 28 #[.int .i64 0, .int .i64 0, .string ByteArray.empty, .int .i64 0, .int .i64 0, .slice none 0 0, .slice none 0 0, .slice none 0 0] := by
    rw [← hW1]
    have h := Blk.new (w.alloc (.cells #[.int .i64 2, .int .i64 n, .string nm, x, y, z, .slice A ls.length c, .slice A' ks.length c'] 28)) 28 #[.int .i64 0, .int .i64 0, .string ByteArray.empty, .int .i64 0, .int .i64 0, .slice none 0 0, .slice none 0 0, .slice none 0 0]
    rw [World.size_alloc] at h
    exact h.alloc _
   have b2 : Blk W1 (w.heap.size + 1 + 1) 28 #[.int .i64 2, .int .i64 0, .string ByteArray.empty, .int .i64 0, .int .i64 0, .slice none 0 0, .slice none 0 0, .slice none 0 0] := by
    rw [← hW1]
    have h := Blk.new ((w.alloc (.cells #[.int .i64 2, .int .i64 n, .string nm, x, y, z, .slice A ls.length c, .slice A' ks.length c'] 28)).alloc (.cells #[.int .i64 0, .int .i64 0, .string ByteArray.empty, .int .i64 0, .int .i64 0, .slice none 0 0, .slice none 0 0, .slice none 0 0] 28)) 28 #[.int .i64 2, .int .i64 0, .string ByteArray.empty, .int .i64 0, .int .i64 0, .slice none 0 0, .slice none 0 0, .slice none 0 0]
    rw [World.size_alloc, World.size_alloc] at h
    exact h
   have HW1 := Lib.hid hW1
   have r0 := sub_row b0.rowAt 3 #[x, y, z] (fun j v hv => by match j, hv with | 0, hv | 1, hv | 2, hv => exact hv | (j + 3), hv => simp at hv)
   have hp := linst_any lv #[x, y, z] vs Av cv D W1 (hD.up huW1) (hlv.old (hD.old huW1) (fun _ h => h)) (by rw [HM.out]; exact hvl) (HVS.out.old (hD.old huW1) (fun _ h => h))
   rw [HM.out] at hp
   have pg : W1.cell? ⟨g, 0, none⟩ = some (.slice Av M cv) := (HGB.out.upd huW1 (fun f => f)).cell 0
   clear hW1
   go_enter Tryz.func149, Tryz.ntmps149
   rw [← HW1.out] at r0 pg
   go_wp2_with (first
         | ((with_reducible refine this_op (.load 25 (.tmp 21)) ?_); refine wpList_at rfl 25 (.tmp 21) rfl ⟨w.heap.size, 3, none⟩ rfl _ _ r0 Tryz.underlying25 rfl lv_size ?_))
   rw [HW1.out]
   refine hp.mono ?_
   rintro e w2 ⟨cs2, rfl, hl2, hb2⟩
   have hu2 : Upd nob W1 w2 := Upd.of_below hb2
   obtain ⟨x2, y2, z2, rfl⟩ : ∃ x2 y2 z2, cs2 = #[x2, y2, z2] := hl2.three
   have C1 := b1.upd hu2 (fun f => f)
   have C2 := b2.upd hu2 (fun f => f)
   have hs2 := hl2.oneCell
   clear r0 b0 b1 b2 pg
   have D1 := C1.rowFar (k := w.heap.size + 1 + 1) (by omega) #[.int .i64 2, .int .i64 0, .string ByteArray.empty, x2, y2, z2, .slice none 0 0, .slice none 0 0]
   have r2 := (C2.row #[.int .i64 2, .int .i64 0, .string ByteArray.empty, x2, y2, z2, .slice none 0 0, .slice none 0 0]).rowAt
   go_wp2_with (first
         | ((with_reducible refine this_op (.store 25 (.tmp 25) (.tmp 24)) ?_); refine wpList_store_part rfl 25 (.tmp 25) (.tmp 24) rfl (w.heap.size + 1 + 1) 3 #[x2, y2, z2] rfl rfl 28 _ #[.int .i64 2, .int .i64 0, .string ByteArray.empty, x2, y2, z2, .slice none 0 0, .slice none 0 0] C2 lv_size (by simp) hs2.2 rfl ?_)
         | ((with_reducible refine this_op (.load 28 (.tmp 6)) ?_); refine wpList_at rfl 28 (.tmp 6) rfl ⟨w.heap.size + 1 + 1, 0, none⟩ rfl _ _ r2 Tryz.underlying28 rfl tm_size ?_)
         | ((with_reducible refine this_op (.store 28 (.tmp 5) (.tmp 47)) ?_); refine wpList_store_row rfl 28 (.tmp 5) (.tmp 47) rfl (w.heap.size + 1) _ rfl rfl 28 _ D1 tm_size rfl (by have := hs2.2; simp [Value.oneCell'] at this ⊢; exact this) ?_))
   refine bodyPost_ret (results_cell_row rfl _ _ (w.heap.size + 1) 28 #[.int .i64 2, .int .i64 0, .string ByteArray.empty, x2, y2, z2, .slice none 0 0, .slice none 0 0] (0, 0) _ rfl (D1.row _) Tryz.underlying28 rfl tm_size) rfl ?_
   have hfin : Upd (fun q => w.heap.size ≤ q ∧ q < w.heap.size + 3) w2 ((w2.setRow (w.heap.size + 1 + 1) #[.int .i64 2, .int .i64 0, .string ByteArray.empty, x2, y2, z2, .slice none 0 0, .slice none 0 0]).setRow (w.heap.size + 1) #[.int .i64 2, .int .i64 0, .string ByteArray.empty, x2, y2, z2, .slice none 0 0, .slice none 0 0]) :=
    ((Upd.refl _ w2).setRow (.inl ⟨by omega, by omega⟩) _).setRow (.inl ⟨by omega, by omega⟩) _
   have hs3 := hu2.size
   have hsz : ((w2.setRow (w.heap.size + 1 + 1) #[.int .i64 2, .int .i64 0, .string ByteArray.empty, x2, y2, z2, .slice none 0 0, .slice none 0 0]).setRow (w.heap.size + 1) #[.int .i64 2, .int .i64 0, .string ByteArray.empty, x2, y2, z2, .slice none 0 0, .slice none 0 0]).heap.size = w2.heap.size := by simp
   refine ⟨_, rfl, ?_, ((huW1.trans hu2).trans' hfin (fun q hq h => by omega)).below⟩
   simp only [TmIs]
   refine ⟨x2, y2, z2, none, 0, none, 0, rfl, by unfold InI; omega, hzI, by simp, hl2.old (Old.of_upd hfin fun q hq => ?_) (fun q hq => ?_), ⟨by simp, Nat.zero_le _⟩, by simp only [LvsAt], ⟨by simp, Nat.zero_le _⟩, by simp only [TmsAt]⟩
   · rcases hq with hq | hq
     · have := hD q hq; exact ⟨by omega, by omega⟩
     exact ⟨by omega, hq.2⟩
   rcases hq with hq | hq
   · exact .inl hq
   exact .inr ⟨by omega, by omega⟩
 by_cases h7 : k = 7
 · subst h7
   have htn : ilF vs (.mk 7 n nm lv ls ks) i = .mk 7 0 nm lzero' (ls.map fun l => linst l vs) [] := by simp [ilF, Tm.k, Tm.nm, Tm.ls]
   rw [htn]
   clear htn h1 h2
   have H1 := Lib.hid ht; clear ht
   have hWS : ∃ W1, ((w.alloc (.cells #[.int .i64 7, .int .i64 n, .string nm, x, y, z, .slice A ls.length c, .slice A' ks.length c'] 28)).alloc (.cells #[.int .i64 0, .int .i64 0, .string ByteArray.empty, .int .i64 0, .int .i64 0, .slice none 0 0, .slice none 0 0, .slice none 0 0] 28)).alloc (.cells #[.int .i64 7, .int .i64 0, .string nm, .int .i64 0, .int .i64 0, .slice none 0 0, .slice none 0 0, .slice none 0 0] 28) = W1 ∧ Upd nob w W1 ∧ W1.heap.size = w.heap.size + 3 ∧ Blk W1 (w.heap.size + 1) 28 #[.int .i64 0, .int .i64 0, .string ByteArray.empty, .int .i64 0, .int .i64 0, .slice none 0 0, .slice none 0 0, .slice none 0 0] ∧ Blk W1 (w.heap.size + 1 + 1) 28 #[.int .i64 7, .int .i64 0, .string nm, .int .i64 0, .int .i64 0, .slice none 0 0, .slice none 0 0, .slice none 0 0] := by
    obtain ⟨W1, hW1⟩ : ∃ W1, ((w.alloc (.cells #[.int .i64 7, .int .i64 n, .string nm, x, y, z, .slice A ls.length c, .slice A' ks.length c'] 28)).alloc (.cells #[.int .i64 0, .int .i64 0, .string ByteArray.empty, .int .i64 0, .int .i64 0, .slice none 0 0, .slice none 0 0, .slice none 0 0] 28)).alloc (.cells #[.int .i64 7, .int .i64 0, .string nm, .int .i64 0, .int .i64 0, .slice none 0 0, .slice none 0 0, .slice none 0 0] 28) = W1 := ⟨_, rfl⟩
    have huW1 : Upd nob w W1 := by rw [← hW1]; exact (((Upd.refl nob w).alloc _).alloc _).alloc _
    have hsW1 : W1.heap.size = w.heap.size + 3 := by rw [← hW1]; simp
    have b0 : Blk W1 (w.heap.size) 28 #[.int .i64 7, .int .i64 n, .string nm, x, y, z, .slice A ls.length c, .slice A' ks.length c'] := by
     rw [← hW1]
     have h := Blk.new (w) 28 #[.int .i64 7, .int .i64 n, .string nm, x, y, z, .slice A ls.length c, .slice A' ks.length c']
     exact (h.alloc _).alloc _
    have b1 : Blk W1 (w.heap.size + 1) 28 #[.int .i64 0, .int .i64 0, .string ByteArray.empty, .int .i64 0, .int .i64 0, .slice none 0 0, .slice none 0 0, .slice none 0 0] := by
     rw [← hW1]
     have h := Blk.new (w.alloc (.cells #[.int .i64 7, .int .i64 n, .string nm, x, y, z, .slice A ls.length c, .slice A' ks.length c'] 28)) 28 #[.int .i64 0, .int .i64 0, .string ByteArray.empty, .int .i64 0, .int .i64 0, .slice none 0 0, .slice none 0 0, .slice none 0 0]
     rw [World.size_alloc] at h
     exact h.alloc _
    have b2 : Blk W1 (w.heap.size + 1 + 1) 28 #[.int .i64 7, .int .i64 0, .string nm, .int .i64 0, .int .i64 0, .slice none 0 0, .slice none 0 0, .slice none 0 0] := by
     rw [← hW1]
     have h := Blk.new ((w.alloc (.cells #[.int .i64 7, .int .i64 n, .string nm, x, y, z, .slice A ls.length c, .slice A' ks.length c'] 28)).alloc (.cells #[.int .i64 0, .int .i64 0, .string ByteArray.empty, .int .i64 0, .int .i64 0, .slice none 0 0, .slice none 0 0, .slice none 0 0] 28)) 28 #[.int .i64 7, .int .i64 0, .string nm, .int .i64 0, .int .i64 0, .slice none 0 0, .slice none 0 0, .slice none 0 0]
     rw [World.size_alloc, World.size_alloc] at h
     exact h
    exact ⟨W1, hW1, huW1, hsW1, b1, b2⟩
   obtain ⟨W1, hW1, hu1, hs1, b1, b2⟩ := hWS
   have HW1 := Lib.hid hW1; clear hW1
   go_enter Tryz.func149, Tryz.ntmps149
   go_wp2_with fail
   rw [HW1.out]
   clear HW1
   go_loopg [34] ls.length (fun (q : Nat) v wr => ∃ j : Nat, j + q = ls.length ∧ v = .int .i64 j ∧ ∃ sv, Blk wr (w.heap.size + 1) 28 #[.int .i64 0, .int .i64 0, .string ByteArray.empty, .int .i64 0, .int .i64 0, .slice none 0 0, .slice none 0 0, .slice none 0 0] ∧ Blk wr (w.heap.size + 1 + 1) 28 #[.int .i64 7, .int .i64 0, .string nm, .int .i64 0, .int .i64 0, .slice none 0 0, sv, .slice none 0 0] ∧
    Coll lvR D (w.heap.size + 1 + 1 + 1) 25 wr sv ((ls.take j).map (fun l => linst l vs)) ∧ Upd nob w wr ∧ w.heap.size + 3 ≤ wr.heap.size)
   case atStart => exact ⟨0, by omega, rfl, _, b1, b2, Coll.nil_, hu1, by omega⟩
   case round =>
    clear b1 b2 hu1 hs1
    obtain ⟨j, hj, rfl, sv, c1, c2, hc, hu, hsz⟩ := hrel
    obtain ⟨sA, sc, rfl, hcp⟩ := hc.form
    have hjl : ((ls.take j).map (fun l => linst l vs)).length = j := by simp; omega
    rw [hjl] at c2 hc hcp
    have hED : ∀ x, D x → x < w.heap.size + 1 + 1 + 1 := fun x hx => by have := hD x hx; omega
    rcases Nat.eq_zero_or_pos gk with hk0 | hk0
    · have t2 : decide ((j : Int) < ls.length) = false := by simp; omega
      have hje : j = ls.length := by omega
      clear hj hk0 hjl
      subst hje
      have r2 := c2.rowAt
      have C1 := Lib.hid c1
      have C2 := Lib.hid c2
      clear c1 c2
      go_wp2_with (first
                  | ((with_reducible refine this_op (.load 28 (.tmp 6)) ?_); refine wpList_at rfl 28 (.tmp 6) rfl ⟨w.heap.size + 1 + 1, 0, none⟩ rfl _ _ r2 Tryz.underlying28 rfl tm_size ?_)
                  | ((with_reducible refine this_op (.store 28 (.tmp 5) (.tmp 47)) ?_); refine wpList_store_row rfl 28 (.tmp 5) (.tmp 47) rfl (w.heap.size + 1) _ rfl rfl 28 _ C1.out tm_size rfl (by simp [Value.oneCell']) ?_))
      have hfin : Upd (fun x => x = w.heap.size + 1) wr (wr.setRow (w.heap.size + 1) #[.int .i64 7, .int .i64 0, .string nm, .int .i64 0, .int .i64 0, .slice none 0 0, .slice sA ls.length sc, .slice none 0 0]) := (Upd.refl (fun x => x = w.heap.size + 1) wr).setRow (.inl rfl) _
      have b9 := C1.out.row #[.int .i64 7, .int .i64 0, .string nm, .int .i64 0, .int .i64 0, .slice none 0 0, .slice sA ls.length sc, .slice none 0 0]
      refine bodyPost_ret (results_cell_row rfl _ _ (w.heap.size + 1) 28 #[.int .i64 7, .int .i64 0, .string nm, .int .i64 0, .int .i64 0, .slice none 0 0, .slice sA ls.length sc, .slice none 0 0] (0, 0) _ rfl b9 Tryz.underlying28 rfl tm_size) rfl ?_
      refine ⟨_, rfl, ?_, (hu.trans' hfin (fun x hx h => by omega)).below⟩
      have hc9 := hc.upd hfin (fun x hx => ⟨by omega, fun h => by have := hD x h; omega⟩) (fun x h => by have := hD x h; omega)
      obtain ⟨A9, c9, hv9, hcap9, hat⟩ := hc9.lvs (D := grow D w (wr.setRow (w.heap.size + 1) #[.int .i64 7, .int .i64 0, .string nm, .int .i64 0, .int .i64 0, .slice none 0 0, .slice sA ls.length sc, .slice none 0 0])) (fun x hx => hx.elim (fun f => .inl f) fun h => .inr ⟨by omega, h.2⟩)
      rw [List.take_length] at hv9 hat hcap9
      simp only [List.length_map] at hv9 hcap9
      injection hv9 with q1 q2 q3
      subst q1 q3
      simp only [TmIs, List.length_map]
      exact ⟨_, _, _, _, _, none, 0, rfl, hk, hzI, hnm, lzero_is _ _, ⟨hls1.1, hcap9⟩, hat, ⟨by simp, Nat.zero_le _⟩, by simp only [TmsAt]⟩
    have hlt : j < ls.length := by omega
    have t2 : decide ((j : Int) < ls.length) = true := by simp [hlt]
    obtain ⟨a, cs', hA, hab, hrow, hl'⟩ := hls.at_ (List.getElem?_eq_getElem hlt)
    rw [Nat.zero_add] at hrow
    have hrow' := hrow.old (hD.old hu) (by rw [Addr_add_block]; exact hab)
    have hl3 := hl'.old (hD.old hu) (fun _ h => h)
    obtain ⟨x1, y1, z1, z2, z3, rfl⟩ := hl3.lit3
    clear hrow hl'
    have HA := Lib.hid hA
    have C1 := Lib.hid c1
    have C2 := Lib.hid c2
    have HJ := Lib.hid hjl
    have HQ := Lib.hid hj
    clear hA c1 c2 hjl hj
    go_wp2_with (first
                | ((with_reducible refine this_op (.indexAddr 23 (.tmp 32) (.tmp 34)) ?_); refine wpList_index_at rfl 23 (.tmp 32) (.tmp 34) rfl _ a _ _ rfl HA.out j rfl hlt 25 Tryz.underlying23 3 lv_size ?_)
                | ((with_reducible refine this_op (.load 25 (.tmp 36)) ?_); refine wpList_at rfl 25 (.tmp 36) rfl (a.add (j * 3)) rfl _ _ hrow' Tryz.underlying25 rfl lv_size ?_))
    obtain ⟨W, hW⟩ : ∃ W, wr.alloc (.cells #[.int .i64 x1, .int .i64 y1, .slice z1 z2 z3] 25) = W := ⟨_, rfl⟩
    have huW : Upd nob wr W := by rw [← hW]; exact (Upd.refl nob wr).alloc _
    have hsW : W.heap.size = wr.heap.size + 1 := by rw [← hW]; simp
    have d5 : Blk W wr.heap.size 25 #[.int .i64 x1, .int .i64 y1, .slice z1 z2 z3] := by rw [← hW]; exact Blk.new _ _ _
    have d2 : Blk W (w.heap.size + 1 + 1) 28 #[.int .i64 7, .int .i64 0, .string nm, .int .i64 0, .int .i64 0, .slice none 0 0, .slice sA j sc, .slice none 0 0] := C2.out.upd huW (fun f => f)
    have e2 : W.cell? ⟨w.heap.size + 1 + 1, 6, none⟩ = some (.slice sA j sc) := d2.cell 6
    have pg : W.cell? ⟨g, 0, none⟩ = some (.slice Av M cv) := (HGB.out.upd (hu.trans huW) (fun f => f)).cell 0
    have pgl : g < W.heap.size := by have := (hu.trans huW).size; omega
    rw [hW]
    clear hW
    have D5 := Lib.hid d5
    have D2 := Lib.hid d2
    clear d5 d2
    refine wp_region_P (by kernel_rfl) ?_
    refine wpAny_of_E (fun X : World => ∀ p : Addr, p.block < W.heap.size → X.cell? p = W.cell? p) 6 _ _ _ _ ?_
    have hS : ∀ p : Addr, p.block < W.heap.size → W.drew.cell? p = W.cell? p := fun _ _ => rfl
    refine eT 0 ?_ [1] rfl (by kernel_rfl) (by rfl) ?_ hS ?_
    rotate_left; · intro wx hx; clear hx; go_simp; with_reducible rfl
    try simp only [tl]
    refine eT 1 ?_ [] rfl (by kernel_rfl) (by rfl) ?_ hS ?_
    rotate_left
    · intro wx hx
      have q0 := (hx ⟨w.heap.size + 1 + 1, 6, none⟩ (by show w.heap.size + 1 + 1 < _; omega)).trans e2
      clear hx
      go_simp
      with_reducible rfl
    try simp only [tl]
    refine eT 3 ?_ [4] rfl (by kernel_rfl) (by rfl) ?_ hS ?_
    rotate_left
    · intro wx hx
      have q0 := (hx ⟨g, 0, none⟩ pgl).trans pg
      clear hx
      go_simp
      with_reducible rfl
    try simp only [tl]
    refine eT 2 (.agg #[.int .i64 x1, .int .i64 y1, .slice z1 z2 z3]) [4] rfl (by kernel_rfl) (by rfl) ?_ hS ?_
    · intro wx hx
      exact run_load_at 25 (.tmp 8) rfl ⟨wr.heap.size, 0, none⟩ rfl #[.int .i64 x1, .int .i64 y1, .slice z1 z2 z3] _ (row_on D5.out.rowAt (by show wr.heap.size < _; omega) hx) Tryz.underlying25 rfl lv_size
    try simp only [tl]
    refine wpAnyE_one (i := 4) (by kernel_rfl) (by kernel_rfl) rfl (by rfl) fun K hK => ?_
    go_simp
    have hcall := linst_any ls[j] _ vs Av cv D W.drew ((hD.up hu).up huW).drew (hl3.old ((hD.up hu).old huW) (fun _ h => h)).drew (by rw [HM.out]; exact hvl) (HVS.out.old (hD.old (hu.trans huW.drew)) (fun _ h => h))
    rw [HM.out] at hcall
    refine hcall.mono ?_
    clear hcall
    rintro e w5 ⟨cs5, rfl, hl5, hb5⟩
    have hu4 : Upd nob W w5 := ((Upd.refl nob W).drew).trans (Upd.of_below hb5)
    have hu5 : Upd nob W (w5.alloc (.cells cs5 25)) := hu4.alloc _
    have hS : ∀ p : Addr, p.block < W.heap.size → w5.cell? p = W.cell? p := cells_of_upd hu4
    refine hK _ _ hS ?_
    clear hK K; try simp only [tl]
    refine wpAnyE_one (i := 5) (by kernel_rfl) (by kernel_rfl) rfl (by rfl) fun K hK => ?_
    refine owp_build1 23 25 (.tmp 42) rfl _ 3 40 Tryz.underlying23 lv_info (by decide) (by decide) cs5 rfl hl5.oneCell.1 ?_
    refine hK _ _ (cells_of_upd hu5) ?_
    clear hK K; try simp only [tl]
    have hEw : ∀ x, D x → x < wr.heap.size := fun x hx => by have := hD x hx; omega
    have hc5 : Coll lvR D (w.heap.size + 1 + 1 + 1) 25 (w5.alloc (.cells cs5 25)) (.slice sA j sc) ((ls.take j).map (fun l => linst l vs)) := (hc.upd huW (fun _ f => f.elim) hEw).upd hu5 (fun _ f => f.elim) (fun x h => by have := hEw x h; omega)
    have hin5 : Within (grow D W.drew w5) w5 := fun x hx => hx.elim (fun h => by have := hEw x h; have := hu4.size; omega) (fun h => h.2)
    have hl5' : LvIs (grow D W.drew w5) (w5.alloc (.cells cs5 25)) (linst ls[j] vs) cs5 := hl5.old (hin5.old ((Upd.refl nob w5).alloc _)) (fun _ h => h)
    have hD5 : ∀ x, grow D W.drew w5 x → cd D (w.heap.size + 1 + 1 + 1) (w5.alloc (.cells cs5 25)) (.slice sA j sc) x := fun x hx => by
     rcases hx with hx | hx
     · refine ⟨.inl hx, fun h => ?_⟩
       have := (hc.lt h).1
       have := hD x hx
       omega
     have h1 : W.heap.size ≤ x := hx.1
     have h2 := hx.2
     refine ⟨.inr ⟨by omega, by simp; omega⟩, fun h => ?_⟩
     have := (hc.lt h).2
     omega
    refine wpAnyE_z (by kernel_rfl) rfl (by rfl) fun K hK => ?_
    refine owp_collect (.tmp 39) (.tmp 43) 23 rfl _ 40 Tryz.underlying23 lv_info (by kernel_rfl) (by decide) rfl hc5 hED w5.heap.size cs5 (by rfl) (Blk.new _ _ _) (linst ls[j] vs) _ hl5' hD5 j HJ.out (by omega) (by omega) (by have := hu5.size; omega) ?_
    intro sA6 sc6 w6 hc6 hu6 hat6
    refine hK _ _ ?_
    clear hK K; try simp only [tl]
    refine wpAny_one (i := 7) (by kernel_rfl) rfl (by rfl) fun K hK => ?_
    go_simp
    refine hK _ _ ?_
    clear hK K; try simp only [tl]
    have huW6 : Upd (fun k => (Value.slice sA j sc).ownBlock = some k) W w6 := (hu5.mono (fun _ f => f.elim)).trans hu6
    have g2 : Blk w6 (w.heap.size + 1 + 1) 28 #[.int .i64 7, .int .i64 0, .string nm, .int .i64 0, .int .i64 0, .slice none 0 0, .slice sA j sc, .slice none 0 0] := D2.out.upd huW6 (fun h => by have := (hc.lt h).1; omega)
    have G2 := Lib.hid g2
    have g2c : w6.cell? ⟨w.heap.size + 1 + 1, 6, none⟩ = some (.slice sA j sc) := g2.cell 6
    have g2f := g2.frozen 6
    clear g2
    refine wpAny_one (i := 8) (by kernel_rfl) rfl (by rfl) fun K hK => ?_
    go_simp
    refine hK _ _ ?_
    clear hK K; try simp only [tl]
    refine wpAny_done (by kernel_rfl) ?_ _
    refine NoPanic.normal ?_
    go_wp2_with fail
    go_roundg (gk - 1)
    case measure => omega
    case rel =>
     have hmap : (ls.take (j + 1)).map (fun l => linst l vs) = (ls.take j).map (fun l => linst l vs) ++ [linst ls[j] vs] := map_take_succ _ _ _ hlt
     have hlt6 := fun g h => hc6.lt (g := g) h
     have hfin : Upd (fun x => (Value.slice sA j sc).ownBlock = some x ∨ x = w.heap.size + 1 + 1) wr (w6.setCell ⟨w.heap.size + 1 + 1, 6, none⟩ (.slice sA6 (j + 1) sc6)) :=
      ((huW.mono (fun _ f => f.elim)).trans (huW6.mono fun _ h => .inl h)).setCell (p := ⟨w.heap.size + 1 + 1, 6, none⟩) (.inl (.inr rfl)) _
     have hnot : ∀ x, x < w.heap.size + 1 + 1 → ¬ ((Value.slice sA j sc).ownBlock = some x ∨ x = w.heap.size + 1 + 1) := fun x hx h => by
      rcases h with h | h
      · have := (hc.lt h).1; omega
      omega
     refine ⟨j + 1, by have := HQ.out; omega, by simp, .slice sA6 (j + 1) sc6, C1.out.upd hfin (hnot _ (by omega)), ?_, ?_, ?_, ?_⟩
     · exact G2.out.set 6 _
     · rw [hmap]
       exact hc6.upd ((Upd.refl (fun x => x = w.heap.size + 1 + 1) w6).setCell (p := ⟨w.heap.size + 1 + 1, 6, none⟩) (.inl rfl) _) (fun x hx => ⟨by omega, fun h => by have := hD x h; omega⟩) (fun x h => by have := hD x h; have := hfin.size; simp at this; omega)
     · exact hu.trans' hfin (fun x hx h => hnot x (by omega) h)
     have := hfin.size; omega
 have e1 : (k == 1) = false := by simpa using h1
 have e2 : (k == 2) = false := by simpa using h2
 have e7 : (k == 7) = false := by simpa using h7
 have htn : ilF vs (.mk k n nm lv ls ks) i = .mk k 0 ByteArray.empty lzero' [] [] := by simp [ilF, Tm.k, h1, h2, h7]
 rw [htn]
 clear htn h1 h2 h7
 go_enter Tryz.func149, Tryz.ntmps149
 go_wp2
 refine bodyPost_ret (results_cell_row rfl _ _ (w.heap.size + 1) 28 #[.int .i64 k, .int .i64 0, .string ByteArray.empty, .int .i64 0, .int .i64 0, .slice none 0 0, .slice none 0 0, .slice none 0 0] (0, 0) _ rfl (second_blk _ _ _ _ _) Tryz.underlying28 rfl tm_size) rfl ?_
 exact ⟨_, rfl, TmIs.short _ _ hk hzI, ((((Upd.refl nob w).alloc _).alloc _).alloc _).below⟩
end Go.Proofs.YtiampoebdmflgaaGreat
/- term.InstLevels. -/
namespace Go.Proofs.YtiampoebdmflgaaGreat
open Go.RowKit
set_option linter.unusedVariables false
set_option maxRecDepth 100000
set_option maxHeartbeats 4000000
set_option linter.unusedSimpArgs false
theorem ilev_visit (D : Nat → Prop) (vs : List Lv) (Av : Option Addr) (cv g : Nat) (hvl : vs.length * 40 ≤ 140737488351232) :
    RVisit Tryz.prog 149 #[.pointer (some ⟨g, 0, none⟩)] D (fun W => Blk W g 23 #[.slice Av vs.length cv] ∧ LvsAt D W vs Av 0 ∧ Within D W) (ilF vs) where
 enter := fun _ _ => by go_simp
 keep := fun _ _ h hu => ⟨h.1.upd hu (fun f => f), h.2.1.old (h.2.2.old hu) (fun _ h => h), h.2.2.up hu⟩
 call := fun t cs i w _ hl hR hD h0 hi => ilev1_any t cs i vs Av cv g D w hD hl hR.1 hvl hR.2.1
def tIL (t : Tm) (vs : List Lv) : Tm := if tgreat t = true then tmz else treb (ilF vs) t 0
theorem tIL_any (t : Tm) (cs : Array Value) (vs : List Lv) (Av : Option Addr) (cv : Nat) (D : Nat → Prop) (w : World) (hD : Within D w) (hl : TmIs D w t cs) (hvl : vs.length * 40 ≤ 140737488351232) (hvs : LvsAt D w vs Av 0) :
    Calls Tryz.prog 120 #[.agg cs, .slice Av vs.length cv] w fun e w' => ∃ cs', e = .returned (.agg cs') ∧ TmIs (grow D w w') w' (tIL t vs) cs' ∧ Below w.heap.size w w' := by
 have hz := tm_zero
 have hs := hl.oneCell
 have hsi : (Tryz.prog.info? 28).map (·.size) = some cs.size := by rw [hs.1]; exact tm_size
 obtain ⟨X, hX⟩ : ∃ X, tIL t vs = X := ⟨_, rfl⟩
 rw [hX]
 have HX := Lib.hid hX; clear hX
 obtain ⟨M, hM⟩ : ∃ M, vs.length = M := ⟨_, rfl⟩
 rw [hM]
 have HM := Lib.hid hM
 clear hM
 obtain ⟨W1, hW1⟩ : ∃ W1, ((w.alloc (.cells cs 28)).alloc (.cells #[.slice Av M cv] 23)).alloc (.cells #[.int .i64 0, .int .i64 0, .string ByteArray.empty, .int .i64 0, .int .i64 0, .slice none 0 0, .slice none 0 0, .slice none 0 0] 28) = W1 := ⟨_, rfl⟩
 have huW1 : Upd nob w W1 := by rw [← hW1]; exact (((Upd.refl nob w).alloc _).alloc _).alloc _
 have hsW1 : W1.heap.size = w.heap.size + 3 := by rw [← hW1]; simp
 have b0 : Blk W1 (w.heap.size) 28 cs := by
  rw [← hW1]
  have h := Blk.new (w) 28 cs
  exact (h.alloc _).alloc _
 have b1 : Blk W1 (w.heap.size + 1) 23 #[.slice Av M cv] := by
  rw [← hW1]
  have h := Blk.new (w.alloc (.cells cs 28)) 23 #[.slice Av M cv]
  rw [World.size_alloc] at h
  exact h.alloc _
 have b2 : Blk W1 (w.heap.size + 1 + 1) 28 #[.int .i64 0, .int .i64 0, .string ByteArray.empty, .int .i64 0, .int .i64 0, .slice none 0 0, .slice none 0 0, .slice none 0 0] := by
  rw [← hW1]
  have h := Blk.new ((w.alloc (.cells cs 28)).alloc (.cells #[.slice Av M cv] 23)) 28 #[.int .i64 0, .int .i64 0, .string ByteArray.empty, .int .i64 0, .int .i64 0, .slice none 0 0, .slice none 0 0, .slice none 0 0]
  rw [World.size_alloc, World.size_alloc] at h
  exact h
 have HW1 := Lib.hid hW1
 have r0 := b0.rowAt
 have B0 := Lib.hid b0
 have B1 := Lib.hid b1
 have B2 := Lib.hid b2
 have hl1 := hl.old (hD.old huW1) (fun _ h => h)
 have hD1 := hD.up huW1
 have HV1 := Lib.hid (hvs.old (hD.old huW1) (fun _ h => h))
 clear hW1 b0 b1 b2
 go_enter Tryz.func120, Tryz.ntmps120
 rw [← HW1.out] at r0
 go_wp2_with (first
  | ((with_reducible refine this_op (.load 28 (.tmp 2)) ?_); refine wpList_at rfl 28 (.tmp 2) rfl ⟨w.heap.size, 0, none⟩ rfl _ _ r0 Tryz.underlying28 rfl hsi ?_))
 rw [HW1.out]
 refine (tgreat_any t cs D W1 hD1 hl1).mono ?_
 rintro e w2 ⟨rfl, hb2⟩
 have hu2 : Upd nob W1 w2 := Upd.of_below hb2
 have r2 := (B0.out.upd hu2 (fun f => f)).rowAt
 have C1 := B2.out.upd hu2 (fun f => f)
 have hl2 := hl1.old (hD1.old hu2) (fun _ h => h)
 clear r0
 cases hg : tgreat t with
 | true =>
  have HG := Lib.hid hg; clear hg
  go_wp2_with (first
   | ((with_reducible refine this_op (.store 28 (.tmp 4) (.tmp 7)) ?_); refine wpList_store_row rfl 28 (.tmp 4) (.tmp 7) rfl (w.heap.size + 1 + 1) _ rfl rfl 28 _ C1 tm_size rfl (by simp [Value.oneCell']) ?_))
  refine bodyPost_ret (results_cell_row rfl _ _ (w.heap.size + 1 + 1) 28 #[.int .i64 0, .int .i64 0, .string ByteArray.empty, .int .i64 0, .int .i64 0, .slice none 0 0, .slice none 0 0, .slice none 0 0] (0, 0) _ rfl (C1.row _) Tryz.underlying28 rfl tm_size) rfl ?_
  have hx : X = tmz := by rw [← HX.out, tIL, if_pos HG.out]
  rw [hx]
  exact ⟨_, rfl, res_tm hD huW1 hu2 (by omega) (by omega) (TmIs.short _ _ (by unfold InI; omega) (by unfold InI; omega))⟩
 | false =>
  have HG := Lib.hid hg; clear hg
  go_wp2_with (first
   | ((with_reducible refine this_op (.load 28 (.tmp 2)) ?_); refine wpList_at rfl 28 (.tmp 2) rfl ⟨w.heap.size, 0, none⟩ rfl _ _ r2 Tryz.underlying28 rfl hsi ?_))
  refine (treb_any (ilev_visit D vs Av cv (w.heap.size + 1) hvl) t cs 0 w2 hl2 ⟨by rw [HM.out]; exact B1.out.upd hu2 (fun f => f), HV1.out.old (hD1.old hu2) (fun _ h => h), hD1.up hu2⟩ (hD1.up hu2) (by omega) (by have := great_vh HG.out; omega)).mono ?_
  rintro e w3 ⟨cs3, rfl, hl3, hb3⟩
  have hu3 : Upd nob w2 w3 := Upd.of_below hb3
  have hs3 := hl3.oneCell
  have hsi3 : (Tryz.prog.info? 28).map (·.size) = some cs3.size := by rw [hs3.1]; exact tm_size
  have C3 := C1.upd hu3 (fun f => f)
  clear C1 r2
  go_wp2_with (first
   | ((with_reducible refine this_op (.store 28 (.tmp 4) (.tmp 10)) ?_); refine wpList_store_row rfl 28 (.tmp 4) (.tmp 10) rfl (w.heap.size + 1 + 1) _ rfl rfl 28 _ C3 hsi3 (by rw [hs3.1]; rfl) hs3.2 ?_))
  refine bodyPost_ret (results_cell_row rfl _ _ (w.heap.size + 1 + 1) 28 cs3 (0, 0) _ rfl (C3.row _) Tryz.underlying28 rfl hsi3) rfl ?_
  have hx : X = treb (ilF vs) t 0 := by rw [← HX.out, tIL, if_neg (by rw [HG.out]; decide)]
  rw [hx]
  have hsz2 := hu2.size
  exact ⟨cs3, rfl, res_tm hD (huW1.trans hu2) hu3 (by omega) (by omega) hl3⟩
end Go.Proofs.YtiampoebdmflgaaGreat
