/- Texts put one behind the other: Zment, Ctor, Shof. -/
import Derived.Test.YtiampoebdmflgaaSn6
/- The reference's Mentions. -/
namespace Go.Proofs.Ytiampoebdmflgaa
open Go.RowKit
set_option linter.unusedVariables false
set_option maxRecDepth 100000
set_option maxHeartbeats 4000000
set_option linter.unusedSimpArgs false
theorem Coll.row_at2 {α : Type} {n : Nat} {R : Reading α n} {E : Nat → Prop} {base : Nat} {e : TypeId} {w : World} {v : Value} {ls : List α} (h : Coll R E base e w v ls) : ∃ A c, v = .slice A ls.length c ∧ ls.length ≤ c ∧
    ∀ (j : Nat) l, ls[j]? = some l → ∃ a cs, A = some a ∧ (base ≤ a.block ∧ a.block < w.heap.size) ∧ rowAt w (a.add (j * n)) cs ∧ R.is (fun x => E x ∨ (base ≤ x ∧ x < w.heap.size)) w l cs := by
 obtain ⟨rows, hr, hrr⟩ := h.rows
 obtain ⟨A, c, hv, hcp⟩ := hr.form
 refine ⟨A, c, by rw [hv, ← hrr.1], by rw [← hrr.1]; exact hcp, fun j l hj => ?_⟩
 have hjl : j < rows.length := by have := (List.getElem?_eq_some_iff.1 hj).1; rw [hrr.1]; exact this
 obtain ⟨g, cap, hv2, hrow⟩ := hr.at_ hjl
 have hA : A = some ⟨g, 0, none⟩ := by rw [hv] at hv2; injection hv2
 have hlt := hr.lt (g := g) (by rw [hv2]; rfl)
 exact ⟨⟨g, 0, none⟩, rows[j], hA, hlt, hrow, R.old (Old.refl _ _) (fun k hk => hk.1) (hrr.2 j l rows[j] hj (List.getElem?_eq_getElem hjl))⟩
def isCon (nm : ByteArray) (x : Tm × Int) : Bool := decide (x.1.k = 7) && (x.1.nm.toList == nm.toList)
def rment (t : Tm) (nm : ByteArray) : Bool := !rgreat t && (rends t 0).any (isCon nm)
theorem rment_any (t : Tm) (nm : ByteArray) (cs : Array Value) (D : Nat → Prop) (w : World) (hD : Within D w) (hl : TmIs D w t cs) (hh : t.height ≤ 4000000000000) :
    Calls Try.prog 16 #[.agg cs, .string nm] w fun e w' => e = .returned (.bool (rment t nm)) ∧ Below w.heap.size w w' := by
 have hz := en_zero
 have hs := hl.oneCell
 have hsi : (Try.prog.info? 27).map (·.size) = some cs.size := by rw [hs.1]; exact tm_size
 obtain ⟨X, hX⟩ : ∃ X, rment t nm = X := ⟨_, rfl⟩
 rw [hX]
 have HX := Lib.hid hX; clear hX
 obtain ⟨W1, hW1⟩ : ∃ W1, w.alloc (.cells cs 27) = W1 := ⟨_, rfl⟩
 have huW1 : Upd nob w W1 := by rw [← hW1]; exact (Upd.refl nob w).alloc _
 have hsW1 : W1.heap.size = w.heap.size + 1 := by rw [← hW1]; simp
 have bk0 : Blk W1 (w.heap.size) 27 cs := by
  rw [← hW1]
  have h := Blk.new (w) 27 cs
  exact h
 have hl1 := hl.old (hD.old huW1) (fun _ h => h)
 have hD1 := hD.up huW1
 have r0 := bk0.rowAt
 have HB0 := Lib.hid bk0
 have HW1 := Lib.hid hW1
 rw [← hW1] at r0
 have HL1 := Lib.hid hl1
 clear hW1 bk0 hl hl1
 go_enter Try.func16, Try.ntmps16
 go_wp2_with (first
       | ((with_reducible refine this_op (.load 27 (.tmp 2)) ?_); refine wpList_at rfl 27 (.tmp 2) rfl ⟨w.heap.size, 0, none⟩ rfl _ _ r0 Try.underlying27 rfl hsi ?_))
 rw [HW1.out]
 refine (rgreat_any t cs D W1 hD1 HL1.out).mono ?_
 rintro e w2 ⟨rfl, hb2⟩
 have hu2 : Upd nob W1 w2 := Upd.of_below hb2
 have hw2s := hu2.size
 have r2 := (HB0.out.upd hu2 (fun f => f)).rowAt
 have hl2 := HL1.out.old (hD1.old hu2) (fun _ h => h)
 have hD2 := hD1.up hu2
 have hu02 := huW1.trans hu2
 clear r0
 cases hg : rgreat t with
 | true =>
  have hx : X = false := by rw [← HX.out, rment, hg]; rfl
  subst hx
  clear HX hg
  go_wp2_with fail
  go_ret
  exact ⟨rfl, hu02.below⟩
 | false =>
  have hsz := rgreat_sz hg
  have hx : (rends t 0).any (isCon nm) = X := by rw [← HX.out, rment, hg]; rfl
  have hrl := rends_len t 0
  obtain ⟨es, hes⟩ : ∃ l, rends t 0 = l := ⟨_, rfl⟩
  rw [hes] at hx hrl
  have HX2 := Lib.hid hx
  have HES := Lib.hid hes
  clear hg HX hx hes
  go_wp2_with (first
          | ((with_reducible refine this_op (.load 27 (.tmp 2)) ?_); refine wpList_at rfl 27 (.tmp 2) rfl ⟨w.heap.size, 0, none⟩ rfl _ _ r2 Try.underlying27 rfl hsi ?_))
  refine (rends_any t cs D 0 w2.heap.size (.slice none 0 0) [] w2 hl2 hD2 (Nat.le_refl _) Coll.nil_ (by omega) (by omega) (by simp; omega)).mono ?_
  rintro e w3 ⟨v3, rfl, hc3, hu3, _⟩
  rw [HES.out, List.nil_append] at hc3
  have hu23 : Upd nob w2 w3 := hu3.mono (fun q h => by simp [Value.ownBlock] at h)
  have hw3s := hu23.size
  obtain ⟨vA, vc, hv, hvc, hrows⟩ := hc3.row_at2
  subst hv
  have HROWS := Lib.hid hrows
  have hu03 := hu02.trans hu23
  obtain ⟨q, hq⟩ : ∃ q, es.length = q := ⟨_, rfl⟩
  have HQ := Lib.hid hq
  rw [hq] at hrl ⊢
  clear hrows hc3 hq
  go_wp2_with fail
  go_loopg [5, 13] q (fun m v5 v13 wr => ∃ (j : Nat) (b : Bool), j + m = q ∧ v13 = .int .i64 j ∧ v5 = .bool b ∧ (b || (es.drop j).any (isCon nm)) = X ∧ Upd nob w3 wr)
  case atStart => exact ⟨0, false, by omega, rfl, rfl, by rw [List.drop_zero, Bool.false_or]; exact HX2.out, Upd.refl _ _⟩
  case round =>
   clear HX2
   obtain ⟨j, b, hj, rfl, rfl, hbx, hus⟩ := hrel
   have HBX := Lib.hid hbx
   clear hbx
   by_cases hlt : j < q
   · have t2 : decide ((j : Int) < q) = true := by simp [hlt]
     have hjn : j < es.length := by rw [HQ.out]; exact hlt
     obtain ⟨a, csj, hA, hab, hrow, hen⟩ := HROWS.out j _ (List.getElem?_eq_getElem hjn)
     obtain ⟨⟨tj, d⟩, htj⟩ : ∃ y, es[j] = y := ⟨_, rfl⟩
     rw [htj] at hen
     obtain ⟨ct, hct, htm⟩ := hen
     have hdr : es.drop j = es[j] :: es.drop (j + 1) := List.drop_eq_getElem_cons hjn
     have hbx := HBX.out
     rw [hdr, htj, List.any_cons, isCon] at hbx
     obtain ⟨x, y, z, A, c, A', c', hlit, _, _, _, _, _, _, _, _⟩ := htm.lit
     obtain ⟨k, hk⟩ : ∃ k, tj.k = k := ⟨_, rfl⟩
     obtain ⟨m, hm⟩ : ∃ m, tj.nm = m := ⟨_, rfl⟩
     obtain ⟨n, hn⟩ : ∃ n, tj.n = n := ⟨_, rfl⟩
     obtain ⟨lsn, hlsn⟩ : ∃ n, tj.ls.length = n := ⟨_, rfl⟩
     obtain ⟨ksn, hksn⟩ : ∃ n, tj.ks.length = n := ⟨_, rfl⟩
     simp only at hbx hct
     have hct1 := hct
     rw [hk, hm] at hbx
     rw [hlit, hk, hm, hn, hlsn, hksn] at hct
     have hct2 : csj = #[.int .i64 k, .int .i64 n, .string m, x, y, z, .slice A lsn c, .slice A' ksn c', .int .i64 d] := by rw [hct]; rfl
     have hone : csj.all (·.oneCell') = true := by rw [hct1]; exact (EnIs.cells ⟨ct, rfl, htm⟩ : _ ∧ _).2
     subst hct2
     have HONE := Lib.hid hone
     clear hone hct1
     have hrow' : rowAt wr (a.add (j * 9)) #[.int .i64 k, .int .i64 n, .string m, x, y, z, .slice A lsn c, .slice A' ksn c', .int .i64 d] := fun i v hv => (hus.cell (by rw [Addr_add_block, Addr_add_block]; exact hab.2) (fun f => f)).trans (hrow i v hv)
     have HA := Lib.hid hA
     have HBX2 := Lib.hid hbx
     clear hA hct hlit hdr hbx htj hk hm hn hlsn hksn HBX hrow htm
     have fin : ∀ (W9 : World) (b' : Bool), (b' || (es.drop (j + 1)).any (isCon nm)) = X → Upd nob wr W9 → ∃ (j' : Nat) (b : Bool), j' + (gk - 1) = q ∧ Value.int IntKind.i64 ((j : Int) + 1) = .int .i64 j' ∧ Value.bool b' = .bool b ∧ (b || (es.drop j').any (isCon nm)) = X ∧ Upd nob w3 W9 := fun W9 b' h1 h2 => ⟨j + 1, b', by omega, by go_num, rfl, h1, hus.trans h2⟩
     have hone : (#[.int .i64 k, .int .i64 n, .string m, x, y, z, .slice A lsn c, .slice A' ksn c', .int .i64 d]).all (·.oneCell') = true := HONE.out
     have FIN := Lib.hid fin
     clear fin
     cases b with
     | true =>
      have hbx := HBX2.out
      rw [Bool.true_or] at hbx
      have HB3 : Hid ((true || (es.drop (j + 1)).any (isCon nm)) = X) := Lib.hid (by rw [Bool.true_or]; exact hbx)
      clear hbx HBX2
      go_wp2_with (first
                    | ((with_reducible refine this_op (.indexAddr 98 (.tmp 11) (.tmp 13)) ?_); refine wpList_index_at rfl 98 (.tmp 11) (.tmp 13) rfl _ a _ _ rfl HA.out j rfl hlt 101 Try.underlying98 9 en_size ?_)
                    | ((with_reducible refine this_op (.load 101 (.tmp 15)) ?_); refine wpList_at rfl 101 (.tmp 15) rfl (a.add (j * 9)) rfl _ _ hrow' Try.underlying101 rfl en_size ?_)
                    | ((with_reducible refine this_op (.store 101 (.tmp 7) (.tmp 16)) ?_); refine wpList_store_row rfl 101 (.tmp 7) (.tmp 16) rfl wr.heap.size _ rfl rfl 101 _ (Blk.new wr _ _) en_size rfl hone ?_
                       obtain ⟨W7, hW7⟩ : ∃ W7, (wr.alloc (.cells #[.int .i64 0, .int .i64 0, .string ByteArray.empty, .int .i64 0, .int .i64 0, .slice none 0 0, .slice none 0 0, .slice none 0 0, .int .i64 0] 101)).setRow wr.heap.size #[.int .i64 k, .int .i64 n, .string m, x, y, z, .slice A lsn c, .slice A' ksn c', .int .i64 d] = W7 := ⟨_, rfl⟩
                       have hu7 : Upd nob wr W7 := by rw [← hW7]; exact ((Upd.refl nob wr).alloc _).setRow (.inr (Nat.le_refl _)) _
                       have hb7 : Blk W7 wr.heap.size 101 #[.int .i64 k, .int .i64 n, .string m, x, y, z, .slice A lsn c, .slice A' ksn c', .int .i64 d] := by rw [← hW7]; exact (Blk.new wr _ _).row _
                       rw [hW7]
                       clear hW7
                       have s0 : W7.cell? ⟨wr.heap.size, 0, none⟩ = some (.int .i64 k) := hb7.cell 0
                       have s2 : W7.cell? ⟨wr.heap.size, 2, none⟩ = some (.string m) := hb7.cell 2
                       clear hb7))
      go_roundg (gk - 1)
      case measure => omega
      case rel => exact FIN.out _ _ HB3.out hu7
     | false =>
      have hbx := HBX2.out
      rw [Bool.false_or] at hbx
      by_cases hk7 : k = 7
      · subst hk7
        have e : (decide ((7 : Int) = 7) && (m.toList == nm.toList)) = (m.toList == nm.toList) := by simp
        rw [e] at hbx
        have HB3 := Lib.hid hbx
        clear hbx HBX2 e
        go_wp2_with (first
                        | ((with_reducible refine this_op (.indexAddr 98 (.tmp 11) (.tmp 13)) ?_); refine wpList_index_at rfl 98 (.tmp 11) (.tmp 13) rfl _ a _ _ rfl HA.out j rfl hlt 101 Try.underlying98 9 en_size ?_)
                        | ((with_reducible refine this_op (.load 101 (.tmp 15)) ?_); refine wpList_at rfl 101 (.tmp 15) rfl (a.add (j * 9)) rfl _ _ hrow' Try.underlying101 rfl en_size ?_)
                        | ((with_reducible refine this_op (.store 101 (.tmp 7) (.tmp 16)) ?_); refine wpList_store_row rfl 101 (.tmp 7) (.tmp 16) rfl wr.heap.size _ rfl rfl 101 _ (Blk.new wr _ _) en_size rfl hone ?_
                           obtain ⟨W7, hW7⟩ : ∃ W7, (wr.alloc (.cells #[.int .i64 0, .int .i64 0, .string ByteArray.empty, .int .i64 0, .int .i64 0, .slice none 0 0, .slice none 0 0, .slice none 0 0, .int .i64 0] 101)).setRow wr.heap.size #[.int .i64 7, .int .i64 n, .string m, x, y, z, .slice A lsn c, .slice A' ksn c', .int .i64 d] = W7 := ⟨_, rfl⟩
                           have hu7 : Upd nob wr W7 := by rw [← hW7]; exact ((Upd.refl nob wr).alloc _).setRow (.inr (Nat.le_refl _)) _
                           have hb7 : Blk W7 wr.heap.size 101 #[.int .i64 7, .int .i64 n, .string m, x, y, z, .slice A lsn c, .slice A' ksn c', .int .i64 d] := by rw [← hW7]; exact (Blk.new wr _ _).row _
                           rw [hW7]
                           clear hW7
                           have s0 : W7.cell? ⟨wr.heap.size, 0, none⟩ = some (.int .i64 7) := hb7.cell 0
                           have s2 : W7.cell? ⟨wr.heap.size, 2, none⟩ = some (.string m) := hb7.cell 2
                           clear hb7))
        go_roundg (gk - 1)
        case measure => omega
        case rel => exact FIN.out _ _ HB3.out hu7
      have e : (decide (k = 7) && (m.toList == nm.toList)) = false := by simp [hk7]
      rw [e] at hbx
      have HB3 := Lib.hid hbx
      have t7 : (k == 7) = false := by simpa using hk7
      clear hbx HBX2 e hk7
      go_wp2_with (first
                      | ((with_reducible refine this_op (.indexAddr 98 (.tmp 11) (.tmp 13)) ?_); refine wpList_index_at rfl 98 (.tmp 11) (.tmp 13) rfl _ a _ _ rfl HA.out j rfl hlt 101 Try.underlying98 9 en_size ?_)
                      | ((with_reducible refine this_op (.load 101 (.tmp 15)) ?_); refine wpList_at rfl 101 (.tmp 15) rfl (a.add (j * 9)) rfl _ _ hrow' Try.underlying101 rfl en_size ?_)
                      | ((with_reducible refine this_op (.store 101 (.tmp 7) (.tmp 16)) ?_); refine wpList_store_row rfl 101 (.tmp 7) (.tmp 16) rfl wr.heap.size _ rfl rfl 101 _ (Blk.new wr _ _) en_size rfl hone ?_
                         obtain ⟨W7, hW7⟩ : ∃ W7, (wr.alloc (.cells #[.int .i64 0, .int .i64 0, .string ByteArray.empty, .int .i64 0, .int .i64 0, .slice none 0 0, .slice none 0 0, .slice none 0 0, .int .i64 0] 101)).setRow wr.heap.size #[.int .i64 k, .int .i64 n, .string m, x, y, z, .slice A lsn c, .slice A' ksn c', .int .i64 d] = W7 := ⟨_, rfl⟩
                         have hu7 : Upd nob wr W7 := by rw [← hW7]; exact ((Upd.refl nob wr).alloc _).setRow (.inr (Nat.le_refl _)) _
                         have hb7 : Blk W7 wr.heap.size 101 #[.int .i64 k, .int .i64 n, .string m, x, y, z, .slice A lsn c, .slice A' ksn c', .int .i64 d] := by rw [← hW7]; exact (Blk.new wr _ _).row _
                         rw [hW7]
                         clear hW7
                         have s0 : W7.cell? ⟨wr.heap.size, 0, none⟩ = some (.int .i64 k) := hb7.cell 0
                         have s2 : W7.cell? ⟨wr.heap.size, 2, none⟩ = some (.string m) := hb7.cell 2
                         clear hb7))
      go_roundg (gk - 1)
      case measure => omega
      case rel => exact FIN.out _ _ HB3.out hu7
   have t2 : decide ((j : Int) < q) = false := by simp; omega
   have hbx := HBX.out
   rw [List.drop_eq_nil_of_le (by rw [HQ.out]; omega)] at hbx
   have e : b = X := by simpa using hbx
   subst e
   go_wp2_with fail
   go_ret
   exact ⟨rfl, (hu03.trans hus).below⟩
end Go.Proofs.Ytiampoebdmflgaa
/- shape's former.ctor. -/
namespace Go.Proofs.Ytiampoebdmflgaa
open Go.RowKit
set_option linter.unusedVariables false
set_option maxRecDepth 100000
set_option maxHeartbeats 4000000
set_option linter.unusedSimpArgs false
def allSame : List Tm → List Tm → Bool
 | a :: l, b :: r => tSame a b && allSame l r
 | _, _ => true
def ctorF (nm : ByteArray) (p idx : Nat) (itself : Tm) : Nat → List (Int × Int) → List Tm → (Int × List (Int × Int)) × Int
 | i, sl, [] => (((i : Int), sl), 0)
 | i, sl, a :: l =>
  if tment a nm = true then
   (if ((trow a).1.any fun t => tment t nm) = true then ((0, []), 15)
    else if (tends nm p idx itself (trow a).2 ((p : Int) + i + (trow a).1.length - 1)).1 = false then ((0, []), 15)
    else if (tends nm p idx itself (trow a).2 ((p : Int) + i + (trow a).1.length - 1)).2 = true then ((0, []), 15)
    else ctorF nm p idx itself (i + 1) (sl ++ [((i : Int), ((trow a).1.length : Int))]) l)
  else ctorF nm p idx itself (i + 1) sl l
def tctor (nm : ByteArray) (p idx : Nat) (itself : Tm) (fdoms : List Tm) (t : Tm) : (Int × List (Int × Int)) × Int :=
 if (trow t).1.length < p then ((0, []), 14)
 else if allSame ((trow t).1.take p) fdoms = false then ((0, []), 14)
 else if (tends nm p idx itself (trow t).2 ((trow t).1.length - 1)).1 = false then ((0, []), 14)
 else if (tends nm p idx itself (trow t).2 ((trow t).1.length - 1)).2 = true then ((0, []), 15)
 else ctorF nm p idx itself 0 [] ((trow t).1.drop p)
theorem rowF_le : ∀ (n : Nat) (t : Tm) (acc : List Tm), (rowF n t acc).1.length ≤ acc.length + n
 | 0, _, _ => Nat.le_refl _
 | n + 1, t, acc => by
  rw [rowF]
  split
  · split
    · rename_i d b r h
      have := rowF_le n b (acc ++ [d])
      simp at this; omega
    simp only; omega
  simp only; omega
theorem rowF_mem : ∀ (n : Nat) (t : Tm) (acc : List Tm) (x : Tm), x ∈ (rowF n t acc).1 → x ∈ acc ∨ x.height ≤ t.height
 | 0, _, _, _, h => .inl h
 | n + 1, t, acc, x, h => by
  rw [rowF] at h
  split at h
  · split at h
    · rename_i d b r hks
      obtain ⟨k, nn, nm, lv, ls, ks⟩ := t
      simp only [Tm.ks] at hks
      subst hks
      have hd : d.height ≤ Tm.heights (d :: b :: r) := Tm.height_mem (by simp)
      have hb : b.height ≤ Tm.heights (d :: b :: r) := Tm.height_mem (by simp)
      simp only [Tm.height]
      rcases rowF_mem n b (acc ++ [d]) x h with h1 | h1
      · rcases List.mem_append.1 h1 with h1 | h1
        · exact .inl h1
        rw [List.mem_singleton.1 h1]; exact .inr (by omega)
      exact .inr (by omega)
    exact .inl h
  exact .inl h
theorem trow_le (t : Tm) : (trow t).1.length ≤ t.height := by have := rowF_le t.height t []; simpa [trow] using this
theorem trow_mem {t x : Tm} (h : x ∈ (trow t).1) : x.height ≤ t.height := (rowF_mem t.height t [] x h).elim (fun h => by simp at h) id
def fdR : Reading (Int × Int) 2 := ⟨fun _ _ x cs => cs = #[.int .i64 x.1, .int .i64 x.2], fun _ _ h => h, fun h => by subst h; exact ⟨rfl, by simp [Value.oneCell']⟩⟩
theorem Coll.row_at {α : Type} {n : Nat} {R : Reading α n} {E : Nat → Prop} {base : Nat} {e : TypeId} {w : World} {v : Value} {ls : List α} (h : Coll R E base e w v ls) : ∃ A c, v = .slice A ls.length c ∧ ls.length ≤ c ∧
    ∀ (j : Nat) l, ls[j]? = some l → ∃ a cs, A = some a ∧ (base ≤ a.block ∧ a.block < w.heap.size) ∧ rowAt w (a.add (j * n)) cs ∧ R.is (fun x => E x ∨ (base ≤ x ∧ x < w.heap.size)) w l cs := by
 obtain ⟨rows, hr, hrr⟩ := h.rows
 obtain ⟨A, c, hv, hcp⟩ := hr.form
 refine ⟨A, c, by rw [hv, ← hrr.1], by rw [← hrr.1]; exact hcp, fun j l hj => ?_⟩
 have hjl : j < rows.length := by have := (List.getElem?_eq_some_iff.1 hj).1; rw [hrr.1]; exact this
 obtain ⟨g, cap, hv2, hrow⟩ := hr.at_ hjl
 have hA : A = some ⟨g, 0, none⟩ := by rw [hv] at hv2; injection hv2
 have hlt := hr.lt (g := g) (by rw [hv2]; rfl)
 exact ⟨⟨g, 0, none⟩, rows[j], hA, hlt, hrow, R.old (Old.refl _ _) (fun k hk => hk.1) (hrr.2 j l rows[j] hj (List.getElem?_eq_getElem hjl))⟩
def CsIs (D : Nat → Prop) (w : World) (x : Int × List (Int × Int)) (cs : Array Value) : Prop :=
 ∃ A c, cs = #[.int .i64 x.1, .slice A x.2.length c] ∧ ∀ (j : Nat) y, x.2[j]? = some y → ∃ a : Addr, A = some a ∧ D a.block ∧ rowAt w (a.add (j * 2)) #[.int .i64 y.1, .int .i64 y.2]
theorem CsIs.old {D D' : Nat → Prop} {w w' : World} {x : Int × List (Int × Int)} {cs : Array Value} (h : CsIs D w x cs) (ho : Old D w w') (hD : ∀ k, D k → D' k) : CsIs D' w' x cs := by
 obtain ⟨A, c, h1, h2⟩ := h
 refine ⟨A, c, h1, fun j y hy => ?_⟩
 obtain ⟨a, g1, g2, g3⟩ := h2 j y hy
 exact ⟨a, g1, hD _ g2, g3.old ho (by rw [Addr_add_block]; exact g2)⟩
def csR : Reading (Int × List (Int × Int)) 2 := ⟨CsIs, fun ho hD h => h.old ho hD, fun h => by obtain ⟨A, c, rfl, _⟩ := h; exact ⟨rfl, by simp [Value.oneCell']⟩⟩
theorem cs_size : (Try.prog.info? 50).map (·.size) = some 2 := by kernel_rfl
theorem cs_zero (w : World) : (zeroValue 50).run Try.prog w = .ok (.agg #[.int .i64 0, .slice none 0 0]) w := by kernel_rfl
theorem fd_info : (Try.prog.info? 52).map (fun i => (i.zero, i.size, i.bytes)) = some (some (.agg #[.int .i64 0, .int .i64 0]), 2, 16) := by kernel_rfl
set_option maxHeartbeats 8000000 in
theorem tctor_any (t : Tm) (cs : Array Value) (D : Nat → Prop) (w : World) (fb : Nat) (nm : ByteArray) (p idx : Nat) (itself : Tm) (fdoms : List Tm) (hD : Within D w) (hl : TmIs D w t cs) (hf : FIs D w fb nm p itself fdoms idx)
    (hpd : p ≤ fdoms.length) (hfl : fdoms.length ≤ 140737488351232) (hi : idx ≤ 140737488351232) (ht : t.height * 120 ≤ 140737488351232) :
    Calls Try.prog 39 #[.pointer (some ⟨fb, 0, none⟩), .agg cs] w fun e w' =>
     ∃ cs', e = .returned (.tuple #[.agg cs', .int .i64 (tctor nm p idx itself fdoms t).2]) ∧ CsIs (fresh w w') w' (tctor nm p idx itself fdoms t).1 cs' ∧ Below w.heap.size w w' := by
 have hz := tm_zero
 have hz2 := cs_zero
 have hs := hl.oneCell
 have hsi : (Try.prog.info? 27).map (·.size) = some cs.size := by rw [hs.1]; exact tm_size
 have HHT : Hid (∀ a, a ∈ (trow t).1 → a.height * 120 ≤ 140737488351232) := Lib.hid (fun a h => by have := trow_mem h; omega)
 have hlen := trow_le t
 obtain ⟨⟨⟨X1, X2⟩, X3⟩, hX⟩ : ∃ X, tctor nm p idx itself fdoms t = X := ⟨_, rfl⟩
 rw [hX]
 have HX := Lib.hid hX; clear hX
 obtain ⟨W1, hW1⟩ : ∃ W1, ((w.alloc (.cells cs 27)).alloc (.cells #[.int .i64 0, .slice none 0 0] 50)).alloc (.cells #[.int .i64 0, .slice none 0 0] 50) = W1 := ⟨_, rfl⟩
 have huW1 : Upd nob w W1 := by rw [← hW1]; exact (((Upd.refl nob w).alloc _).alloc _).alloc _
 have hsW1 : W1.heap.size = w.heap.size + 3 := by rw [← hW1]; simp
 have bk0 : Blk W1 (w.heap.size) 27 cs := by
  rw [← hW1]
  have h := Blk.new (w) 27 cs
  exact (h.alloc _).alloc _
 have bk1 : Blk W1 (w.heap.size + 1) 50 #[.int .i64 0, .slice none 0 0] := by
  rw [← hW1]
  have h := Blk.new (w.alloc (.cells cs 27)) 50 #[.int .i64 0, .slice none 0 0]
  rw [World.size_alloc] at h
  exact h.alloc _
 have bk2 : Blk W1 (w.heap.size + 1 + 1) 50 #[.int .i64 0, .slice none 0 0] := by
  rw [← hW1]
  have h := Blk.new ((w.alloc (.cells cs 27)).alloc (.cells #[.int .i64 0, .slice none 0 0] 50)) 50 #[.int .i64 0, .slice none 0 0]
  rw [World.size_alloc, World.size_alloc] at h
  exact h
 have hl1 := hl.old (hD.old huW1) (fun _ h => h)
 have hf1 := hf.upd huW1 (fun f => f) (hD.old huW1) (fun _ h => h)
 have hD1 := hD.up huW1
 have hfw := hf.lt
 have r0 := bk0.rowAt
 have HK1 := Lib.hid bk1
 have HK2 := Lib.hid bk2
 clear hl hf bk0 bk1 bk2
 have HW1 := Lib.hid hW1; clear hW1
 go_enter Try.func39, Try.ntmps39
 rw [← HW1.out] at r0
 go_wp2_with (first
       | ((with_reducible refine this_op (.load 27 (.tmp 3)) ?_); refine wpList_at rfl 27 (.tmp 3) rfl ⟨w.heap.size, 0, none⟩ rfl _ _ r0 Try.underlying27 rfl hsi ?_))
 rw [HW1.out]
 clear r0 HW1
 refine (trow_any t cs D W1 hD1 hl1 (by omega)).mono ?_
 rintro e w2 ⟨cs2, A, c, rfl, hl2, hlc, hat2, hb2⟩
 have hu2 : Upd nob W1 w2 := Upd.of_below hb2
 have hf2 := hf1.upd hu2 (fun f => f) (hD1.old hu2) (fun _ h => h)
 have HX2 := HX.out
 unfold tctor at HX2
 obtain ⟨⟨ds, rs⟩, hsp⟩ : ∃ x, trow t = x := ⟨_, rfl⟩
 have HHT2 := HHT.out
 rw [hsp] at HX2 HHT2 hl2 hlc hat2 hlen ⊢
 simp only at HX2 HHT2 hl2 hlc hat2 hlen
 have HX3 := Lib.hid HX2
 have HHT3 := Lib.hid HHT2
 clear hsp HX2 HX HHT HHT2 hl1 hf1
 obtain ⟨n, hn⟩ : ∃ n, ds.length = n := ⟨_, rfl⟩
 rw [hn] at hlc hlen
 have HN := Lib.hid hn
 have hs2 := hl2.oneCell
 have hsi2 : (Try.prog.info? 27).map (·.size) = some cs2.size := by rw [hs2.1]; exact tm_size
 have HL2 := Lib.hid hl2
 have HAT2 := Lib.hid hat2
 have HF2 := Lib.hid hf2
 clear hl2 hat2 hf2
 simp only []
 rw [hn]
 clear hn
 by_cases hlp : n < p
 · have t1 : decide ((n : Int) < (p : Int)) = true := by simp; omega
   have hx := HX3.out
   rw [HN.out, if_pos hlp] at hx
   injection hx with hx1 hx3
   injection hx1 with hx1 hx2
   subst hx1 hx2 hx3
   clear HX3
   go_wp2_with (first
           | ((with_reducible refine this_op (.store 27 (.tmp 8) (.tmp 23)) ?_); refine wpList_store_row rfl 27 (.tmp 8) (.tmp 23) rfl w2.heap.size _ rfl rfl 27 _ (Blk.new w2 _ _) hsi2 (by rw [hs2.1]; rfl) hs2.2 ?_
              obtain ⟨W3, hW3⟩ : ∃ W3, (w2.alloc (.cells #[.int .i64 0, .int .i64 0, .string ByteArray.empty, .int .i64 0, .int .i64 0, .slice none 0 0, .slice none 0 0, .slice none 0 0] 27)).setRow w2.heap.size cs2 = W3 := ⟨_, rfl⟩
              have hu3 : Upd nob w2 W3 := by rw [← hW3]; exact ((Upd.refl nob w2).alloc _).setRow (.inr (Nat.le_refl _)) _
              have hb3 : Blk W3 w2.heap.size 27 cs2 := by rw [← hW3]; exact (Blk.new w2 _ _).row _
              rw [hW3]
              clear hW3
              have p19 : W3.cell? ⟨fb, 19, none⟩ = some (.int .i64 p) := (hu3.cell HF2.out.lt (fun f => f)).trans HF2.out.par
              have HB3 := Lib.hid hb3
              have u1 := (HK1.out.upd hu2 (fun f => f)).upd hu3 (fun f => f)
              have u2 := (HK2.out.upd hu2 (fun f => f)).upd hu3 (fun f => f)
              have U1 := Lib.hid u1
              have U2 := Lib.hid u2
              have r6 := u2.rowAt
              clear hb3 u1 u2)
           | ((with_reducible refine this_op (.load 50 (.tmp 6)) ?_); refine wpList_at rfl 50 (.tmp 6) rfl ⟨w.heap.size + 1 + 1, 0, none⟩ rfl _ _ r6 Try.underlying50 rfl cs_size ?_)
           | ((with_reducible refine this_op (.store 50 (.tmp 4) (.tmp 32)) ?_); refine wpList_store_row rfl 50 (.tmp 4) (.tmp 32) rfl (w.heap.size + 1) _ rfl rfl 50 _ U1.out cs_size rfl (by simp [Value.oneCell']) ?_))
   refine bodyPost_ret (results_cell_tmp rfl _ _ (w.heap.size + 1) 50 #[.int .i64 0, .slice none 0 0] (0, 0) _ (.int .i64 14) rfl rfl (U1.out.row _) Try.underlying50 rfl cs_size) rfl ?_
   exact ⟨_, rfl, ⟨none, 0, rfl, fun j y h => by simp at h⟩, (((huW1.trans hu2).trans hu3).trans' ((Upd.refl (fun q => q = w.heap.size + 1) _).setRow (.inl rfl) _) (fun q hq h => by omega)).below⟩
 have t1 : decide ((n : Int) < (p : Int)) = false := by simp; omega
 have hx := HX3.out
 rw [HN.out, if_neg hlp] at hx
 have HX4 := Lib.hid hx
 clear hx HX3
 have hpc : p ≤ c := by omega
 have hpn : p ≤ n := by omega
 go_wp2_with (first
         | ((with_reducible refine this_op (.store 27 (.tmp 8) (.tmp 23)) ?_); refine wpList_store_row rfl 27 (.tmp 8) (.tmp 23) rfl w2.heap.size _ rfl rfl 27 _ (Blk.new w2 _ _) hsi2 (by rw [hs2.1]; rfl) hs2.2 ?_
            obtain ⟨W3, hW3⟩ : ∃ W3, (w2.alloc (.cells #[.int .i64 0, .int .i64 0, .string ByteArray.empty, .int .i64 0, .int .i64 0, .slice none 0 0, .slice none 0 0, .slice none 0 0] 27)).setRow w2.heap.size cs2 = W3 := ⟨_, rfl⟩
            have hu3 : Upd nob w2 W3 := by rw [← hW3]; exact ((Upd.refl nob w2).alloc _).setRow (.inr (Nat.le_refl _)) _
            have hb3 : Blk W3 w2.heap.size 27 cs2 := by rw [← hW3]; exact (Blk.new w2 _ _).row _
            rw [hW3]
            clear hW3
            have p19 : W3.cell? ⟨fb, 19, none⟩ = some (.int .i64 p) := (hu3.cell HF2.out.lt (fun f => f)).trans HF2.out.par
            have HB3 := Lib.hid hb3
            have u1 := (HK1.out.upd hu2 (fun f => f)).upd hu3 (fun f => f)
            have u2 := (HK2.out.upd hu2 (fun f => f)).upd hu3 (fun f => f)
            have U1 := Lib.hid u1
            have U2 := Lib.hid u2
            have r6 := u2.rowAt
            clear hb3 u1 u2)
         | ((with_reducible refine this_op (.slice 25 (.tmp 33) none (some (.tmp 38)) none) ?_); refine wpList_run rfl _ _ (run_slice_h8 25 _ _ rfl A n c rfl p rfl hpc und_tms 8 sz_tms) ?_))
 have hD2 : Within (grow D W1 w2) w2 := fun q hq => hq.elim (fun h => hD1.up hu2 q h) (fun h => h.2)
 have hDn : ∀ q, grow D W1 w2 q → q ≠ w.heap.size + 1 ∧ q ≠ w.heap.size + 1 + 1 := fun q hq => hq.elim (fun h => by have := hD q h; exact ⟨by omega, by omega⟩) (fun h => by have := h.1; exact ⟨by omega, by omega⟩)
 have hl3 := HL2.out.old (hD2.old hu3) (fun _ h => h)
 have hat3 := HAT2.out.old (hD2.old hu3) (fun _ h => h)
 have hf3 := HF2.out.upd hu3 (fun f => f) ((hD1.up hu2).old hu3) (D' := grow D W1 w2) (fun _ h => .inl h)
 have hD3 := hD2.up hu3
 have hu03 : Upd nob w W3 := (huW1.trans hu2).trans hu3
 have HF3 := Lib.hid hf3
 have HL3 := Lib.hid hl3
 have HAT3 := Lib.hid hat3
 have hw23 := hu2.size
 have hw33 := hu3.size
 clear hf3 hl3 hat3 HF2 HL2 HAT2 r6
 generalize grow D W1 w2 = D2 at *
 obtain ⟨V, hV⟩ : ∃ V, allSame (ds.take p) fdoms = V := ⟨_, rfl⟩
 have hx := HX4.out
 rw [hV] at hx
 have HX5 := Lib.hid hx
 have HV := Lib.hid hV
 clear hx hV HX4 t1
 go_loopg [41] p (fun k v wr => ∃ j : Nat, j + k = p ∧ v = .int .i64 j ∧ allSame ((ds.take p).drop j) (fdoms.drop j) = V ∧ Upd nob W3 wr)
 case atStart => exact ⟨0, by omega, rfl, by rw [List.drop_zero, List.drop_zero]; exact HV.out, Upd.refl _ _⟩
 case round =>
  clear p19
  obtain ⟨j, hj, rfl, hvd, hu⟩ := hrel
  have HVD := Lib.hid hvd; clear hvd
  have hD5 := hD3.up hu
  by_cases hlt : j < p
  · have t2 : decide ((j : Int) < p) = true := by simp [hlt]
    have hjn : j < ds.length := by rw [HN.out]; omega
    have hjf : j < fdoms.length := by omega
    obtain ⟨a, csj, hA, hab, hrow, hlj⟩ := HAT3.out.at_ (List.getElem?_eq_getElem hjn)
    rw [Nat.zero_add] at hrow
    have hf5 := HF3.out.upd hu (fun f => f) (hD3.old hu) (fun _ h => h)
    have hfl5 := hf5.lt
    obtain ⟨Af, cf, hcf, hatf⟩ := hf5.doms
    obtain ⟨b, csb, hB, hbb, hrowb, hlb⟩ := hatf.at_ (List.getElem?_eq_getElem hjf)
    rw [Nat.zero_add] at hrowb
    have hdr : (ds.take p).drop j = ds[j] :: (ds.take p).drop (j + 1) := by
     rw [List.drop_eq_getElem_cons (by rw [List.length_take]; omega), List.getElem_take]
    have hdr2 : fdoms.drop j = fdoms[j] :: fdoms.drop (j + 1) := List.drop_eq_getElem_cons hjf
    have hvd := HVD.out
    rw [hdr, hdr2, allSame] at hvd
    have HVD2 := Lib.hid hvd
    have hrow' := hrow.old (hD3.old hu) (by rw [Addr_add_block]; exact hab)
    have hlj' := hlj.old (hD3.old hu) (fun _ h => h)
    have hsj := hlj.oneCell
    have hsij : (Try.prog.info? 27).map (·.size) = some csj.size := by rw [hsj.1]; exact tm_size
    have hsb := hlb.oneCell
    have hsib : (Try.prog.info? 27).map (·.size) = some csb.size := by rw [hsb.1]; exact tm_size
    have HA := Lib.hid hA
    have HB := Lib.hid hB
    have HLJ := Lib.hid hlj'
    have HLB := Lib.hid hlb
    have hbl := hD5 _ hbb
    clear hA hB hvd hdr hdr2 HVD hrow hlj hlj' hlb hatf hf5
    go_wp2_with (first
                | ((with_reducible refine this_op (.indexAddr 25 (.tmp 39) (.tmp 41)) ?_); refine wpList_index_at rfl 25 (.tmp 39) (.tmp 41) rfl _ a _ _ rfl HA.out j rfl hlt 27 Try.underlying25 8 tm_size ?_)
                | ((with_reducible refine this_op (.load 27 (.tmp 44)) ?_); refine wpList_at rfl 27 (.tmp 44) rfl (a.add (j * 8)) rfl _ _ hrow' Try.underlying27 rfl hsij ?_)
                | ((with_reducible refine this_op (.store 27 (.tmp 10) (.tmp 45)) ?_); refine wpList_store_row rfl 27 (.tmp 10) (.tmp 45) rfl wr.heap.size _ rfl rfl 27 _ (Blk.new wr _ _) hsij (by rw [hsj.1]; rfl) hsj.2 ?_))
    obtain ⟨W5, hW5⟩ : ∃ W5, (wr.alloc (.cells #[.int .i64 0, .int .i64 0, .string ByteArray.empty, .int .i64 0, .int .i64 0, .slice none 0 0, .slice none 0 0, .slice none 0 0] 27)).setRow wr.heap.size csj = W5 := ⟨_, rfl⟩
    have hu5 : Upd nob wr W5 := by rw [← hW5]; exact ((Upd.refl nob wr).alloc _).setRow (.inr (Nat.le_refl _)) _
    have hb5 : Blk W5 wr.heap.size 27 csj := by rw [← hW5]; exact (Blk.new wr _ _).row _
    rw [hW5]
    clear hW5
    have hr5 := hb5.rowAt
    have hlt5 := hb5.lt
    have hs5 := hu5.size
    have hlj5 := HLJ.out.old (hD5.old hu5) (fun _ h => h)
    have hlb5 := HLB.out.old (hD5.old hu5) (fun _ h => h)
    have hrb5 := hrowb.old (hD5.old hu5) (by rw [Addr_add_block]; exact hbb)
    have hcf5 : W5.cell? ⟨fb, 29, none⟩ = some (.slice Af fdoms.length cf) := (hu5.cell hfl5 (fun f => f)).trans hcf
    have hfl6 : fb < W5.heap.size := by omega
    have hbl6 : b.block < W5.heap.size := by omega
    have hD6 := hD5.up hu5
    have HLJ5 := Lib.hid hlj5
    have HLB5 := Lib.hid hlb5
    clear hlj5 hlb5 HLJ HLB hb5 hrow' hrowb hcf
    refine wp_region_P (by kernel_rfl) ?_
    refine wpAny_of_E (fun X : World => ∀ p : Addr, p.block < W5.heap.size → X.cell? p = W5.cell? p) 9 _ _ _ _ ?_
    have hS : ∀ p : Addr, p.block < W5.heap.size → W5.drew.cell? p = W5.cell? p := fun _ _ => rfl
    refine eT 0 (.agg csj) [8] rfl (by kernel_rfl) (by rfl) ?_ hS ?_
    · intro wx hx
      exact run_load_at 27 (.tmp 10) rfl ⟨wr.heap.size, 0, none⟩ rfl csj _ (row_on hr5 hlt5 hx) Try.underlying27 rfl hsij
    try simp only [tl]
    refine eT 1 ?_ [8, 7, 6, 4, 3, 2] rfl (by kernel_rfl) (by rfl) ?_ hS ?_
    rotate_left; · intro wx hx; clear hx; go_simp; with_reducible rfl
    try simp only [tl]
    refine eT 2 ?_ [8, 7, 6, 4, 3] rfl (by kernel_rfl) (by rfl) ?_ hS ?_
    rotate_left; · intro wx hx; clear hx; go_simp; with_reducible rfl
    try simp only [tl]
    refine eT 3 ?_ [8, 7, 6, 4] rfl (by kernel_rfl) (by rfl) ?_ hS ?_
    rotate_left; · intro wx hx; clear hx; go_simp; with_reducible rfl
    try simp only [tl]
    refine eT 4 ?_ [8, 7, 6] rfl (by kernel_rfl) (by rfl) ?_ hS ?_
    rotate_left
    · intro wx hx
      have q0 := (hx ⟨fb, 29, none⟩ hfl6).trans hcf5
      clear hx
      go_simp
      with_reducible rfl
    try simp only [tl]
    refine eT 5 ?_ [8, 7, 6] rfl (by kernel_rfl) (by rfl) ?_ hS ?_
    rotate_left; · intro wx hx; clear hx; go_simp; with_reducible rfl
    try simp only [tl]
    refine eT 6 (.pointer (some (Addr.add b (j * 8)))) [8, 7] rfl (by kernel_rfl) (by rfl) ?_ hS ?_
    · intro wx hx
      exact run_index_at 25 (.tmp 50) (.tmp 51) rfl _ b _ _ rfl HB.out j rfl hjf 27 Try.underlying25 8 tm_size
    try simp only [tl]
    refine eT 7 (.agg csb) [8] rfl (by kernel_rfl) (by rfl) ?_ hS ?_
    · intro wx hx
      exact run_load_at 27 (.tmp 52) rfl (Addr.add b (j * 8)) rfl csb _ (row_on hrb5 (by rw [Addr_add_block]; exact hbl6) hx) Try.underlying27 rfl hsib
    try simp only [tl]
    refine wpAnyE_one (i := 8) (by kernel_rfl) (by kernel_rfl) rfl (by rfl) fun K hK => ?_
    go_simp
    refine (tSame_any ds[j] fdoms[j] csj csb D2 W5.drew hD6.drew HLJ5.out.drew HLB5.out.drew).mono ?_
    rintro e w7 ⟨rfl, hb7⟩
    have hu7 : Upd nob W5 w7 := ((Upd.refl nob W5).drew).trans (Upd.of_below hb7)
    refine hK _ _ (cells_of_upd hu7) ?_
    clear hK K; try simp only [tl]
    refine wpAnyE_z (by kernel_rfl) rfl (by rfl) fun K hK => ?_
    go_simp
    refine hK _ _ ?_
    clear hK K; try simp only [tl]
    refine wpAny_done (by kernel_rfl) ?_ _
    refine NoPanic.normal ?_
    have hu37 : Upd nob W3 w7 := hu.trans (hu5.trans hu7)
    cases hq : tSame ds[j] fdoms[j] with
    | true =>
     have hvd := HVD2.out
     rw [hq, Bool.true_and] at hvd
     have HVD3 := Lib.hid hvd
     clear hvd HVD2 hq
     go_wp2_with fail
     go_roundg (gk - 1)
     case measure => omega
     case rel => exact ⟨j + 1, by omega, by go_num, HVD3.out, hu37⟩
    | false =>
     have hvd := HVD2.out
     rw [hq, Bool.false_and] at hvd
     have hx := HX5.out
     rw [← hvd, if_pos rfl] at hx
     injection hx with hx1 hx3
     injection hx1 with hx1 hx2
     subst hx1 hx2 hx3
     have e1 := U1.out.upd hu37 (fun f => f)
     have r6 := (U2.out.upd hu37 (fun f => f)).rowAt
     have E1 := Lib.hid e1
     clear HX5 HVD2 hvd hq HV e1
     go_wp2_with (first
                   | ((with_reducible refine this_op (.load 50 (.tmp 6)) ?_); refine wpList_at rfl 50 (.tmp 6) rfl ⟨w.heap.size + 1 + 1, 0, none⟩ rfl _ _ r6 Try.underlying50 rfl cs_size ?_)
                   | ((with_reducible refine this_op (.store 50 (.tmp 4) (.tmp 56)) ?_); refine wpList_store_row rfl 50 (.tmp 4) (.tmp 56) rfl (w.heap.size + 1) _ rfl rfl 50 _ E1.out cs_size rfl (by simp [Value.oneCell']) ?_))
     refine bodyPost_ret (results_cell_tmp rfl _ _ (w.heap.size + 1) 50 #[.int .i64 0, .slice none 0 0] (0, 0) _ (.int .i64 14) rfl rfl (E1.out.row _) Try.underlying50 rfl cs_size) rfl ?_
     exact ⟨_, rfl, ⟨none, 0, rfl, fun j y h => by simp at h⟩, ((hu03.trans hu37).trans' ((Upd.refl (fun q => q = w.heap.size + 1) _).setRow (.inl rfl) _) (fun q hq h => by omega)).below⟩
  have t2 : decide ((j : Int) < p) = false := by simp; omega
  have hjp : p = j := by omega
  subst hjp
  have hvd := HVD.out
  have h0 : (ds.take p).drop p = [] := List.drop_eq_nil_of_le (by rw [List.length_take]; omega)
  rw [h0] at hvd
  clear h0
  simp only [allSame] at hvd
  have hx := HX5.out
  rw [← hvd, if_neg (by decide)] at hx
  have HX6 := Lib.hid hx
  clear hx hvd HX5 HVD HV
  have hu0r := hu03.trans hu
  have hwrs := hu.size
  have hf5 := HF3.out.upd hu (fun f => f) (hD3.old hu) (fun _ h => h)
  have hl5 := HL3.out.old (hD3.old hu) (fun _ h => h)
  have r8 := (HB3.out.upd hu (fun f => f)).rowAt
  have hwn : IntKind.i64.wrap ((n : Int) - 1) = (n : Int) - 1 := IntWalk.i64_in _ (by omega)
  have HF5 := Lib.hid hf5
  have HL5 := Lib.hid hl5
  clear hf5 hl5
  go_wp2_with (first
              | ((with_reducible refine this_op (.load 27 (.tmp 8)) ?_); refine wpList_at rfl 27 (.tmp 8) rfl ⟨w2.heap.size, 0, none⟩ rfl _ _ r8 Try.underlying27 rfl hsi2 ?_))
  refine (tends_any rs cs2 ((n : Int) - 1) D2 wr fb nm p idx itself fdoms hD5 HL5.out HF5.out (by omega) (by omega) (by omega) hi).mono ?_
  rintro e w6 ⟨rfl, hb6⟩
  have hu6 : Upd nob wr w6 := Upd.of_below hb6
  have hw6s := hu6.size
  have hx := HX6.out
  obtain ⟨⟨E1, E2⟩, hE⟩ : ∃ x, tends nm p idx itself rs ((n : Int) - 1) = x := ⟨_, rfl⟩
  rw [hE] at hx ⊢
  simp only at hx ⊢
  have hu06 := hu0r.trans hu6
  have e1 := U1.out.upd (hu.trans hu6) (fun f => f)
  have e2 := U2.out.upd (hu.trans hu6) (fun f => f)
  have E1b := Lib.hid e1
  have r6 := e2.rowAt
  clear e1 r8 hE HX6
  cases E1 with
  | false =>
   rw [if_pos rfl] at hx
   injection hx with hx1 hx3
   injection hx1 with hx1 hx2
   subst hx1 hx2 hx3
   clear e2
   go_wp2_with (first
                 | ((with_reducible refine this_op (.load 50 (.tmp 6)) ?_); refine wpList_at rfl 50 (.tmp 6) rfl ⟨w.heap.size + 1 + 1, 0, none⟩ rfl _ _ r6 Try.underlying50 rfl cs_size ?_)
                 | ((with_reducible refine this_op (.store 50 (.tmp 4) (.tmp 70)) ?_); refine wpList_store_row rfl 50 (.tmp 4) (.tmp 70) rfl (w.heap.size + 1) _ rfl rfl 50 _ E1b.out cs_size rfl (by simp [Value.oneCell']) ?_))
   refine bodyPost_ret (results_cell_tmp rfl _ _ (w.heap.size + 1) 50 #[.int .i64 0, .slice none 0 0] (0, 0) _ (.int .i64 14) rfl rfl (E1b.out.row _) Try.underlying50 rfl cs_size) rfl ?_
   exact ⟨_, rfl, ⟨none, 0, rfl, fun j y h => by simp at h⟩, ((hu06).trans' ((Upd.refl (fun q => q = w.heap.size + 1) _).setRow (.inl rfl) _) (fun q hq h => by omega)).below⟩
  | true =>
   rw [if_neg (by decide)] at hx
   cases E2 with
   | true =>
    rw [if_pos rfl] at hx
    injection hx with hx1 hx3
    injection hx1 with hx1 hx2
    subst hx1 hx2 hx3
    clear e2
    go_wp2_with (first
                    | ((with_reducible refine this_op (.load 50 (.tmp 6)) ?_); refine wpList_at rfl 50 (.tmp 6) rfl ⟨w.heap.size + 1 + 1, 0, none⟩ rfl _ _ r6 Try.underlying50 rfl cs_size ?_)
                    | ((with_reducible refine this_op (.store 50 (.tmp 4) (.tmp 73)) ?_); refine wpList_store_row rfl 50 (.tmp 4) (.tmp 73) rfl (w.heap.size + 1) _ rfl rfl 50 _ E1b.out cs_size rfl (by simp [Value.oneCell']) ?_))
    refine bodyPost_ret (results_cell_tmp rfl _ _ (w.heap.size + 1) 50 #[.int .i64 0, .slice none 0 0] (0, 0) _ (.int .i64 15) rfl rfl (E1b.out.row _) Try.underlying50 rfl cs_size) rfl ?_
    exact ⟨_, rfl, ⟨none, 0, rfl, fun j y h => by simp at h⟩, ((hu06).trans' ((Upd.refl (fun q => q = w.heap.size + 1) _).setRow (.inl rfl) _) (fun q hq h => by omega)).below⟩
   | false =>
    rw [if_neg (by decide)] at hx
    have hD7 := hD5.up hu6
    have hf6 := HF5.out.upd hu6 (fun f => f) (hD5.old hu6) (fun _ h => h)
    have hat6 := HAT3.out.old (hD3.old (hu.trans hu6)) (fun _ h => h)
    obtain ⟨A9, hA9⟩ : ∃ x, (if c = p then A else A.map (·.add (p * 8))) = x := ⟨_, rfl⟩
    obtain ⟨m, hm⟩ : ∃ m, n - p = m := ⟨_, rfl⟩
    obtain ⟨c9, hc9⟩ : ∃ m, c - p = m := ⟨_, rfl⟩
    obtain ⟨dp, hdp⟩ : ∃ l, ds.drop p = l := ⟨_, rfl⟩
    have hatd := hat6.drop p c (by rw [HN.out]; exact hlc)
    rw [hA9, hdp] at hatd
    rw [hdp] at hx
    have hml : dp.length = m := by rw [← hdp, List.length_drop, HN.out]; exact hm
    have HML := Lib.hid hml
    have hhd : ∀ a, a ∈ dp → a.height * 120 ≤ 140737488351232 := fun a h => HHT3.out a (List.mem_of_mem_drop (by rw [hdp]; exact h))
    have HHD := Lib.hid hhd
    have HA9 := Lib.hid hA9
    have HM := Lib.hid hm
    have HC9 := Lib.hid hc9
    have hmn : m ≤ n := by omega
    have HX7 := Lib.hid hx
    have HATD := Lib.hid hatd
    have g19 : w6.cell? ⟨fb, 19, none⟩ = some (.int .i64 p) := hf6.par
    have HF6 := Lib.hid hf6
    have hfb6 := hf6.lt
    have HE2 := Lib.hid e2
    clear hx hatd hat6 hdp hm hc9 hA9 hml hhd hf6 HHT3 HAT3 HL5 HF5 HF3 HL3 e2 U1 U2 r6 HB3
    clear HK1 HK2
    go_wp2_with (first
                    | ((with_reducible refine this_op (.slice 25 (.tmp 74) (some (.tmp 79)) none none) ?_); refine wpList_run rfl (.slice A9 m c9) _ (by rw [← HA9.out, ← HM.out, ← HC9.out]; exact run_slice_l8 25 _ _ rfl A n c rfl p rfl hpn und_tms 8 sz_tms) ?_))
    go_loopg [82] m (fun k v wr => ∃ (j : Nat) (sl : List (Int × Int)) (sv : Value), j + k = m ∧ v = .int .i64 j ∧ Blk wr (w.heap.size + 1 + 1) 50 #[.int .i64 j, sv] ∧ Coll fdR nob w6.heap.size 52 wr sv sl ∧ sl.length ≤ j ∧
     ctorF nm p idx itself j sl (dp.drop j) = ((X1, X2), X3) ∧ Upd (fun q => q = w.heap.size + 1 + 1) w6 wr)
    case atStart => exact ⟨0, [], .slice none 0 0, by omega, rfl, HE2.out, Coll.nil_, Nat.le_refl _, by rw [List.drop_zero]; exact HX7.out, Upd.refl _ _⟩
    case round =>
     clear g19 HX7 HE2
     obtain ⟨j, sl, sv, hj, rfl, hc2, hco, hsl, hcf, hus⟩ := hrel
     have hD8 : Within D2 wr := hD7.up hus
     have hws := hus.size
     have hDo : Old D2 w6 wr := Old.of_upd hus fun q hq => ⟨fun h => (hDn q hq).2 h, hD7 q hq⟩
     have hf8 := HF6.out.upd hus (fun h => by omega) hDo (fun _ h => h)
     obtain ⟨sA, sc, hsv, hscp⟩ := hco.form
     subst hsv
     have HC2 := Lib.hid hc2
     have HCO := Lib.hid hco
     have HCF := Lib.hid hcf
     have HF8 := Lib.hid hf8
     clear hc2 hco hcf hf8
     by_cases hlt : j < m
     · have t2 : decide ((j : Int) < m) = true := by simp [hlt]
       have hjn : j < dp.length := by rw [HML.out]; exact hlt
       obtain ⟨a, csj, hA, hab, hrow, hlj⟩ := HATD.out.at_ (List.getElem?_eq_getElem hjn)
       rw [Nat.zero_add] at hrow
       have hrow' := hrow.old hDo (by rw [Addr_add_block]; exact hab)
       have hlj' := hlj.old hDo (fun _ h => h)
       have hsj := hlj.oneCell
       have hsij : (Try.prog.info? 27).map (·.size) = some csj.size := by rw [hsj.1]; exact tm_size
       have hmem : dp[j] ∈ dp := List.getElem_mem hjn
       have hhj := HHD.out _ hmem
       have hdr : dp.drop j = dp[j] :: dp.drop (j + 1) := List.drop_eq_getElem_cons hjn
       have hcf := HCF.out
       rw [hdr, ctorF] at hcf
       obtain ⟨x, hx⟩ : ∃ x, dp[j] = x := ⟨_, rfl⟩
       rw [hx] at hcf hlj' hhj
       have HCF2 := Lib.hid hcf
       have HA := Lib.hid hA
       have HLJ := Lib.hid hlj'
       have hj1 : IntKind.i64.wrap ((j : Int) + 1) = (j : Int) + 1 := IntWalk.i64_in _ (by omega)
       clear hA hcf hdr HCF hrow hlj hlj' hx hmem
       go_wp2_with (first
                           | ((with_reducible refine this_op (.indexAddr 25 (.tmp 80) (.tmp 82)) ?_); refine wpList_index_at rfl 25 (.tmp 80) (.tmp 82) rfl _ a _ _ rfl HA.out j rfl hlt 27 Try.underlying25 8 tm_size ?_)
                           | ((with_reducible refine this_op (.load 27 (.tmp 85)) ?_); refine wpList_at rfl 27 (.tmp 85) rfl (a.add (j * 8)) rfl _ _ hrow' Try.underlying27 rfl hsij ?_)
                           | ((with_reducible refine this_op (.store 27 (.tmp 14) (.tmp 86)) ?_); refine wpList_store_row rfl 27 (.tmp 14) (.tmp 86) rfl wr.heap.size _ rfl rfl 27 _ (Blk.new wr _ _) hsij (by rw [hsj.1]; rfl) hsj.2 ?_
                              obtain ⟨W7, hW7⟩ : ∃ W7, (wr.alloc (.cells #[.int .i64 0, .int .i64 0, .string ByteArray.empty, .int .i64 0, .int .i64 0, .slice none 0 0, .slice none 0 0, .slice none 0 0] 27)).setRow wr.heap.size csj = W7 := ⟨_, rfl⟩
                              have hu7 : Upd nob wr W7 := by rw [← hW7]; exact ((Upd.refl nob wr).alloc _).setRow (.inr (Nat.le_refl _)) _
                              have hb7 : Blk W7 wr.heap.size 27 csj := by rw [← hW7]; exact (Blk.new wr _ _).row _
                              rw [hW7]
                              clear hW7
                              have hc7 := HC2.out.upd hu7 (fun f => f)
                              have g0 : W7.cell? ⟨w.heap.size + 1 + 1, 0, none⟩ = some (.int .i64 j) := hc7.cell 0
                              have fz0 := hc7.frozen 0
                              have HB7 := Lib.hid hb7
                              have HC7 := Lib.hid hc7
                              clear hb7 hc7))
       obtain ⟨w8, hw8⟩ : ∃ w8, W7.setCell ⟨w.heap.size + 1 + 1, 0, none⟩ (.int .i64 ((j : Int) + 1)) = w8 := ⟨_, rfl⟩
       have hu8 : Upd (fun q => q = w.heap.size + 1 + 1) W7 w8 := by rw [← hw8]; exact (Upd.refl (fun q => q = w.heap.size + 1 + 1) W7).setCell (p := ⟨w.heap.size + 1 + 1, 0, none⟩) (.inl rfl) _
       have hc8 : Blk w8 (w.heap.size + 1 + 1) 50 #[.int .i64 ((j : Int) + 1), .slice sA sl.length sc] := by rw [← hw8]; exact HC7.out.set 0 _
       rw [hw8]
       clear hw8
       have HC8 := Lib.hid hc8
       have hur8 : Upd (fun q => q = w.heap.size + 1 + 1) wr w8 := (hu7.mono (fun _ f => f.elim)).trans hu8
       have hw8s := hur8.size
       have hb8 := HB7.out.upd hu8 (fun h => by omega)
       have hr8 := hb8.rowAt
       have hlt8 := hb8.lt
       have HB8 := Lib.hid hb8
       have hDo8 : Old D2 wr w8 := Old.of_upd hur8 fun q hq => ⟨fun h => (hDn q hq).2 h, hD8 q hq⟩
       have hlj8 := HLJ.out.old hDo8 (fun _ h => h)
       have hf9 := HF8.out.upd hur8 (fun h => by omega) hDo8 (fun _ h => h)
       have hD9 : Within D2 w8 := hD8.up hur8
       have hfl9 := hf9.lt
       have g1 : w8.cell? ⟨fb, 1, none⟩ = some (.string nm) := hf9.nm_
       have HF9 := Lib.hid hf9
       have HLJ8 := Lib.hid hlj8
       have hco8 := HCO.out.upd hur8 (fun q hq => ⟨by omega, fun f => f⟩) (fun q f => f.elim)
       have HCO8 := Lib.hid hco8
       clear hc8 hlj8 hf9 HLJ HF8 HC2 HC7 HB7 hb8 hco8 hrow' HCO
       have hus8 : Upd (fun q => q = w.heap.size + 1 + 1) w6 w8 := hus.trans hur8
       refine wp_region_P (by kernel_rfl) ?_
       refine wpAny_of_E (fun X : World => ∀ p : Addr, p.block < w8.heap.size → X.cell? p = w8.cell? p) 7 _ _ _ _ ?_
       have hS : ∀ p : Addr, p.block < w8.heap.size → w8.drew.cell? p = w8.cell? p := fun _ _ => rfl
       refine eT 0 (.agg csj) [6] rfl (by kernel_rfl) (by rfl) ?_ hS ?_
       · intro wx hx
         exact run_load_at 27 (.tmp 14) rfl ⟨wr.heap.size, 0, none⟩ rfl csj _ (row_on hr8 hlt8 hx) Try.underlying27 rfl hsij
       try simp only [tl]
       refine eT 1 ?_ [6, 5, 4, 3, 2] rfl (by kernel_rfl) (by rfl) ?_ hS ?_
       rotate_left; · intro wx hx; clear hx; go_simp; with_reducible rfl
       try simp only [tl]
       refine eT 2 ?_ [6, 5, 4, 3] rfl (by kernel_rfl) (by rfl) ?_ hS ?_
       rotate_left; · intro wx hx; clear hx; go_simp; with_reducible rfl
       try simp only [tl]
       refine eT 3 ?_ [6, 5, 4] rfl (by kernel_rfl) (by rfl) ?_ hS ?_
       rotate_left; · intro wx hx; clear hx; go_simp; with_reducible rfl
       try simp only [tl]
       refine eT 4 ?_ [6, 5] rfl (by kernel_rfl) (by rfl) ?_ hS ?_
       rotate_left; · intro wx hx; clear hx; go_simp; with_reducible rfl
       try simp only [tl]
       refine eT 5 ?_ [6] rfl (by kernel_rfl) (by rfl) ?_ hS ?_
       rotate_left
       · intro wx hx
         have q0 := (hx ⟨fb, 1, none⟩ hfl9).trans g1
         clear hx
         go_simp
         with_reducible rfl
       try simp only [tl]
       refine wpAnyE_one (i := 6) (by kernel_rfl) (by kernel_rfl) rfl (by rfl) fun K hK => ?_
       go_simp
       refine (tment_any x nm csj D2 w8.drew hD9.drew HLJ8.out.drew).mono ?_
       rintro e w10 ⟨rfl, hb10⟩
       have hu10 : Upd nob w8 w10 := ((Upd.refl nob w8).drew).trans (Upd.of_below hb10)
       refine hK _ _ (cells_of_upd hu10) ?_
       clear hK K; try simp only [tl]
       refine wpAnyE_z (by kernel_rfl) rfl (by rfl) fun K hK => ?_
       go_simp
       refine hK _ _ ?_
       clear hK K; try simp only [tl]
       refine wpAny_done (by kernel_rfl) ?_ _
       refine NoPanic.normal ?_
       have hus10 : Upd (fun q => q = w.heap.size + 1 + 1) w6 w10 := hus8.trans (hu10.mono (fun _ f => f.elim))
       have hw10s := hu10.size
       have hc10 := HC8.out.upd hu10 (fun f => f)
       have hco10 := HCO8.out.upd hu10 (fun _ f => f.elim) (fun q f => f.elim)
       cases hq : tment x nm with
       | false =>
        have hcf := HCF2.out
        rw [hq, if_neg (by decide)] at hcf
        have HCF3 := Lib.hid hcf
        have HC10 := Lib.hid hc10
        have HCO10 := Lib.hid hco10
        clear hcf HCF2 hq hc10 hco10 HC8 HCO8
        go_wp2_with fail
        go_roundg (gk - 1)
        case measure => omega
        case rel => exact ⟨j + 1, sl, .slice sA sl.length sc, by omega, by go_num, HC10.out, HCO10.out, by omega, HCF3.out, hus10⟩
       | true =>
        have hcf := HCF2.out
        rw [hq, if_pos rfl] at hcf
        have HCF3 := Lib.hid hcf
        have HC10 := Lib.hid hc10
        have HCO10 := Lib.hid hco10
        have hlx10 := HLJ8.out.old (hD9.old hu10) (fun _ h => h)
        have hD10 := hD9.up hu10
        have hf10 := HF9.out.upd hu10 (fun f => f) (hD9.old hu10) (fun _ h => h)
        have HF10 := Lib.hid hf10
        have hr10 := (HB8.out.upd hu10 (fun f => f)).rowAt
        have hlx := trow_le x
        clear hcf HCF2 hq hc10 hco10 HC8 HCO8 hf10 HF9 HLJ8
        go_wp2_with (first
                              | ((with_reducible refine this_op (.load 27 (.tmp 14)) ?_); refine wpList_at rfl 27 (.tmp 14) rfl ⟨wr.heap.size, 0, none⟩ rfl _ _ hr10 Try.underlying27 rfl hsij ?_))
        refine (trow_any x csj D2 w10 hD10 hlx10 (by omega)).mono ?_
        rintro e w11 ⟨cs3, A3, c3, rfl, hl3, hlc3, hat3, hb11⟩
        have hu11 : Upd nob w10 w11 := Upd.of_below hb11
        have hw11s := hu11.size
        have hcf := HCF3.out
        obtain ⟨⟨os, rs3⟩, hsp⟩ : ∃ y, trow x = y := ⟨_, rfl⟩
        rw [hsp] at hcf hl3 hlc3 hat3 hlx ⊢
        simp only at hcf hl3 hlc3 hat3 hlx ⊢
        obtain ⟨no, hno⟩ : ∃ y, os.length = y := ⟨_, rfl⟩
        rw [hno] at hcf hlc3 hlx ⊢
        have HNO := Lib.hid hno
        have hs3 := hl3.oneCell
        have hsi3 : (Try.prog.info? 27).map (·.size) = some cs3.size := by rw [hs3.1]; exact tm_size
        have HCF4 := Lib.hid hcf
        have HL3b := Lib.hid hl3
        have HAT3b := Lib.hid hat3
        have hf11 := HF10.out.upd hu11 (fun f => f) (hD10.old hu11) (D' := grow D2 w10 w11) (fun _ h => .inl h)
        have HF11 := Lib.hid hf11
        have hD11 : Within (grow D2 w10 w11) w11 := fun q hq => hq.elim (fun h => hD10.up hu11 q h) (fun h => h.2)
        generalize grow D2 w10 w11 = D3 at *
        clear hcf hsp hno hl3 hat3 hf11 HF10 hr10 HCF3 hlx10
        have hwa : IntKind.i64.wrap ((p : Int) + (j : Int)) = (p : Int) + (j : Int) := IntWalk.i64_in _ (by omega)
        have hwb : IntKind.i64.wrap ((p : Int) + (j : Int) + (no : Int)) = (p : Int) + (j : Int) + (no : Int) := IntWalk.i64_in _ (by omega)
        have hwc : IntKind.i64.wrap ((p : Int) + (j : Int) + (no : Int) - 1) = (p : Int) + (j : Int) + (no : Int) - 1 := IntWalk.i64_in _ (by omega)
        go_wp2_with (first
                              | ((with_reducible refine this_op (.store 27 (.tmp 16) (.tmp 103)) ?_); refine wpList_store_row rfl 27 (.tmp 16) (.tmp 103) rfl w11.heap.size _ rfl rfl 27 _ (Blk.new w11 _ _) hsi3 (by rw [hs3.1]; rfl) hs3.2 ?_))
        obtain ⟨W12, hW12⟩ : ∃ W12, (w11.alloc (.cells #[.int .i64 0, .int .i64 0, .string ByteArray.empty, .int .i64 0, .int .i64 0, .slice none 0 0, .slice none 0 0, .slice none 0 0] 27)).setRow w11.heap.size cs3 = W12 := ⟨_, rfl⟩
        have hu12 : Upd nob w11 W12 := by rw [← hW12]; exact ((Upd.refl nob w11).alloc _).setRow (.inr (Nat.le_refl _)) _
        have hb12 : Blk W12 w11.heap.size 27 cs3 := by rw [← hW12]; exact (Blk.new w11 _ _).row _
        rw [hW12]
        clear hW12
        have hr12 := hb12.rowAt
        have hlt12 := hb12.lt
        have hf12 := HF11.out.upd hu12 (fun f => f) (hD11.old hu12) (fun _ h => h)
        have hD12 := hD11.up hu12
        have hl12 := HL3b.out.old (hD11.old hu12) (fun _ h => h)
        have hat12 := HAT3b.out.old (hD11.old hu12) (fun _ h => h)
        have hfl12 := hf12.lt
        have g19 : W12.cell? ⟨fb, 19, none⟩ = some (.int .i64 p) := hf12.par
        have HF12 := Lib.hid hf12
        have HL12 := Lib.hid hl12
        have HAT12 := Lib.hid hat12
        clear hf12 hl12 hat12 HF11 HL3b HAT3b hb12
        obtain ⟨⟨F1, F2⟩, hF⟩ : ∃ y, tends nm p idx itself rs3 ((p : Int) + (j : Int) + (no : Int) - 1) = y := ⟨_, rfl⟩
        have hcf := HCF4.out
        rw [hF] at hcf
        simp only at hcf
        obtain ⟨M, hM⟩ : ∃ y, (os.any fun t => tment t nm) = y := ⟨_, rfl⟩
        rw [hM] at hcf
        have HFx := Lib.hid hF
        have HMx := Lib.hid hM
        have HCF5 := Lib.hid hcf
        clear hF hM hcf HCF4
        refine wp_region_P (by kernel_rfl) ?_
        refine wpAny_of_E (fun X : World => ∀ p : Addr, p.block < W12.heap.size → X.cell? p = W12.cell? p) 18 _ _ _ _ ?_
        have hS : ∀ p : Addr, p.block < W12.heap.size → W12.drew.cell? p = W12.cell? p := fun _ _ => rfl
        refine eT 0 ?_ [] rfl (by kernel_rfl) (by rfl) ?_ hS ?_
        rotate_left; · intro wx hx; clear hx; go_simp; with_reducible rfl
        try simp only [tl]
        refine eT 1 (.agg cs3) [] rfl (by kernel_rfl) (by rfl) ?_ hS ?_
        · intro wx hx
          exact run_load_at 27 (.tmp 16) rfl ⟨w11.heap.size, 0, none⟩ rfl cs3 _ (row_on hr12 hlt12 hx) Try.underlying27 rfl hsi3
        try simp only [tl]
        refine eT 2 ?_ [] rfl (by kernel_rfl) (by rfl) ?_ hS ?_
        rotate_left; · intro wx hx; clear hx; go_simp; with_reducible rfl
        try simp only [tl]
        refine eT 3 ?_ [] rfl (by kernel_rfl) (by rfl) ?_ hS ?_
        rotate_left; · intro wx hx; clear hx; go_simp; with_reducible rfl
        try simp only [tl]
        refine eT 4 ?_ [] rfl (by kernel_rfl) (by rfl) ?_ hS ?_
        rotate_left; · intro wx hx; clear hx; go_simp; with_reducible rfl
        try simp only [tl]
        refine eT 5 ?_ [] rfl (by kernel_rfl) (by rfl) ?_ hS ?_
        rotate_left; · intro wx hx; clear hx; go_simp; with_reducible rfl
        try simp only [tl]
        refine eT 6 ?_ [] rfl (by kernel_rfl) (by rfl) ?_ hS ?_
        rotate_left
        · intro wx hx
          have q0 := (hx ⟨fb, 19, none⟩ hfl12).trans g19
          clear hx
          go_simp
          with_reducible rfl
        try simp only [tl]
        refine eT 7 ?_ [] rfl (by kernel_rfl) (by rfl) ?_ hS ?_
        rotate_left; · intro wx hx; clear hx; go_simp; with_reducible rfl
        try simp only [tl]
        refine eT 8 ?_ [] rfl (by kernel_rfl) (by rfl) ?_ hS ?_
        rotate_left; · intro wx hx; clear hx; go_simp; with_reducible rfl
        try simp only [tl]
        refine eT 9 ?_ [] rfl (by kernel_rfl) (by rfl) ?_ hS ?_
        rotate_left; · intro wx hx; clear hx; go_simp; with_reducible rfl
        try simp only [tl]
        refine eT 10 ?_ [] rfl (by kernel_rfl) (by rfl) ?_ hS ?_
        rotate_left; · intro wx hx; clear hx; go_simp; with_reducible rfl
        try simp only [tl]
        refine eT 11 ?_ [] rfl (by kernel_rfl) (by rfl) ?_ hS ?_
        rotate_left; · intro wx hx; clear hx; go_simp; with_reducible rfl
        try simp only [tl]
        refine eT 12 ?_ [] rfl (by kernel_rfl) (by rfl) ?_ hS ?_
        rotate_left; · intro wx hx; clear hx; go_simp; with_reducible rfl
        try simp only [tl]
        refine wpAnyE_one (i := 13) (by kernel_rfl) (by kernel_rfl) rfl (by rfl) fun K hK => ?_
        go_simp
        refine (tends_any rs3 cs3 ((p : Int) + (j : Int) + (no : Int) - 1) D3 W12.drew fb nm p idx itself fdoms hD12.drew HL12.out.drew (HF12.out.upd ((Upd.refl nob W12).drew) (fun f => f) (fun _ _ => rfl) (fun _ h => h)) (by omega) (by omega) (by omega) hi).mono ?_
        rintro e w13 ⟨rfl, hb13⟩
        rw [HFx.out]
        have hu13 : Upd nob W12 w13 := ((Upd.refl nob W12).drew).trans (Upd.of_below hb13)
        refine hK _ _ (cells_of_upd hu13) ?_
        clear hK K; try simp only [tl]
        have hS : ∀ p : Addr, p.block < W12.heap.size → w13.cell? p = W12.cell? p := cells_of_upd hu13
        refine eT 14 ?_ [] rfl (by kernel_rfl) (by rfl) ?_ hS ?_
        rotate_left; · intro wx hx; clear hx; go_simp; with_reducible rfl
        try simp only [tl]
        refine eT 15 ?_ [] rfl (by kernel_rfl) (by rfl) ?_ hS ?_
        rotate_left; · intro wx hx; clear hx; go_simp; with_reducible rfl
        try simp only [tl]
        refine eT 16 ?_ [] rfl (by kernel_rfl) (by rfl) ?_ hS ?_
        rotate_left; · intro wx hx; clear hx; go_simp; with_reducible rfl
        try simp only [tl]
        refine eT 17 ?_ [] rfl (by kernel_rfl) (by rfl) ?_ hS ?_
        rotate_left; · intro wx hx; clear hx; go_simp; with_reducible rfl
        try simp only [tl]
        refine wpAnyE_z (by kernel_rfl) rfl (by rfl) fun K hK => ?_
        go_simp
        refine hK _ _ ?_
        clear hK K; try simp only [tl]
        refine wpAny_done (by kernel_rfl) ?_ _
        refine NoPanic.normal ?_
        go_wp2_with fail
        have hD13 := hD12.up hu13
        have hf13 := HF12.out.upd hu13 (fun f => f) (hD12.old hu13) (fun _ h => h)
        have hat13 := HAT12.out.old (hD12.old hu13) (fun _ h => h)
        have hfl13 := hf13.lt
        have hw12s := hu12.size
        have hw13s := hu13.size
        have g1 : w13.cell? ⟨fb, 1, none⟩ = some (.string nm) := hf13.nm_
        have HAT13 := Lib.hid hat13
        clear hat13 hf13 HF12 HL12 HAT12 g19
        have hu1013 : Upd nob w10 w13 := (hu11.trans hu12).trans hu13
        cases M with
        | true =>
         have hcf := HCF5.out
         rw [if_pos rfl] at hcf
         injection hcf with hx1 hx3
         injection hx1 with hx1 hx2
         subst hx1 hx2 hx3
         clear HCF5
         refine wp_region_P (by kernel_rfl) ?_
         refine wpAny_of_E (fun X : World => ∀ p : Addr, p.block < w13.heap.size → X.cell? p = w13.cell? p) 14 _ _ _ _ ?_
         have hS : ∀ p : Addr, p.block < w13.heap.size → w13.drew.cell? p = w13.cell? p := fun _ _ => rfl
         refine eT 0 ?_ [12, 8, 7, 1] rfl (by kernel_rfl) (by rfl) ?_ hS ?_
         rotate_left; · intro wx hx; clear hx; go_simp; with_reducible rfl
         try simp only [tl]
         refine eT 2 ?_ [12, 8, 7, 6, 5, 4, 3] rfl (by kernel_rfl) (by rfl) ?_ hS ?_
         rotate_left; · intro wx hx; clear hx; go_simp; with_reducible rfl
         try simp only [tl]
         refine eT 3 ?_ [12, 8, 7, 6, 5, 4] rfl (by kernel_rfl) (by rfl) ?_ hS ?_
         rotate_left; · intro wx hx; clear hx; go_simp; with_reducible rfl
         try simp only [tl]
         refine eT 4 ?_ [12, 8, 7, 6, 5] rfl (by kernel_rfl) (by rfl) ?_ hS ?_
         rotate_left; · intro wx hx; clear hx; go_simp; with_reducible rfl
         try simp only [tl]
         refine eT 5 ?_ [12, 8, 7, 6] rfl (by kernel_rfl) (by rfl) ?_ hS ?_
         rotate_left; · intro wx hx; clear hx; go_simp; with_reducible rfl
         try simp only [tl]
         refine eT 6 ?_ [12, 8, 7] rfl (by kernel_rfl) (by rfl) ?_ hS ?_
         rotate_left
         · intro wx hx
           have q0 := (hx ⟨fb, 1, none⟩ hfl13).trans g1
           clear hx
           go_simp
           with_reducible rfl
         try simp only [tl]
         refine wpAnyE_one (i := 1) (by kernel_rfl) (by kernel_rfl) rfl (by rfl) fun K hK => ?_
         go_simp
         refine (tvals_any _ _ _ w13.drew).mono ?_
         rintro e w14 ⟨rfl, rfl⟩
         have hu14 : Upd nob w13 (w13.drew.alloc (.cells #[.slice A3 no c3] 25)) := ((Upd.refl nob w13).drew).alloc _
         refine hK _ _ (cells_of_upd hu14) ?_
         clear hK K; try simp only [tl]
         refine wpAnyE_one (i := 7) (by kernel_rfl) (by kernel_rfl) rfl (by rfl) fun K hK => ?_
         go_simp
         refine (tments_any os nm A3 c3 w13.drew.heap.size D3 _ (hD13.up hu14) (by rw [HNO.out]; exact Blk.new w13.drew _ _) (by rw [HNO.out]; omega) (HAT13.out.old (hD13.old hu14) (fun _ h => h))).mono ?_
         rintro e w15 ⟨rfl, hb15⟩
         rw [HMx.out]
         have hu15 : Upd nob w13 w15 := hu14.trans (Upd.of_below hb15)
         refine hK _ _ (cells_of_upd hu15) ?_
         clear hK K; try simp only [tl]
         have hS : ∀ p : Addr, p.block < w13.heap.size → w15.cell? p = w13.cell? p := cells_of_upd hu15
         refine eT 8 ?_ [12] rfl (by kernel_rfl) (by rfl) ?_ hS ?_
         rotate_left; · intro wx hx; clear hx; go_simp; with_reducible rfl
         try simp only [tl]
         refine wpAnyE_take (i := 9) (v := undef) [12, 11, 10] rfl (by kernel_rfl) (fun _ _ _ h => h) (Or.inr ⟨by rfl, rfl⟩) hS ?_
         try simp only [tl]
         refine wpAnyE_take (i := 10) (v := undef) [12, 11] rfl (by kernel_rfl) (fun _ _ _ h => h) (Or.inr ⟨by rfl, rfl⟩) hS ?_
         try simp only [tl]
         refine eT 11 ?_ [12] rfl (by kernel_rfl) (by rfl) ?_ hS ?_
         rotate_left; · intro wx hx; clear hx; go_simp; with_reducible rfl
         try simp only [tl]
         refine eT 12 ?_ [] rfl (by kernel_rfl) (by rfl) ?_ hS ?_
         rotate_left; · intro wx hx; clear hx; go_simp; with_reducible rfl
         try simp only [tl]
         refine wpAnyE_take (i := 13) (v := undef) [] rfl (by kernel_rfl) (fun _ _ _ h => h) (Or.inr ⟨by rfl, rfl⟩) hS ?_
         try simp only [tl]
         refine wpAnyE_z (by kernel_rfl) rfl (by rfl) fun K hK => ?_
         go_simp
         refine hK _ _ ?_
         clear hK K; try simp only [tl]
         refine wpAny_done (by kernel_rfl) ?_ _
         refine NoPanic.normal ?_
         have hus15 := hus10.trans ((hu1013.trans hu15).mono (fun _ f => f.elim))
         have e1 := E1b.out.upd hus15 (fun h => by omega)
         have hu015 := hu06.trans' hus15 (fun q hq h => by omega)
         go_wp2_with (first
                                 | ((with_reducible refine this_op (.store 50 (.tmp 4) (.tmp 136)) ?_); refine wpList_store_row rfl 50 (.tmp 4) (.tmp 136) rfl (w.heap.size + 1) _ rfl rfl 50 _ e1 cs_size rfl (by simp [Value.oneCell']) ?_))
         refine bodyPost_ret (results_cell_tmp rfl _ _ (w.heap.size + 1) 50 #[.int .i64 0, .slice none 0 0] (0, 0) _ (.int .i64 15) rfl rfl (e1.row _) Try.underlying50 rfl cs_size) rfl ?_
         exact ⟨_, rfl, ⟨none, 0, rfl, fun j y h => by simp at h⟩, ((hu015).trans' ((Upd.refl (fun q => q = w.heap.size + 1) _).setRow (.inl rfl) _) (fun q hq h => by omega)).below⟩
        | false =>
         have hcf := HCF5.out
         rw [if_neg (by decide)] at hcf
         cases F1 with
         | false =>
          rw [if_pos rfl] at hcf
          injection hcf with hx1 hx3
          injection hx1 with hx1 hx2
          subst hx1 hx2 hx3
          clear HCF5
          refine wp_region_P (by kernel_rfl) ?_
          refine wpAny_of_E (fun X : World => ∀ p : Addr, p.block < w13.heap.size → X.cell? p = w13.cell? p) 14 _ _ _ _ ?_
          have hS : ∀ p : Addr, p.block < w13.heap.size → w13.drew.cell? p = w13.cell? p := fun _ _ => rfl
          refine eT 0 ?_ [12, 8, 7, 1] rfl (by kernel_rfl) (by rfl) ?_ hS ?_
          rotate_left; · intro wx hx; clear hx; go_simp; with_reducible rfl
          try simp only [tl]
          refine eT 2 ?_ [12, 8, 7, 6, 5, 4, 3] rfl (by kernel_rfl) (by rfl) ?_ hS ?_
          rotate_left; · intro wx hx; clear hx; go_simp; with_reducible rfl
          try simp only [tl]
          refine eT 3 ?_ [12, 8, 7, 6, 5, 4] rfl (by kernel_rfl) (by rfl) ?_ hS ?_
          rotate_left; · intro wx hx; clear hx; go_simp; with_reducible rfl
          try simp only [tl]
          refine eT 4 ?_ [12, 8, 7, 6, 5] rfl (by kernel_rfl) (by rfl) ?_ hS ?_
          rotate_left; · intro wx hx; clear hx; go_simp; with_reducible rfl
          try simp only [tl]
          refine eT 5 ?_ [12, 8, 7, 6] rfl (by kernel_rfl) (by rfl) ?_ hS ?_
          rotate_left; · intro wx hx; clear hx; go_simp; with_reducible rfl
          try simp only [tl]
          refine eT 6 ?_ [12, 8, 7] rfl (by kernel_rfl) (by rfl) ?_ hS ?_
          rotate_left
          · intro wx hx
            have q0 := (hx ⟨fb, 1, none⟩ hfl13).trans g1
            clear hx
            go_simp
            with_reducible rfl
          try simp only [tl]
          refine wpAnyE_one (i := 1) (by kernel_rfl) (by kernel_rfl) rfl (by rfl) fun K hK => ?_
          go_simp
          refine (tvals_any _ _ _ w13.drew).mono ?_
          rintro e w14 ⟨rfl, rfl⟩
          have hu14 : Upd nob w13 (w13.drew.alloc (.cells #[.slice A3 no c3] 25)) := ((Upd.refl nob w13).drew).alloc _
          refine hK _ _ (cells_of_upd hu14) ?_
          clear hK K; try simp only [tl]
          refine wpAnyE_one (i := 7) (by kernel_rfl) (by kernel_rfl) rfl (by rfl) fun K hK => ?_
          go_simp
          refine (tments_any os nm A3 c3 w13.drew.heap.size D3 _ (hD13.up hu14) (by rw [HNO.out]; exact Blk.new w13.drew _ _) (by rw [HNO.out]; omega) (HAT13.out.old (hD13.old hu14) (fun _ h => h))).mono ?_
          rintro e w15 ⟨rfl, hb15⟩
          rw [HMx.out]
          have hu15 : Upd nob w13 w15 := hu14.trans (Upd.of_below hb15)
          refine hK _ _ (cells_of_upd hu15) ?_
          clear hK K; try simp only [tl]
          have hS : ∀ p : Addr, p.block < w13.heap.size → w15.cell? p = w13.cell? p := cells_of_upd hu15
          refine eT 8 ?_ [12] rfl (by kernel_rfl) (by rfl) ?_ hS ?_
          rotate_left; · intro wx hx; clear hx; go_simp; with_reducible rfl
          try simp only [tl]
          refine eT 9 ?_ [12, 11, 10] rfl (by kernel_rfl) (by rfl) ?_ hS ?_
          rotate_left; · intro wx hx; clear hx; go_simp; with_reducible rfl
          try simp only [tl]
          refine eT 10 ?_ [12, 11] rfl (by kernel_rfl) (by rfl) ?_ hS ?_
          rotate_left; · intro wx hx; clear hx; go_simp; with_reducible rfl
          try simp only [tl]
          refine eT 11 ?_ [12] rfl (by kernel_rfl) (by rfl) ?_ hS ?_
          rotate_left; · intro wx hx; clear hx; go_simp; with_reducible rfl
          try simp only [tl]
          refine eT 12 ?_ [] rfl (by kernel_rfl) (by rfl) ?_ hS ?_
          rotate_left; · intro wx hx; clear hx; go_simp; with_reducible rfl
          try simp only [tl]
          refine wpAnyE_take (i := 13) (v := undef) [] rfl (by kernel_rfl) (fun _ _ _ h => h) (Or.inr ⟨by rfl, rfl⟩) hS ?_
          try simp only [tl]
          refine wpAnyE_z (by kernel_rfl) rfl (by rfl) fun K hK => ?_
          go_simp
          refine hK _ _ ?_
          clear hK K; try simp only [tl]
          refine wpAny_done (by kernel_rfl) ?_ _
          refine NoPanic.normal ?_
          have hus15 := hus10.trans ((hu1013.trans hu15).mono (fun _ f => f.elim))
          have e1 := E1b.out.upd hus15 (fun h => by omega)
          have hu015 := hu06.trans' hus15 (fun q hq h => by omega)
          go_wp2_with (first
                                    | ((with_reducible refine this_op (.store 50 (.tmp 4) (.tmp 136)) ?_); refine wpList_store_row rfl 50 (.tmp 4) (.tmp 136) rfl (w.heap.size + 1) _ rfl rfl 50 _ e1 cs_size rfl (by simp [Value.oneCell']) ?_))
          refine bodyPost_ret (results_cell_tmp rfl _ _ (w.heap.size + 1) 50 #[.int .i64 0, .slice none 0 0] (0, 0) _ (.int .i64 15) rfl rfl (e1.row _) Try.underlying50 rfl cs_size) rfl ?_
          exact ⟨_, rfl, ⟨none, 0, rfl, fun j y h => by simp at h⟩, ((hu015).trans' ((Upd.refl (fun q => q = w.heap.size + 1) _).setRow (.inl rfl) _) (fun q hq h => by omega)).below⟩
         | true =>
          rw [if_neg (by decide)] at hcf
          have HCF6 := Lib.hid hcf
          clear hcf HCF5
          refine wp_region_P (by kernel_rfl) ?_
          refine wpAny_of_E (fun X : World => ∀ p : Addr, p.block < w13.heap.size → X.cell? p = w13.cell? p) 14 _ _ _ _ ?_
          have hS : ∀ p : Addr, p.block < w13.heap.size → w13.drew.cell? p = w13.cell? p := fun _ _ => rfl
          refine eT 0 ?_ [12, 8, 7, 1] rfl (by kernel_rfl) (by rfl) ?_ hS ?_
          rotate_left; · intro wx hx; clear hx; go_simp; with_reducible rfl
          try simp only [tl]
          refine eT 2 ?_ [12, 8, 7, 6, 5, 4, 3] rfl (by kernel_rfl) (by rfl) ?_ hS ?_
          rotate_left; · intro wx hx; clear hx; go_simp; with_reducible rfl
          try simp only [tl]
          refine eT 3 ?_ [12, 8, 7, 6, 5, 4] rfl (by kernel_rfl) (by rfl) ?_ hS ?_
          rotate_left; · intro wx hx; clear hx; go_simp; with_reducible rfl
          try simp only [tl]
          refine eT 4 ?_ [12, 8, 7, 6, 5] rfl (by kernel_rfl) (by rfl) ?_ hS ?_
          rotate_left; · intro wx hx; clear hx; go_simp; with_reducible rfl
          try simp only [tl]
          refine eT 5 ?_ [12, 8, 7, 6] rfl (by kernel_rfl) (by rfl) ?_ hS ?_
          rotate_left; · intro wx hx; clear hx; go_simp; with_reducible rfl
          try simp only [tl]
          refine eT 6 ?_ [12, 8, 7] rfl (by kernel_rfl) (by rfl) ?_ hS ?_
          rotate_left
          · intro wx hx
            have q0 := (hx ⟨fb, 1, none⟩ hfl13).trans g1
            clear hx
            go_simp
            with_reducible rfl
          try simp only [tl]
          refine wpAnyE_one (i := 1) (by kernel_rfl) (by kernel_rfl) rfl (by rfl) fun K hK => ?_
          go_simp
          refine (tvals_any _ _ _ w13.drew).mono ?_
          rintro e w14 ⟨rfl, rfl⟩
          have hu14 : Upd nob w13 (w13.drew.alloc (.cells #[.slice A3 no c3] 25)) := ((Upd.refl nob w13).drew).alloc _
          refine hK _ _ (cells_of_upd hu14) ?_
          clear hK K; try simp only [tl]
          refine wpAnyE_one (i := 7) (by kernel_rfl) (by kernel_rfl) rfl (by rfl) fun K hK => ?_
          go_simp
          refine (tments_any os nm A3 c3 w13.drew.heap.size D3 _ (hD13.up hu14) (by rw [HNO.out]; exact Blk.new w13.drew _ _) (by rw [HNO.out]; omega) (HAT13.out.old (hD13.old hu14) (fun _ h => h))).mono ?_
          rintro e w15 ⟨rfl, hb15⟩
          rw [HMx.out]
          have hu15 : Upd nob w13 w15 := hu14.trans (Upd.of_below hb15)
          refine hK _ _ (cells_of_upd hu15) ?_
          clear hK K; try simp only [tl]
          have hS : ∀ p : Addr, p.block < w13.heap.size → w15.cell? p = w13.cell? p := cells_of_upd hu15
          refine eT 8 ?_ [12] rfl (by kernel_rfl) (by rfl) ?_ hS ?_
          rotate_left; · intro wx hx; clear hx; go_simp; with_reducible rfl
          try simp only [tl]
          refine eT 9 ?_ [12, 11, 10] rfl (by kernel_rfl) (by rfl) ?_ hS ?_
          rotate_left; · intro wx hx; clear hx; go_simp; with_reducible rfl
          try simp only [tl]
          refine eT 10 ?_ [12, 11] rfl (by kernel_rfl) (by rfl) ?_ hS ?_
          rotate_left; · intro wx hx; clear hx; go_simp; with_reducible rfl
          try simp only [tl]
          refine eT 11 ?_ [12] rfl (by kernel_rfl) (by rfl) ?_ hS ?_
          rotate_left; · intro wx hx; clear hx; go_simp; with_reducible rfl
          try simp only [tl]
          refine eT 12 ?_ [] rfl (by kernel_rfl) (by rfl) ?_ hS ?_
          rotate_left; · intro wx hx; clear hx; go_simp; with_reducible rfl
          try simp only [tl]
          refine eT 13 ?_ [] rfl (by kernel_rfl) (by rfl) ?_ hS ?_
          rotate_left; · intro wx hx; clear hx; go_simp; with_reducible rfl
          try simp only [tl]
          refine wpAnyE_z (by kernel_rfl) rfl (by rfl) fun K hK => ?_
          go_simp
          refine hK _ _ ?_
          clear hK K; try simp only [tl]
          refine wpAny_done (by kernel_rfl) ?_ _
          refine NoPanic.normal ?_
          have hus15 := hus10.trans ((hu1013.trans hu15).mono (fun _ f => f.elim))
          cases F2 with
          | true =>
           have hcf := HCF6.out
           rw [if_pos rfl] at hcf
           injection hcf with hx1 hx3
           injection hx1 with hx1 hx2
           subst hx1 hx2 hx3
           have e1 := E1b.out.upd hus15 (fun h => by omega)
           have hu015 := hu06.trans' hus15 (fun q hq h => by omega)
           clear HCF6
           go_wp2_with (first
                                       | ((with_reducible refine this_op (.store 50 (.tmp 4) (.tmp 136)) ?_); refine wpList_store_row rfl 50 (.tmp 4) (.tmp 136) rfl (w.heap.size + 1) _ rfl rfl 50 _ e1 cs_size rfl (by simp [Value.oneCell']) ?_))
           refine bodyPost_ret (results_cell_tmp rfl _ _ (w.heap.size + 1) 50 #[.int .i64 0, .slice none 0 0] (0, 0) _ (.int .i64 15) rfl rfl (e1.row _) Try.underlying50 rfl cs_size) rfl ?_
           exact ⟨_, rfl, ⟨none, 0, rfl, fun j y h => by simp at h⟩, ((hu015).trans' ((Upd.refl (fun q => q = w.heap.size + 1) _).setRow (.inl rfl) _) (fun q hq h => by omega)).below⟩
          | false =>
           have hcf := HCF6.out
           rw [if_neg (by decide)] at hcf
           have HCF7 := Lib.hid hcf
           have hw15s := hu15.size
           have hc15 := HC10.out.upd (hu1013.trans hu15) (fun f => f)
           have hco15 := HCO10.out.upd (hu1013.trans hu15) (fun _ f => f.elim) (fun q f => f.elim)
           have k1 : w15.cell? ⟨w.heap.size + 1 + 1, 1, none⟩ = some (.slice sA sl.length sc) := hc15.cell 1
           obtain ⟨W16, hW16⟩ : ∃ W16, w15.alloc (.cells #[.int .i64 j, .int .i64 no] 52) = W16 := ⟨_, rfl⟩
           have hu16 : Upd nob w15 W16 := by rw [← hW16]; exact (Upd.refl nob w15).alloc _
           have hb16 : Blk W16 w15.heap.size 52 #[.int .i64 j, .int .i64 no] := by rw [← hW16]; exact Blk.new _ _ _
           have hw16s := hu16.size
           have hco16 := hco15.upd hu16 (fun _ f => f.elim) (fun q f => f.elim)
           have hnO : ∀ q, (Value.slice sA sl.length sc).ownBlock = some q → w6.heap.size ≤ q := fun q h => (hco16.lt h).1
           have HW16 := Lib.hid hW16
           have HCO16 := Lib.hid hco16
           have HC15 := Lib.hid hc15
           clear hcf HCF6 hW16 hco15 hco16 hc15 HC10 HCO10
           go_wp2_with (first
                                       | ((with_reducible refine this_op (.buildSlice 48 1 #[(0, .tmp 142)]) ?_); refine wpList_build1 rfl 48 52 (.tmp 142) rfl _ 2 16 Try.underlying48 fd_info (by decide) (by decide) #[.int .i64 j, .int .i64 no] rfl rfl ?_
                                          rw [HW16.out])
                                       | (at_builtin; refine wpList_collect rfl (.tmp 138) (.tmp 143) 48 rfl _ 16 Try.underlying48 fd_info (by kernel_rfl) (by decide) rfl HCO16.out (fun x h => h.elim) w15.heap.size #[.int .i64 j, .int .i64 no] rfl hb16 ((j : Int), (no : Int)) nob rfl (fun x h => h.elim) sl.length rfl (by omega) (by omega) (by omega) ?_
                                          intro sA6 sc6 w17 hc17 hu17 hat17
                                          have hx17 := HC15.out.upd ((hu16.mono (fun _ f => f.elim)).trans hu17) (fun h => by have := hnO _ h; omega)
                                          have k2 : w17.cell? ⟨w.heap.size + 1 + 1, 1, none⟩ = some (.slice sA sl.length sc) := hx17.cell 1
                                          have fz1 := hx17.frozen 1
                                          have HX17 := Lib.hid hx17
                                          have HU17 := Lib.hid hu17
                                          have HCO17 := Lib.hid hc17
                                          clear hx17 hu17 hc17))
           go_roundg (gk - 1)
           case measure => omega
           case rel =>
            have hfin : Upd (fun q => q = w.heap.size + 1 + 1) w17 (w17.setCell ⟨w.heap.size + 1 + 1, 1, none⟩ (.slice sA6 (sl.length + 1) sc6)) := (Upd.refl (fun q => q = w.heap.size + 1 + 1) w17).setCell (p := ⟨w.heap.size + 1 + 1, 1, none⟩) (.inl rfl) _
            refine ⟨j + 1, sl ++ [((j : Int), (no : Int))], .slice sA6 (sl.length + 1) sc6, by omega, by go_num, HX17.out.set 1 _, HCO17.out.upd hfin (fun q hq => ⟨by omega, fun f => f⟩) (fun q f => f.elim), by simp; omega, HCF7.out, ?_⟩
            exact (hus15.trans' ((hu16.mono (fun _ f => f.elim)).trans HU17.out) (fun q hq h => by have := hnO q h; omega)).trans hfin
     have t2 : decide ((j : Int) < m) = false := by simp; omega
     have hjm : m = j := by omega
     subst hjm
     have hcf := HCF.out
     rw [List.drop_eq_nil_of_le (by rw [HML.out]; exact Nat.le_refl _), ctorF] at hcf
     injection hcf with hx1 hx3
     injection hx1 with hx1 hx2
     subst hx1 hx2 hx3
     have r6 := HC2.out.rowAt
     have e1 := E1b.out.upd hus (fun h => by omega)
     have E1c := Lib.hid e1
     obtain ⟨sA9, sc9, hv9, _, hrows⟩ := HCO.out.row_at
     have HROWS := Lib.hid hrows
     injection hv9 with z1 z2 z3
     subst z1 z3
     clear HCF e1 E1b hrows
     go_wp2_with (first
                         | ((with_reducible refine this_op (.load 50 (.tmp 6)) ?_); refine wpList_at rfl 50 (.tmp 6) rfl ⟨w.heap.size + 1 + 1, 0, none⟩ rfl _ _ r6 Try.underlying50 rfl cs_size ?_)
                         | ((with_reducible refine this_op (.store 50 (.tmp 4) (.tmp 147)) ?_); refine wpList_store_row rfl 50 (.tmp 4) (.tmp 147) rfl (w.heap.size + 1) _ rfl rfl 50 _ E1c.out cs_size rfl (by simp [Value.oneCell']) ?_))
     refine bodyPost_ret (results_cell_tmp rfl _ _ (w.heap.size + 1) 50 #[.int .i64 (m : Int), .slice sA sl.length sc] (0, 0) _ (.int .i64 0) rfl rfl (E1c.out.row _) Try.underlying50 rfl cs_size) rfl ?_
     have hfin : Upd (fun q => q = w.heap.size + 1) wr (wr.setRow (w.heap.size + 1) #[.int .i64 (m : Int), .slice sA sl.length sc]) := (Upd.refl (fun q => q = w.heap.size + 1) wr).setRow (.inl rfl) _
     refine ⟨_, rfl, ⟨sA, sc, rfl, fun i y hy => ?_⟩, ((hu06.trans' hus (fun q hq h => by omega)).trans' hfin (fun q hq h => by omega)).below⟩
     obtain ⟨a, csy, g1, g2, g3, g4⟩ := HROWS.out i y hy
     have g5 : csy = #[.int .i64 y.1, .int .i64 y.2] := g4
     subst g5
     refine ⟨a, g1, ⟨by omega, by simp; omega⟩, fun q v hv => (hfin.cell (by rw [Addr_add_block, Addr_add_block]; exact g2.2) (by rw [Addr_add_block, Addr_add_block]; show a.block ≠ _; omega)).trans (g3 q v hv)⟩
end Go.Proofs.Ytiampoebdmflgaa
/- shape.Of. -/
namespace Go.Proofs.Ytiampoebdmflgaa
open Go.RowKit
set_option linter.unusedVariables false
set_option maxRecDepth 100000
set_option maxHeartbeats 4000000
set_option linter.unusedSimpArgs false
abbrev CShape := Int × List (Int × Int)
abbrev TShape := Int × Lv × List CShape
def ofF (f : Tm → CShape × Int) : List (ByteArray × Tm) → List CShape → List CShape × Int
 | [], acc => (acc, 0)
 | c :: l, acc => if (f c.2).2 = 0 then ofF f l (acc ++ [(f c.2).1]) else ([], (f c.2).2)
def zshape : TShape := (0, .mk 0 0 [], [])
def tof (dk : Int) (nm : ByteArray) (vs pa : Int) (ty : Tm) (cts : List (ByteArray × Tm)) : TShape × Int :=
 if dk ≠ 3 ∨ pa < 0 ∨ vs < 0 ∨ 6 < vs then (zshape, 1)
 else if (trow ty).2.k ≠ 2 ∨ (((trow ty).1.length : Nat) : Int) < pa then (zshape, 14)
 else if (ofF (tctor nm pa.toNat ((trow ty).1.length - pa.toNat) (tself nm vs.toNat) (trow ty).1) cts []).2 = 0 then
  ((((trow ty).1.length : Int) - pa, lplus 0 (trow ty).2.lv, (ofF (tctor nm pa.toNat ((trow ty).1.length - pa.toNat) (tself nm vs.toNat) (trow ty).1) cts []).1), 0)
 else (zshape, (ofF (tctor nm pa.toNat ((trow ty).1.length - pa.toNat) (tself nm vs.toNat) (trow ty).1) cts []).2)
theorem tof_main {nm : ByteArray} {ty rs : Tm} {cts : List (ByteArray × Tm)} {ds : List Tm} {n p m idx : Nat} (h : trow ty = (ds, rs)) (hn : ds.length = n) (hk : rs.k = 2) (hm : m ≤ 6) (hi : n = p + idx) :
    tof 3 nm (m : Int) (p : Int) ty cts = (if (ofF (tctor nm p idx (tself nm m) ds) cts []).2 = 0 then (((n : Int) - p, lplus 0 rs.lv, (ofF (tctor nm p idx (tself nm m) ds) cts []).1), 0) else (zshape, (ofF (tctor nm p idx (tself nm m) ds) cts []).2)) := by
 have e1 : n - (p : Int).toNat = idx := by omega
 have e2 : (p : Int).toNat = p := by omega
 have e3 : (m : Int).toNat = m := by omega
 unfold tof
 rw [h, if_neg (by omega)]
 simp only
 rw [if_neg (by rw [hn]; omega), hn, e1, e2, e3]
theorem tof_14 {nm : ByteArray} {ty rs : Tm} {cts : List (ByteArray × Tm)} {ds : List Tm} {n p m : Nat} (h : trow ty = (ds, rs)) (hn : ds.length = n) (hm : m ≤ 6) (hr : ¬ (rs.k = 2 ∧ p ≤ n)) : tof 3 nm (m : Int) (p : Int) ty cts = (zshape, 14) := by
 unfold tof
 rw [h, if_neg (by omega)]
 simp only
 rw [if_pos (by rw [hn]; omega)]
def CtorsAt (D : Nat → Prop) (w : World) (cts : List (ByteArray × Tm)) (A : Option Addr) : Prop :=
 ∀ (j : Nat) x, cts[j]? = some x → ∃ a cs, A = some a ∧ D a.block ∧ rowAt w (a.add (j * 9)) (#[Value.string x.1] ++ cs) ∧ TmIs D w x.2 cs
theorem CtorsAt.old {D D' : Nat → Prop} {w w' : World} {cts : List (ByteArray × Tm)} {A : Option Addr} (h : CtorsAt D w cts A) (ho : Old D w w') (hD : ∀ k, D k → D' k) : CtorsAt D' w' cts A := fun j x hx => by
 obtain ⟨a, cs, h1, h2, h3, h4⟩ := h j x hx
 exact ⟨a, cs, h1, hD _ h2, h3.old ho (by rw [Addr_add_block]; exact h2), h4.old ho hD⟩
def ShIs (D : Nat → Prop) (w : World) (s : TShape) (cs : Array Value) : Prop :=
 ∃ (x y z : Value) (A : Option Addr) (c : Nat), cs = #[.int .i64 s.1, x, y, z, .slice A s.2.2.length c] ∧ LvIs D w s.2.1 #[x, y, z] ∧
  ∀ (j : Nat) y, s.2.2[j]? = some y → ∃ (a : Addr) (cs : Array Value), A = some a ∧ D a.block ∧ rowAt w (a.add (j * 2)) cs ∧ CsIs D w y cs
theorem CsIs.cells2 {D : Nat → Prop} {w : World} {x : CShape} {cs : Array Value} (h : CsIs D w x cs) : cs.size = 2 ∧ cs.all (·.oneCell') = true := csR.cells h
theorem zshape_is (D : Nat → Prop) (w : World) : ShIs D w zshape #[.int .i64 0, .int .i64 0, .int .i64 0, .slice none 0 0, .slice none 0 0] := ⟨_, _, _, none, 0, rfl, lzero_is _ _, fun j y h => by simp [zshape] at h⟩
theorem sh_size : (Try.prog.info? 35).map (·.size) = some 5 := by kernel_rfl
theorem sh_zero (w : World) : (zeroValue 35).run Try.prog w = .ok (.agg #[.int .i64 0, .int .i64 0, .int .i64 0, .slice none 0 0, .slice none 0 0]) w := by kernel_rfl
theorem dc_size : (Try.prog.info? 30).map (·.size) = some 21 := by kernel_rfl
theorem ct_size : (Try.prog.info? 46).map (·.size) = some 9 := by kernel_rfl
theorem ct_zero (w : World) : (zeroValue 46).run Try.prog w = .ok (.agg (#[Value.string ByteArray.empty] ++ #[.int .i64 0, .int .i64 0, .string ByteArray.empty, .int .i64 0, .int .i64 0, .slice none 0 0, .slice none 0 0, .slice none 0 0])) w := by kernel_rfl
theorem cs_info : (Try.prog.info? 50).map (fun i => (i.zero, i.size, i.bytes)) = some (some (.agg #[.int .i64 0, .slice none 0 0]), 2, 32) := by kernel_rfl
set_option maxHeartbeats 8000000 in
theorem tof_any (dk : Int) (nm : ByteArray) (vs pa : Int) (ty : Tm) (cts : List (ByteArray × Tm)) (a0 a1 a2 a3 a4 a5 a6 a7 b0 b1 b2 b3 b4 b5 b6 b7 : Value) (cA : Option Addr) (cc : Nat) (D : Nat → Prop) (w : World)
    (hD : Within D w) (ht : TmIs D w ty #[a0, a1, a2, a3, a4, a5, a6, a7]) (hnm : nm.size ≤ 140737488351232) (hcs : CtorsAt D w cts cA) (hcl : cts.length * 120 ≤ 140737488351232)
    (hh : ty.height * 120 ≤ 140737488351232) (hhc : ∀ x, x ∈ cts → x.2.height * 120 ≤ 140737488351232) :
    Calls Try.prog 10 #[.agg #[.int .i64 dk, .string nm, .int .i64 vs, a0, a1, a2, a3, a4, a5, a6, a7, b0, b1, b2, b3, b4, b5, b6, b7, .int .i64 pa, .slice cA cts.length cc]] w fun e w' => ∃ cs', e = .returned (.tuple #[.agg cs', .int .i64 (tof dk nm vs pa ty cts).2]) ∧ ShIs (grow D w w') w' (tof dk nm vs pa ty cts).1 cs' ∧ Below w.heap.size w w' := by
 have hz := tm_zero
 have hz2 := sh_zero
 have hz4 := cs_zero
 obtain ⟨⟨⟨X1, X2, X3⟩, X4⟩, hX⟩ : ∃ X, tof dk nm vs pa ty cts = X := ⟨_, rfl⟩
 rw [hX]
 have HX := Lib.hid hX; clear hX
 obtain ⟨W1, hW1⟩ : ∃ W1, (w.alloc (.cells #[.int .i64 dk, .string nm, .int .i64 vs, a0, a1, a2, a3, a4, a5, a6, a7, b0, b1, b2, b3, b4, b5, b6, b7, .int .i64 pa, .slice cA cts.length cc] 30)).alloc (.cells #[.int .i64 0, .int .i64 0, .int .i64 0, .slice none 0 0, .slice none 0 0] 35) = W1 := ⟨_, rfl⟩
 have huW1 : Upd nob w W1 := by rw [← hW1]; exact ((Upd.refl nob w).alloc _).alloc _
 have hsW1 : W1.heap.size = w.heap.size + 2 := by rw [← hW1]; simp
 have bk0 : Blk W1 (w.heap.size) 30 #[.int .i64 dk, .string nm, .int .i64 vs, a0, a1, a2, a3, a4, a5, a6, a7, b0, b1, b2, b3, b4, b5, b6, b7, .int .i64 pa, .slice cA cts.length cc] := by
  rw [← hW1]
  have h := Blk.new (w) 30 #[.int .i64 dk, .string nm, .int .i64 vs, a0, a1, a2, a3, a4, a5, a6, a7, b0, b1, b2, b3, b4, b5, b6, b7, .int .i64 pa, .slice cA cts.length cc]
  exact h.alloc _
 have bk1 : Blk W1 (w.heap.size + 1) 35 #[.int .i64 0, .int .i64 0, .int .i64 0, .slice none 0 0, .slice none 0 0] := by
  rw [← hW1]
  have h := Blk.new (w.alloc (.cells #[.int .i64 dk, .string nm, .int .i64 vs, a0, a1, a2, a3, a4, a5, a6, a7, b0, b1, b2, b3, b4, b5, b6, b7, .int .i64 pa, .slice cA cts.length cc] 30)) 35 #[.int .i64 0, .int .i64 0, .int .i64 0, .slice none 0 0, .slice none 0 0]
  rw [World.size_alloc] at h
  exact h
 have hlt := ht
 have ht1 := ht.old (hD.old huW1) (fun _ h => h)
 have hcs1 := hcs.old (hD.old huW1) (fun _ h => h)
 have hD1 := hD.up huW1
 have rm : rowAt W1 ⟨w.heap.size, 3, none⟩ #[a0, a1, a2, a3, a4, a5, a6, a7] := sub_row (p := ⟨w.heap.size, 0, none⟩) bk0.rowAt 3 _ (fun j v hv => by
  match j, hv with
  | 0, hv | 1, hv | 2, hv | 3, hv | 4, hv | 5, hv | 6, hv | 7, hv => exact hv
  | (j + 8), hv => simp at hv)
 have HK0 := Lib.hid bk0
 have HK1 := Lib.hid bk1
 have HT1 := Lib.hid ht1
 have HC1 := Lib.hid hcs1
 clear ht1 hcs1 hcs ht bk0 bk1 hlt
 have HW1 := Lib.hid hW1; clear hW1
 rw [← HW1.out] at rm
 have bad : dk ≠ 3 ∨ pa < 0 ∨ vs < 0 ∨ 6 < vs → X1 = 0 ∧ X2 = .mk 0 0 [] ∧ X3 = [] ∧ X4 = 1 := fun h => by
  have hx := HX.out
  rw [tof, if_pos h, zshape] at hx
  injection hx with h1 h2
  injection h1 with h1 h3
  injection h3 with h3 h4
  exact ⟨h1.symm, h3.symm, h4.symm, h2.symm⟩
 have BAD := Lib.hid bad
 clear bad
 by_cases c1 : dk = 3
 · subst c1
   by_cases c2 : pa < 0
   · have t2 : decide (pa < 0) = true := by simp [c2]
     obtain ⟨rfl, rfl, rfl, rfl⟩ := BAD.out (.inr (.inl c2))
     clear BAD HX c2
     go_enter Try.func10, Try.ntmps10
     go_wp2_with (first
         | ((with_reducible refine this_op (.store 35 (.tmp 2) (.tmp 29)) ?_); refine wpList_store_row rfl 35 (.tmp 2) (.tmp 29) rfl (w.heap.size + 1) _ rfl rfl 35 _ (by rw [HW1.out]; exact HK1.out) sh_size rfl (by simp [Value.oneCell']) ?_))
     refine bodyPost_ret (results_cell_tmp rfl _ _ (w.heap.size + 1) 35 #[.int .i64 0, .int .i64 0, .int .i64 0, .slice none 0 0, .slice none 0 0] (0, 0) _ (.int .i64 1) rfl rfl ((show Blk _ (w.heap.size + 1) 35 _ from by rw [HW1.out]; exact HK1.out).row _) Try.underlying35 rfl sh_size) rfl ?_
     exact ⟨_, rfl, zshape_is _ _, ((((Upd.refl nob w).alloc _).alloc _).trans' ((Upd.refl (fun q => q = w.heap.size + 1) _).setRow (.inl rfl) _) (fun q hq h => by omega)).below⟩
   by_cases c3 : vs < 0
   · have t2 : decide (pa < 0) = false := by simp; omega
     have t3 : decide (vs < 0) = true := by simp [c3]
     obtain ⟨rfl, rfl, rfl, rfl⟩ := BAD.out (.inr (.inr (.inl c3)))
     clear BAD HX c2 c3
     go_enter Try.func10, Try.ntmps10
     go_wp2_with (first
         | ((with_reducible refine this_op (.store 35 (.tmp 2) (.tmp 29)) ?_); refine wpList_store_row rfl 35 (.tmp 2) (.tmp 29) rfl (w.heap.size + 1) _ rfl rfl 35 _ (by rw [HW1.out]; exact HK1.out) sh_size rfl (by simp [Value.oneCell']) ?_))
     refine bodyPost_ret (results_cell_tmp rfl _ _ (w.heap.size + 1) 35 #[.int .i64 0, .int .i64 0, .int .i64 0, .slice none 0 0, .slice none 0 0] (0, 0) _ (.int .i64 1) rfl rfl ((show Blk _ (w.heap.size + 1) 35 _ from by rw [HW1.out]; exact HK1.out).row _) Try.underlying35 rfl sh_size) rfl ?_
     exact ⟨_, rfl, zshape_is _ _, ((((Upd.refl nob w).alloc _).alloc _).trans' ((Upd.refl (fun q => q = w.heap.size + 1) _).setRow (.inl rfl) _) (fun q hq h => by omega)).below⟩
   by_cases c4 : 6 < vs
   · have t2 : decide (pa < 0) = false := by simp; omega
     have t3 : decide (vs < 0) = false := by simp; omega
     have t4 : decide (6 < vs) = true := by simp [c4]
     obtain ⟨rfl, rfl, rfl, rfl⟩ := BAD.out (.inr (.inr (.inr c4)))
     clear BAD HX c2 c3 c4
     go_enter Try.func10, Try.ntmps10
     go_wp2_with (first
         | ((with_reducible refine this_op (.store 35 (.tmp 2) (.tmp 29)) ?_); refine wpList_store_row rfl 35 (.tmp 2) (.tmp 29) rfl (w.heap.size + 1) _ rfl rfl 35 _ (by rw [HW1.out]; exact HK1.out) sh_size rfl (by simp [Value.oneCell']) ?_))
     refine bodyPost_ret (results_cell_tmp rfl _ _ (w.heap.size + 1) 35 #[.int .i64 0, .int .i64 0, .int .i64 0, .slice none 0 0, .slice none 0 0] (0, 0) _ (.int .i64 1) rfl rfl ((show Blk _ (w.heap.size + 1) 35 _ from by rw [HW1.out]; exact HK1.out).row _) Try.underlying35 rfl sh_size) rfl ?_
     exact ⟨_, rfl, zshape_is _ _, ((((Upd.refl nob w).alloc _).alloc _).trans' ((Upd.refl (fun q => q = w.heap.size + 1) _).setRow (.inl rfl) _) (fun q hq h => by omega)).below⟩
   have t2 : decide (pa < 0) = false := by simp; omega
   have t3 : decide (vs < 0) = false := by simp; omega
   have t4 : decide (6 < vs) = false := by simp; omega
   have hx := HX.out
   obtain ⟨p, hp⟩ : ∃ p : Nat, pa = p := ⟨pa.toNat, by omega⟩
   obtain ⟨m, hm⟩ : ∃ m : Nat, vs = m := ⟨vs.toNat, by omega⟩
   have hm6 : m ≤ 6 := by omega
   subst hp hm
   have HX2 := Lib.hid hx
   clear BAD HX c2 c3 c4 hx
   go_enter Try.func10, Try.ntmps10
   go_wp2_with (first
       | ((with_reducible refine this_op (.load 27 (.tmp 31)) ?_); refine wpList_at rfl 27 (.tmp 31) rfl ⟨w.heap.size, 3, none⟩ rfl _ _ rm Try.underlying27 rfl tm_size ?_))
   rw [HW1.out]
   clear rm HW1
   refine (trow_any ty _ D W1 hD1 HT1.out (by have := trow_le ty; omega)).mono ?_
   rintro e w2 ⟨cs2, A, c, rfl, hl2, hlc, hat2, hb2⟩
   have hu2 : Upd nob W1 w2 := Upd.of_below hb2
   have hle := trow_le ty
   obtain ⟨⟨ds, rs⟩, hsp⟩ : ∃ x, trow ty = x := ⟨_, rfl⟩
   rw [hsp] at hl2 hlc hat2 hle ⊢
   simp only at hl2 hlc hat2 hle ⊢
   obtain ⟨n, hn⟩ : ∃ n, ds.length = n := ⟨_, rfl⟩
   rw [hn] at hlc hle ⊢
   have HN := Lib.hid hn
   have HL2 := Lib.hid hl2
   have hs2 := hl2.oneCell
   obtain ⟨rk, rn, rnm, rlv, rls, rks⟩ := rs
   obtain ⟨lx, ly, lz, LA, Lc, KA, Kc, rfl, hrk, _, _, hlv, _, _, _, _⟩ := hl2.lit
   simp only [Tm.k, Tm.n, Tm.nm, Tm.lv, Tm.ls, Tm.ks] at hlv hs2 hrk ⊢
   have HSP := Lib.hid hsp
   have HLV := Lib.hid hlv
   have HAT2 := Lib.hid hat2
   have hw2s := hu2.size
   clear hsp hn hl2 hat2 hlv HT1
   by_cases hr : rk = 2 ∧ p ≤ n
   · obtain ⟨rfl, hpn⟩ := hr
     have t5 : decide ((n : Int) < (p : Int)) = false := by simp; omega
     obtain ⟨idx, hidx⟩ : ∃ idx, n = p + idx := ⟨n - p, by omega⟩
     have hwr : IntKind.i64.wrap ((n : Int) - (p : Int)) = (idx : Int) := (IntWalk.i64_in _ (by omega)).trans (by omega)
     have hx := HX2.out
     rw [tof_main (idx := idx) HSP.out HN.out rfl hm6 hidx] at hx
     simp only [Tm.lv] at hx
     obtain ⟨CT, hCT⟩ : ∃ f, tctor nm p idx (tself nm m) ds = f := ⟨_, rfl⟩
     rw [hCT] at hx
     obtain ⟨⟨R1, R2⟩, hR⟩ : ∃ x, ofF CT cts [] = x := ⟨_, rfl⟩
     rw [hR] at hx
     simp only at hx
     have HX4 := Lib.hid hx
     have HCT := Lib.hid hCT
     have HR := Lib.hid hR
     have HIDX := Lib.hid hidx
     clear hx hCT hR HX2 HSP hidx
     go_wp2_with (first
                     | ((with_reducible refine this_op (.store 27 (.tmp 5) (.tmp 35)) ?_); refine wpList_store_row rfl 27 (.tmp 5) (.tmp 35) rfl w2.heap.size _ rfl rfl 27 _ (Blk.new w2 _ _) tm_size rfl hs2.2 ?_
                        obtain ⟨W3, hW3⟩ : ∃ W3, (w2.alloc (.cells #[.int .i64 0, .int .i64 0, .string ByteArray.empty, .int .i64 0, .int .i64 0, .slice none 0 0, .slice none 0 0, .slice none 0 0] 27)).setRow w2.heap.size #[.int .i64 2, .int .i64 rn, .string rnm, lx, ly, lz, .slice LA rls.length Lc, .slice KA rks.length Kc] = W3 := ⟨_, rfl⟩
                        have hu3 : Upd nob w2 W3 := by rw [← hW3]; exact ((Upd.refl nob w2).alloc _).setRow (.inr (Nat.le_refl _)) _
                        have hb3 : Blk W3 w2.heap.size 27 #[.int .i64 2, .int .i64 rn, .string rnm, lx, ly, lz, .slice LA rls.length Lc, .slice KA rks.length Kc] := by rw [← hW3]; exact (Blk.new w2 _ _).row _
                        rw [hW3]
                        clear hW3
                        have hu13 := hu2.trans hu3
                        have u0 := HK0.out.upd hu13 (fun f => f)
                        have u1 := HK1.out.upd hu13 (fun f => f)
                        have q5 : W3.cell? ⟨w.heap.size, 19, none⟩ = some (.int .i64 p) := u0.cell 19
                        have q0 : W3.cell? ⟨w2.heap.size, 0, none⟩ = some (.int .i64 2) := hb3.cell 0
                        have U0 := Lib.hid u0
                        have U1 := Lib.hid u1
                        have HB3 := Lib.hid hb3
                        clear u0 u1 hb3))
     have hu03 : Upd nob w W3 := (huW1.trans hu2).trans hu3
     have rd := U0.out.rowAt
     have hw3s := hu3.size
     have hs89 : (Try.prog.info? 30).map (·.size) = some 21 := dc_size
     clear q5 q0 t5
     refine wp_region_P (by kernel_rfl) ?_
     refine wpAny_of_E (fun X : World => ∀ p : Addr, p.block < W3.heap.size → X.cell? p = W3.cell? p) 6 _ _ _ _ ?_
     have hS : ∀ p : Addr, p.block < W3.heap.size → W3.drew.cell? p = W3.cell? p := fun _ _ => rfl
     refine eT 0 (.agg #[.int .i64 3, .string nm, .int .i64 m, a0, a1, a2, a3, a4, a5, a6, a7, b0, b1, b2, b3, b4, b5, b6, b7, .int .i64 p, .slice cA cts.length cc]) [] rfl (by kernel_rfl) (by rfl) ?_ hS ?_
     · intro wx hx
       exact run_load_at 30 (.tmp 1) rfl ⟨w.heap.size, 0, none⟩ rfl #[.int .i64 3, .string nm, .int .i64 m, a0, a1, a2, a3, a4, a5, a6, a7, b0, b1, b2, b3, b4, b5, b6, b7, .int .i64 p, .slice cA cts.length cc] _ (row_on rd (by show w.heap.size < _; omega) hx) Try.underlying30 rfl dc_size
     try simp only [tl]
     refine eT 1 (.agg #[.int .i64 3, .string nm, .int .i64 m, a0, a1, a2, a3, a4, a5, a6, a7, b0, b1, b2, b3, b4, b5, b6, b7, .int .i64 p, .slice cA cts.length cc]) [] rfl (by kernel_rfl) (by rfl) ?_ hS ?_
     · intro wx hx
       exact run_load_at 30 (.tmp 1) rfl ⟨w.heap.size, 0, none⟩ rfl #[.int .i64 3, .string nm, .int .i64 m, a0, a1, a2, a3, a4, a5, a6, a7, b0, b1, b2, b3, b4, b5, b6, b7, .int .i64 p, .slice cA cts.length cc] _ (row_on rd (by show w.heap.size < _; omega) hx) Try.underlying30 rfl dc_size
     try simp only [tl]
     refine eT 3 ?_ [] rfl (by kernel_rfl) (by rfl) ?_ hS ?_
     rotate_left; · intro wx hx; clear hx; go_simp; with_reducible rfl
     try simp only [tl]
     refine wpAnyE_one (i := 2) (by kernel_rfl) (by kernel_rfl) rfl (by rfl) fun K hK => ?_
     go_simp
     refine (tself_any 3 nm m a0 a1 a2 a3 a4 a5 a6 a7 b0 b1 b2 b3 b4 b5 b6 b7 p (.slice cA cts.length cc) W3.drew (by omega) hnm).mono ?_
     rintro e w4 ⟨cs4, rfl, hl4, hb4⟩
     have hu4 : Upd nob W3 w4 := ((Upd.refl nob W3).drew).trans (Upd.of_below hb4)
     obtain ⟨s0, s1, s2, s3, s4, s5, s6, s7, rfl⟩ : ∃ s0 s1 s2 s3 s4 s5 s6 s7, cs4 = #[s0, s1, s2, s3, s4, s5, s6, s7] := by
      obtain ⟨_, _, _, _, _, _, _, h9, _⟩ := hl4.lit
      exact ⟨_, _, _, _, _, _, _, _, h9⟩
     refine hK _ _ (cells_of_upd hu4) ?_
     clear hK K; try simp only [tl]
     have hS : ∀ p : Addr, p.block < W3.heap.size → w4.cell? p = W3.cell? p := cells_of_upd hu4
     refine eT 4 (.agg #[.int .i64 3, .string nm, .int .i64 m, a0, a1, a2, a3, a4, a5, a6, a7, b0, b1, b2, b3, b4, b5, b6, b7, .int .i64 p, .slice cA cts.length cc, s0, s1, s2, s3, s4, s5, s6, s7, .slice A n c, .int .i64 0, .int .i64 0, .int .i64 0, .slice none 0 0, .slice none 0 0]) [] rfl (by kernel_rfl) (by rfl) ?_ hS ?_
     · intro wx hx
       refine run_build_op 89 #[(0, .tmp 47), (1, .tmp 49), (2, .tmp 50)] rfl _ ?_
       kernel_rfl
     try simp only [tl]
     refine wpAnyE_one (i := 5) (by kernel_rfl) (by kernel_rfl) rfl (by rfl) fun K hK => ?_
     go_simp
     have hu5 : Upd nob W3 (w4.alloc (.cells #[.int .i64 3, .string nm, .int .i64 m, a0, a1, a2, a3, a4, a5, a6, a7, b0, b1, b2, b3, b4, b5, b6, b7, .int .i64 p, .slice cA cts.length cc, s0, s1, s2, s3, s4, s5, s6, s7, .slice A n c, .int .i64 0, .int .i64 0, .int .i64 0, .slice none 0 0, .slice none 0 0] 89)) := hu4.alloc _
     refine hK _ _ (cells_of_upd hu5) ?_
     clear hK K; try simp only [tl]
     refine wpAnyE_z (by kernel_rfl) rfl (by rfl) fun K hK => ?_
     go_simp
     refine hK _ _ ?_
     clear hK K; try simp only [tl]
     refine wpAny_done (by kernel_rfl) ?_ _
     refine NoPanic.normal ?_
     have hw4s := hu4.size
     have hw2u := hu2.size
     have hlt3 := HB3.out.lt
     obtain ⟨W5, hW5⟩ : ∃ W5, w4.alloc (.cells #[.int .i64 3, .string nm, .int .i64 m, a0, a1, a2, a3, a4, a5, a6, a7, b0, b1, b2, b3, b4, b5, b6, b7, .int .i64 p, .slice cA cts.length cc, s0, s1, s2, s3, s4, s5, s6, s7, .slice A n c, .int .i64 0, .int .i64 0, .int .i64 0, .slice none 0 0, .slice none 0 0] 89) = W5 := ⟨_, rfl⟩
     have hu45 : Upd nob w4 W5 := by rw [← hW5]; exact (Upd.refl nob w4).alloc _
     have hb5 : Blk W5 w4.heap.size 89 #[.int .i64 3, .string nm, .int .i64 m, a0, a1, a2, a3, a4, a5, a6, a7, b0, b1, b2, b3, b4, b5, b6, b7, .int .i64 p, .slice cA cts.length cc, s0, s1, s2, s3, s4, s5, s6, s7, .slice A n c, .int .i64 0, .int .i64 0, .int .i64 0, .slice none 0 0, .slice none 0 0] := by rw [← hW5]; exact Blk.new _ _ _
     have hs5 : W5.heap.size = w4.heap.size + 1 := by rw [← hW5]; simp
     rw [hW5]
     clear hW5 rd
     have hu35 := hu4.trans hu45
     have v0 := U0.out.upd hu35 (fun f => f)
     have v1 := U1.out.upd hu35 (fun f => f)
     have v3 := HB3.out.upd hu35 (fun f => f)
     have q19 : W5.cell? ⟨w.heap.size, 19, none⟩ = some (.int .i64 p) := v0.cell 19
     have hu6 : Upd (fun q => q = w4.heap.size) W5 (W5.setCell ⟨w4.heap.size, 30, none⟩ (.int .i64 idx)) := (Upd.refl (fun q => q = w4.heap.size) W5).setCell (p := ⟨w4.heap.size, 30, none⟩) (.inl rfl) _
     have hb6 := hb5.set 30 (.int .i64 idx)
     have c30 : W5.cell? ⟨w4.heap.size, 30, none⟩ = some (.int .i64 0) := hb5.cell 30
     have z30 := hb5.frozen 30
     obtain ⟨W6, hW6⟩ : ∃ W6, W5.setCell ⟨w4.heap.size, 30, none⟩ (.int .i64 idx) = W6 := ⟨_, rfl⟩
     rw [hW6] at hu6 hb6
     have v03 := v3.upd hu6 (fun h => by show False; have : w2.heap.size = w4.heap.size := h; omega)
     have rl : rowAt W6 ⟨w2.heap.size, 3, none⟩ #[lx, ly, lz] := sub_row (p := ⟨w2.heap.size, 0, none⟩) v03.rowAt 3 _ (fun j v hv => by
      match j, hv with
      | 0, hv | 1, hv | 2, hv => exact hv
      | (j + 3), hv => simp at hv)
     rw [← hW6] at rl
     have V0 := Lib.hid (v0.upd hu6 (fun h => by omega))
     have V1 := Lib.hid (v1.upd hu6 (fun h => by omega))
     have HB6 := Lib.hid hb6
     have HW6 := Lib.hid hW6
     clear v0 v1 v3 v03 hb5 hb6 hW6 U0 U1 HB3
     go_wp2_with (first
                     | ((with_reducible refine this_op (.load 24 (.tmp 63)) ?_); refine wpList_at rfl 24 (.tmp 63) rfl ⟨w2.heap.size, 3, none⟩ rfl _ _ rl Try.underlying24 rfl lv_size ?_))
     rw [HW6.out]
     have hD2 : Within (grow D W1 w2) w2 := fun q hq => hq.elim (fun h => hD1.up hu2 q h) (fun h => h.2)
     have hu26 : Upd (fun q => q = w4.heap.size) w2 W6 := (((hu3.trans hu35).mono (fun _ f => f.elim)) : Upd (fun q => q = w4.heap.size) w2 W5).trans hu6
     have hw5s := hu6.size
     have ho26 : Old (grow D W1 w2) w2 W6 := Old.of_upd hu26 fun q hq => ⟨fun h => by have := hD2 q hq; omega, hD2 q hq⟩
     have hlv6 := HLV.out.old ho26 (fun _ h => h)
     have hD6 : Within (grow D W1 w2) W6 := fun q hq => by have := hD2 q hq; have := hu26.size; omega
     clear rl c30 z30 HW6
     refine (lplus_any 0 rlv _ (grow D W1 w2) W6 (by unfold InI; omega) hD6 hlv6).mono ?_
     rintro e w7 ⟨cs7, rfl, hl7, hb7⟩
     have hu7 : Upd nob W6 w7 := Upd.of_below hb7
     have hw7s := hu7.size
     have hs7 := hl7.oneCell
     obtain ⟨qx, qy, qz, rfl⟩ := hl7.three
     have hb67 := HB6.out.upd hu7 (fun f => f)
     have HB67 := Lib.hid hb67
     have HL7 := Lib.hid hl7
     clear hl7 hb67 hlv6
     obtain ⟨M, hM⟩ : ∃ M, cts.length = M := ⟨_, rfl⟩
     rw [hM] at hcl
     have HM := Lib.hid hM
     have hb68 := HB67.out
     rw [hM] at V0 hb68 ⊢
     have HB67 := Lib.hid hb68
     clear hM hb68
     go_wp2_with (first
                     | ((with_reducible refine this_op (.store 24 (.tmp 68) (.tmp 65)) ?_); go_loud (refine wpList_store_part rfl 24 (.tmp 68) (.tmp 65) rfl w4.heap.size 31 #[qx, qy, qz] rfl rfl 89 _ (#[.int .i64 3, .string nm, .int .i64 m, a0, a1, a2, a3, a4, a5, a6, a7, b0, b1, b2, b3, b4, b5, b6, b7, .int .i64 p, .slice cA M cc, s0, s1, s2, s3, s4, s5, s6, s7, .slice A n c, .int .i64 idx, qx, qy, qz, .slice none 0 0]) HB67.out lv_size (by rw [Array.size_setIfInBounds]; exact Nat.le_of_ble_eq_true rfl) hs7.2 rfl ?_)
                        obtain ⟨W8, hW8⟩ : ∃ W8, w7.setRow w4.heap.size (#[.int .i64 3, .string nm, .int .i64 m, a0, a1, a2, a3, a4, a5, a6, a7, b0, b1, b2, b3, b4, b5, b6, b7, .int .i64 p, .slice cA M cc, s0, s1, s2, s3, s4, s5, s6, s7, .slice A n c, .int .i64 idx, qx, qy, qz, .slice none 0 0]) = W8 := ⟨_, rfl⟩
                        have hu8 : Upd (fun q => q = w4.heap.size) w7 W8 := by rw [← hW8]; exact (Upd.refl (fun q => q = w4.heap.size) w7).setRow (.inl rfl) _
                        have hb8 : Blk W8 w4.heap.size 89 (#[.int .i64 3, .string nm, .int .i64 m, a0, a1, a2, a3, a4, a5, a6, a7, b0, b1, b2, b3, b4, b5, b6, b7, .int .i64 p, .slice cA M cc, s0, s1, s2, s3, s4, s5, s6, s7, .slice A n c, .int .i64 idx, qx, qy, qz, .slice none 0 0]) := by rw [← hW8]; exact HB67.out.row _
                        rw [hW8]
                        clear hW8
                        have c20 : W8.cell? ⟨w.heap.size, 20, none⟩ = some (.slice cA M cc) := ((V0.out.upd hu7 (fun f => f)).upd hu8 (fun h => by omega)).cell 20
                        have HB8 := Lib.hid hb8
                        clear hb8))
     have hf0 : w.heap.size ≤ w4.heap.size := by omega
     have huW8 : Upd nob w W8 := (((hu03.trans hu35).trans' hu6 (fun q hq h => by have : q = w4.heap.size := h; omega)).trans hu7).trans' hu8 (fun q hq h => by have : q = w4.heap.size := h; omega)
     have hu28 : Upd (fun q => q = w4.heap.size) w2 W8 := (hu26.trans (hu7.mono (fun _ f => f.elim))).trans hu8
     have hu48 : Upd (fun q => q = w4.heap.size) w4 W8 := ((((hu45.mono (fun _ f => f.elim)) : Upd (fun q => q = w4.heap.size) w4 W5).trans hu6).trans (hu7.mono (fun _ f => f.elim))).trans hu8
     have hD2f : ∀ q, grow D W1 w2 q → q < w4.heap.size := fun q hq => by have := hD2 q hq; omega
     have hat8 : TmsAt (fun q => q < w4.heap.size) W8 ds A 0 := HAT2.out.old (Old.of_upd hu28 fun q hq => ⟨fun h => by have := hD2f q hq; omega, hD2 q hq⟩) hD2f
     have hsf8 : TmIs (fun q => q < w4.heap.size) W8 (tself nm m) #[s0, s1, s2, s3, s4, s5, s6, s7] := hl4.old (Old.of_upd hu48 fun q hq => ⟨fun h => by have := hq.2; omega, hq.2⟩) (fun q hq => hq.2)
     have hct8 : CtorsAt (fun q => q < w4.heap.size) W8 cts cA := HC1.out.old (Old.of_upd ((hu2.mono (fun _ f => f.elim)).trans hu28) fun q hq => ⟨fun h => by have := hD q hq; omega, hD1 q hq⟩) (fun q hq => by have := hD q hq; omega)
     have hDl : ∀ q, grow (grow D W1 w2) W6 w7 q → q ≠ w4.heap.size ∧ q ≠ w.heap.size + 1 ∧ q < w7.heap.size ∧ (D q ∨ w.heap.size ≤ q) := fun q hq => by
      rcases hq with (hq | hq) | hq
      · have := hD q hq; exact ⟨by omega, by omega, by omega, .inl hq⟩
      · have := hq.1; have := hq.2; exact ⟨by omega, by omega, by omega, .inr (by omega)⟩
      have := hq.1; have := hq.2; exact ⟨by omega, by omega, by omega, .inr (by omega)⟩
     have hlv8 : LvIs (grow (grow D W1 w2) W6 w7) W8 (lplus 0 rlv) #[qx, qy, qz] := HL7.out.old (Old.of_upd hu8 fun q hq => ⟨fun h => (hDl q hq).1 h, (hDl q hq).2.2.1⟩) (fun q hq => hq)
     have hw8s := hu8.size
     have U18 := Lib.hid ((V1.out.upd hu7 (fun f => f)).upd hu8 (fun h => by omega))
     have hone5 : ∀ (i : Int) (A : Option Addr) (k c : Nat), (#[Value.int .i64 i, qx, qy, qz, .slice A k c]).all (·.oneCell') = true := fun i A k c => by
      have := hs7.2
      simp [Value.oneCell'] at this ⊢
      exact this
     have HAT8 := Lib.hid hat8
     have HSF8 := Lib.hid hsf8
     have HCT8 := Lib.hid hct8
     have HLV8 := Lib.hid hlv8
     have HHC := Lib.hid hhc
     have hfi : ∀ (wr : World) (sv : Value), Upd (fun q => q = w4.heap.size) W8 wr → Blk wr w4.heap.size 89 (#[.int .i64 3, .string nm, .int .i64 m, a0, a1, a2, a3, a4, a5, a6, a7, b0, b1, b2, b3, b4, b5, b6, b7, .int .i64 p, .slice cA M cc, s0, s1, s2, s3, s4, s5, s6, s7, .slice A n c, .int .i64 idx, qx, qy, qz, sv]) → FIs (fun q => q < w4.heap.size) wr w4.heap.size nm p (tself nm m) ds idx := fun wr sv hu hb => by
      have ho : Old (fun q => q < w4.heap.size) W8 wr := Old.of_upd hu fun q hq => ⟨fun h => by have : q < w4.heap.size := hq; omega, by have : q < w4.heap.size := hq; omega⟩
      refine ⟨hb.lt, hb.cell 1, hb.cell 19, ⟨_, sub_row (p := ⟨w4.heap.size, 0, none⟩) hb.rowAt 21 #[s0, s1, s2, s3, s4, s5, s6, s7] (fun j v hv => ?_), HSF8.out.old ho (fun _ h => h)⟩, ⟨A, c, by rw [HN.out]; exact hb.cell 29, HAT8.out.old ho (fun _ h => h)⟩, hb.cell 30⟩
      match j, hv with
      | 0, hv | 1, hv | 2, hv | 3, hv | 4, hv | 5, hv | 6, hv | 7, hv => exact hv
      | (j + 8), hv => simp at hv
     have HFI := Lib.hid hfi
     clear hat8 hsf8 hct8 hlv8 hfi hhc hD2f hl4 HL7 HAT2 HC1 V0 V1 HB67 HB6
     go_loopg [72] M (fun k v wr => ∃ (j : Nat) (acc : List CShape) (sv : Value), j + k = M ∧ v = .int .i64 j ∧ Blk wr w4.heap.size 89 (#[.int .i64 3, .string nm, .int .i64 m, a0, a1, a2, a3, a4, a5, a6, a7, b0, b1, b2, b3, b4, b5, b6, b7, .int .i64 p, .slice cA M cc, s0, s1, s2, s3, s4, s5, s6, s7, .slice A n c, .int .i64 idx, qx, qy, qz, sv]) ∧ Coll csR nob W8.heap.size 50 wr sv acc ∧ acc.length ≤ j ∧ ofF CT (cts.drop j) acc = (R1, R2) ∧ Upd (fun q => q = w4.heap.size) W8 wr)
     case atStart => exact ⟨0, [], .slice none 0 0, by omega, rfl, HB8.out, Coll.nil_, Nat.le_refl _, by rw [List.drop_zero]; exact HR.out, Upd.refl _ _⟩
     case round =>
      clear HB8 c20
      obtain ⟨j, acc, sv, hj, rfl, hbr, hco, hal, hof, hus⟩ := hrel
      have hws := hus.size
      have hfr := HFI.out wr sv hus hbr
      obtain ⟨sA, sc, hsv, hscp⟩ := hco.form
      subst hsv
      have ho8 : Old (fun q => q < w4.heap.size) W8 wr := Old.of_upd hus fun q hq => ⟨fun h => by have : q < w4.heap.size := hq; omega, by have : q < w4.heap.size := hq; omega⟩
      have HBR := Lib.hid hbr
      have HCO := Lib.hid hco
      have HOF := Lib.hid hof
      have HFR := Lib.hid hfr
      have hltb := hbr.lt
      have hD8 : Within (fun q => q < w4.heap.size) wr := fun q hq => by have : q < w4.heap.size := hq; omega
      clear hbr hco hof hfr
      by_cases hlt : j < M
      · have t2 : decide ((j : Int) < M) = true := by simp [hlt]
        have hjn : j < cts.length := by rw [HM.out]; exact hlt
        obtain ⟨a, csx, hA, hab, hrow, hlx⟩ := HCT8.out j _ (List.getElem?_eq_getElem hjn)
        have hmem : cts[j] ∈ cts := List.getElem_mem hjn
        have hhx := HHC.out _ hmem
        have hdr : cts.drop j = cts[j] :: cts.drop (j + 1) := List.drop_eq_getElem_cons hjn
        have hof := HOF.out
        rw [hdr, ofF] at hof
        obtain ⟨x, hx⟩ : ∃ x, cts[j] = x := ⟨_, rfl⟩
        rw [hx] at hof hlx hrow hhx
        have hrow' := hrow.old ho8 (by rw [Addr_add_block]; exact hab)
        have hlx' := hlx.old ho8 (fun _ h => h)
        have hsx := hlx.oneCell
        have hsix : (Try.prog.info? 27).map (·.size) = some csx.size := by rw [hsx.1]; exact tm_size
        obtain ⟨cs9, hcs9⟩ : ∃ y, #[Value.string x.1] ++ csx = y := ⟨_, rfl⟩
        have hs9 : cs9.size = 9 := by rw [← hcs9]; simp [hsx.1]
        have ho9 : cs9.all (·.oneCell') = true := by rw [← hcs9, Array.all_append, hsx.2]; simp [Value.oneCell']
        have hsi9 : (Try.prog.info? 46).map (·.size) = some cs9.size := by rw [hs9]; exact ct_size
        rw [hcs9] at hrow'
        have hr91 : ∀ i v, csx[i]? = some v → cs9[1 + i]? = some v := fun i v hv => by rw [← hcs9, Array.getElem?_append_right (by simp)]; simpa using hv
        have HOF2 := Lib.hid hof
        have HA := Lib.hid hA
        have HLX := Lib.hid hlx'
        have HR91 := Lib.hid hr91
        have hz3 := ct_zero
        simp only [List.append_toArray, List.cons_append, List.nil_append] at hz3
        clear hA hof hdr HOF hrow hlx hlx' hx hmem hcs9 hr91
        go_wp2_with (first
                            | ((with_reducible refine this_op (.indexAddr 28 (.tmp 70) (.tmp 72)) ?_); refine wpList_index_at rfl 28 (.tmp 70) (.tmp 72) rfl _ a _ _ rfl HA.out j rfl hlt 46 Try.underlying28 9 ct_size ?_)
                            | ((with_reducible refine this_op (.load 46 (.tmp 74)) ?_); refine wpList_at rfl 46 (.tmp 74) rfl (a.add (j * 9)) rfl _ _ hrow' Try.underlying46 rfl hsi9 ?_)
                            | ((with_reducible refine this_op (.store 46 (.tmp 8) (.tmp 75)) ?_); refine wpList_store_row rfl 46 (.tmp 8) (.tmp 75) rfl wr.heap.size _ rfl rfl 46 _ (Blk.new wr _ _) hsi9 (by rw [hs9]; rfl) ho9 ?_
                               obtain ⟨W9, hW9⟩ : ∃ W9, (wr.alloc (.cells #[.string ByteArray.empty, .int .i64 0, .int .i64 0, .string ByteArray.empty, .int .i64 0, .int .i64 0, .slice none 0 0, .slice none 0 0, .slice none 0 0] 46)).setRow wr.heap.size cs9 = W9 := ⟨_, rfl⟩
                               have hu9 : Upd nob wr W9 := by rw [← hW9]; exact ((Upd.refl nob wr).alloc _).setRow (.inr (Nat.le_refl _)) _
                               have hb9 : Blk W9 wr.heap.size 46 cs9 := by rw [← hW9]; exact (Blk.new wr _ _).row _
                               rw [hW9]
                               clear hW9
                               have r9 : rowAt W9 ⟨wr.heap.size, 1, none⟩ csx := sub_row (p := ⟨wr.heap.size, 0, none⟩) hb9.rowAt 1 csx HR91.out
                               clear hb9)
                            | ((with_reducible refine this_op (.load 27 (.tmp 78)) ?_); refine wpList_at rfl 27 (.tmp 78) rfl ⟨wr.heap.size, 1, none⟩ rfl _ _ r9 Try.underlying27 rfl hsix ?_))
        have hD9 : Within (fun q => q < w4.heap.size) W9 := hD8.up hu9
        have hlx9 := HLX.out.old (hD8.old hu9) (fun _ h => h)
        have hf9 := HFR.out.upd hu9 (fun f => f) (hD8.old hu9) (fun _ h => h)
        have hw9s := hu9.size
        clear HLX HFR r9
        refine (tctor_any x.2 csx (fun q => q < w4.heap.size) W9 w4.heap.size nm p idx (tself nm m) ds hD9 hlx9 hf9 (by rw [HN.out]; exact hpn) (by rw [HN.out]; omega) (by have := HIDX.out; omega) hhx).mono ?_
        rintro e w10 ⟨cs10, rfl, hl10, hb10⟩
        rw [HCT.out] at hl10 ⊢
        have hu10 : Upd nob W9 w10 := Upd.of_below hb10
        have hw10s := hu10.size
        have hof := HOF2.out
        obtain ⟨⟨y, re⟩, hy⟩ : ∃ y, CT x.2 = y := ⟨_, rfl⟩
        rw [hy] at hl10 hof ⊢
        simp only at hl10 hof ⊢
        have hs10 := hl10.cells2
        have hsi10 : (Try.prog.info? 50).map (·.size) = some cs10.size := by rw [hs10.1]; exact cs_size
        have HL10 := Lib.hid hl10
        have HOF3 := Lib.hid hof
        clear hl10 hof HOF2 hy hf9 hlx9
        by_cases hre : re = 0
        · subst hre
          have hof := HOF3.out
          rw [if_pos rfl] at hof
          have HOF4 := Lib.hid hof
          clear hof HOF3
          go_wp2_with (first
                                | ((with_reducible refine this_op (.store 50 (.tmp 9) (.tmp 81)) ?_); refine wpList_store_row rfl 50 (.tmp 9) (.tmp 81) rfl w10.heap.size _ rfl rfl 50 _ (Blk.new w10 _ _) hsi10 (by rw [hs10.1]; rfl) hs10.2 ?_
                                   obtain ⟨W11, hW11⟩ : ∃ W11, (w10.alloc (.cells #[.int .i64 0, .slice none 0 0] 50)).setRow w10.heap.size cs10 = W11 := ⟨_, rfl⟩
                                   have hu11 : Upd nob w10 W11 := by rw [← hW11]; exact ((Upd.refl nob w10).alloc _).setRow (.inr (Nat.le_refl _)) _
                                   have hb11 : Blk W11 w10.heap.size 50 cs10 := by rw [← hW11]; exact (Blk.new w10 _ _).row _
                                   rw [hW11]
                                   clear hW11
                                   have HB11 := Lib.hid hb11
                                   clear hb11))
          have hw11s := hu11.size
          have hlt11 := HB11.out.lt
          have hr11 := HB11.out.rowAt
          have hu811 : Upd (fun q => q = w4.heap.size) W8 W11 := hus.trans (((hu9.trans hu10).trans hu11).mono (fun _ f => f.elim))
          have hur11 : Upd nob wr W11 := (hu9.trans hu10).trans hu11
          have hbr11 := HBR.out.upd hur11 (fun f => f)
          have hco11 := HCO.out.upd hur11 (fun _ f => f.elim) (fun q f => f.elim)
          have hl11 := HL10.out.old (D' := grow nob W9 w10) (Old.of_upd hu11 fun q hq => ⟨fun f => f, hq.2⟩) (fun q hq => .inr hq)
          have c34 : W11.cell? ⟨w4.heap.size, 34, none⟩ = some (.slice sA acc.length sc) := hbr11.cell 34
          have hnO : ∀ q, (Value.slice sA acc.length sc).ownBlock = some q → W8.heap.size ≤ q ∧ q < wr.heap.size := fun q h => HCO.out.lt h
          have hlb11 := hbr11.lt
          have HBR11 := Lib.hid hbr11
          have HCO11 := Lib.hid hco11
          have HL11 := Lib.hid hl11
          clear hbr11 hco11 hl11 HBR HCO HL10
          refine wp_region_P (by kernel_rfl) ?_
          refine wpAny_of_E (fun X : World => ∀ p : Addr, (p.block < W11.heap.size ∧ (Value.slice sA acc.length sc).ownBlock ≠ some p.block) → X.cell? p = W11.cell? p) 12 _ _ _ _ ?_
          have hS : ∀ p : Addr, (p.block < W11.heap.size ∧ (Value.slice sA acc.length sc).ownBlock ≠ some p.block) → W11.drew.cell? p = W11.cell? p := fun _ _ => rfl
          refine eT 0 ?_ [] rfl (by kernel_rfl) (by rfl) ?_ hS ?_
          rotate_left; · intro wx hx; clear hx; go_simp; with_reducible rfl
          try simp only [tl]
          refine eT 1 ?_ [] rfl (by kernel_rfl) (by rfl) ?_ hS ?_
          rotate_left; · intro wx hx; clear hx; go_simp; with_reducible rfl
          try simp only [tl]
          refine eT 2 ?_ [] rfl (by kernel_rfl) (by rfl) ?_ hS ?_
          rotate_left; · intro wx hx; clear hx; go_simp; with_reducible rfl
          try simp only [tl]
          refine eT 3 ?_ [] rfl (by kernel_rfl) (by rfl) ?_ hS ?_
          rotate_left; · intro wx hx; clear hx; go_simp; with_reducible rfl
          try simp only [tl]
          refine eT 4 ?_ [] rfl (by kernel_rfl) (by rfl) ?_ hS ?_
          rotate_left; · intro wx hx; clear hx; go_simp; with_reducible rfl
          try simp only [tl]
          refine eT 5 ?_ [] rfl (by kernel_rfl) (by rfl) ?_ hS ?_
          rotate_left
          · intro wx hx
            have q0 := (hx ⟨w4.heap.size, 34, none⟩ ⟨hlb11, fun h => by have : W8.heap.size ≤ w4.heap.size := (hnO w4.heap.size h).1; omega⟩).trans c34
            clear hx
            go_simp
            with_reducible rfl
          try simp only [tl]
          refine eT 6 (.agg cs10) [] rfl (by kernel_rfl) (by rfl) ?_ hS ?_
          · intro wx hx
            exact run_load_at 50 (.tmp 9) rfl ⟨w10.heap.size, 0, none⟩ rfl cs10 _ (fun i v hv => (hx _ ⟨by rw [Addr_add_block]; exact hlt11, fun h => by rw [Addr_add_block] at h; have h2 : wr.heap.size ≤ w10.heap.size := Nat.le_trans hw9s hw10s; have := (hnO _ h).2; exact absurd this (Nat.not_lt.2 h2)⟩).trans (hr11 i v hv)) Try.underlying50 rfl hsi10
          try simp only [tl]
          refine wpAnyE_one (i := 7) (by kernel_rfl) (by kernel_rfl) rfl (by rfl) fun K hK => ?_
          refine owp_build1 33 50 (.tmp 93) rfl _ 2 32 Try.underlying33 cs_info (by decide) (by decide) cs10 rfl hs10.1 ?_
          have hu12 : Upd nob W11 (W11.drew.alloc (.cells cs10 50)) := ((Upd.refl nob W11).drew).alloc _
          refine hK _ _ (fun p hp => cells_of_upd hu12 p hp.1) ?_
          clear hK K; try simp only [tl]
          refine wpAnyE_one (i := 8) (by kernel_rfl) (by kernel_rfl) rfl (by rfl) fun K hK => ?_
          have hc12 := HCO11.out.upd hu12 (fun _ f => f.elim) (fun q f => f.elim)
          have hl12 := HL11.out.old (D' := grow nob W9 w10) (Old.of_upd hu12 fun q hq => ⟨fun f => f, by have : q < w10.heap.size := hq.elim (fun f => f.elim) (fun h => h.2); omega⟩) (fun q hq => hq)
          refine owp_collect (.tmp 92) (.tmp 94) 33 rfl _ 32 Try.underlying33 cs_info (by kernel_rfl) (by decide) rfl hc12 (fun x h => h.elim) W11.heap.size cs10 rfl (Blk.new W11.drew _ _) y _ hl12 (fun q hq => ?_) acc.length rfl (by omega) (by omega) (by simp; omega) ?_
          · have hq2 : W9.heap.size ≤ q ∧ q < w10.heap.size := hq.elim (fun f => f.elim) id
            exact ⟨.inr ⟨by omega, by simp; omega⟩, fun h => by have := hnO _ h; omega⟩
          intro sA6 sc6 w13 hc13 hu13 hat13
          have hu1113 : Upd (fun q => (Value.slice sA acc.length sc).ownBlock = some q) W11 w13 := (hu12.mono (fun _ f => f.elim)).trans hu13
          have HCO13 := Lib.hid hc13
          have hbr13 := HBR11.out.upd hu1113 (fun h => by have : W8.heap.size ≤ w4.heap.size := (hnO _ h).1; omega)
          have c34b : w13.cell? ⟨w4.heap.size, 34, none⟩ = some (.slice sA acc.length sc) := hbr13.cell 34
          have z34 := hbr13.frozen 34
          have HBR13 := Lib.hid hbr13
          clear hc13 hbr13 hc12 hl12
          refine hK _ _ (fun p hp => hu1113.cell hp.1 hp.2) ?_
          clear hK K; try simp only [tl]
          have hS : ∀ p : Addr, (p.block < W11.heap.size ∧ (Value.slice sA acc.length sc).ownBlock ≠ some p.block) → w13.cell? p = W11.cell? p := fun p hp => hu1113.cell hp.1 hp.2
          refine eT 9 ?_ [11, 10] rfl (by kernel_rfl) (by rfl) ?_ hS ?_
          rotate_left; · intro wx hx; clear hx; go_simp; with_reducible rfl
          try simp only [tl]
          refine eT 10 ?_ [11] rfl (by kernel_rfl) (by rfl) ?_ hS ?_
          rotate_left; · intro wx hx; clear hx; go_simp; with_reducible rfl
          try simp only [tl]
          refine eT 11 ?_ [] rfl (by kernel_rfl) (by rfl) ?_ hS ?_
          rotate_left; · intro wx hx; clear hx; go_simp; with_reducible rfl
          try simp only [tl]
          refine wpAnyE_z (by kernel_rfl) rfl (by rfl) fun K hK => ?_
          go_simp
          refine hK _ _ ?_
          clear hK K; try simp only [tl]
          refine wpAny_done (by kernel_rfl) ?_ _
          refine NoPanic.normal ?_
          go_wp2_with fail
          go_roundg (gk - 1)
          case measure => omega
          case rel =>
           have hfin : Upd (fun q => q = w4.heap.size) w13 (w13.setCell ⟨w4.heap.size, 34, none⟩ (.slice sA6 (acc.length + 1) sc6)) := (Upd.refl (fun q => q = w4.heap.size) w13).setCell (p := ⟨w4.heap.size, 34, none⟩) (.inl rfl) _
           refine ⟨j + 1, acc ++ [y], .slice sA6 (acc.length + 1) sc6, by omega, by go_num, HBR13.out.set 34 _, HCO13.out.upd hfin (fun q hq => ⟨by have : q = w4.heap.size := hq; omega, fun f => f⟩) (fun q f => f.elim), by simp; omega, HOF4.out, ?_⟩
           exact (hu811.trans' hu1113 (fun q hq h => by have := hnO q h; omega)).trans hfin
        have t3 : (re != 0) = true := by simpa using hre
        have hof := HOF3.out
        rw [if_neg hre] at hof
        injection hof with h1 h2
        subst h1 h2
        have hx := HX4.out
        rw [if_neg hre, zshape] at hx
        injection hx with h1 h2
        injection h1 with h1 h3
        injection h3 with h3 h4
        subst h1 h2 h3 h4
        have hu810 : Upd (fun q => q = w4.heap.size) W8 w10 := hus.trans ((hu9.trans hu10).mono (fun _ f => f.elim))
        have U110 := Lib.hid (U18.out.upd hu810 (fun h => by omega))
        clear HOF3 HX4 hre
        go_wp2_with (first
                              | ((with_reducible refine this_op (.store 50 (.tmp 9) (.tmp 81)) ?_); refine wpList_store_row rfl 50 (.tmp 9) (.tmp 81) rfl w10.heap.size _ rfl rfl 50 _ (Blk.new w10 _ _) hsi10 (by rw [hs10.1]; rfl) hs10.2 ?_
                                 obtain ⟨W11, hW11⟩ : ∃ W11, (w10.alloc (.cells #[.int .i64 0, .slice none 0 0] 50)).setRow w10.heap.size cs10 = W11 := ⟨_, rfl⟩
                                 have hu11 : Upd nob w10 W11 := by rw [← hW11]; exact ((Upd.refl nob w10).alloc _).setRow (.inr (Nat.le_refl _)) _
                                 have hb11 : Blk W11 w10.heap.size 50 cs10 := by rw [← hW11]; exact (Blk.new w10 _ _).row _
                                 rw [hW11]
                                 clear hW11
                                 have HB11 := Lib.hid hb11
                                 clear hb11)
                              | ((with_reducible refine this_op (.store 35 (.tmp 2) (.tmp 85)) ?_); refine wpList_store_row rfl 35 (.tmp 2) (.tmp 85) rfl (w.heap.size + 1) _ rfl rfl 35 _ (U110.out.upd hu11 (fun f => f)) sh_size rfl (by simp [Value.oneCell']) ?_))
        refine bodyPost_ret (results_cell_tmp rfl _ _ (w.heap.size + 1) 35 #[.int .i64 0, .int .i64 0, .int .i64 0, .slice none 0 0, .slice none 0 0] (0, 0) _ (.int .i64 re) rfl rfl ((U110.out.upd hu11 (fun f => f)).row _) Try.underlying35 rfl sh_size) rfl ?_
        exact ⟨_, rfl, zshape_is _ _, (((huW8.trans' hu810 (fun q hq h => by have : q = w4.heap.size := h; omega)).trans hu11).trans' ((Upd.refl (fun q => q = w.heap.size + 1) _).setRow (.inl rfl) _) (fun q hq h => by omega)).below⟩
      have t2 : decide ((j : Int) < M) = false := by simp; omega
      have hjm : M = j := by omega
      have hof := HOF.out
      rw [List.drop_eq_nil_of_le (by rw [HM.out, hjm]; exact Nat.le_refl _), ofF] at hof
      injection hof with h1 h2
      subst h1 h2
      have hx := HX4.out
      rw [if_pos rfl] at hx
      injection hx with h1 h2
      injection h1 with h1 h3
      injection h3 with h3 h4
      subst h1 h2 h3 h4
      have r30 : rowAt wr ⟨w4.heap.size, 30, none⟩ #[.int .i64 idx, qx, qy, qz, .slice sA acc.length sc] := sub_row (p := ⟨w4.heap.size, 0, none⟩) HBR.out.rowAt 30 _ (fun i v hv => by
       match i, hv with
       | 0, hv | 1, hv | 2, hv | 3, hv | 4, hv => exact hv
       | (i + 5), hv => simp at hv)
      have U1R := Lib.hid (U18.out.upd hus (fun h => by omega))
      clear HX4 HOF hjm
      go_wp2_with (first
                          | ((with_reducible refine this_op (.load 35 (.tmp 102)) ?_); refine wpList_at rfl 35 (.tmp 102) rfl ⟨w4.heap.size, 30, none⟩ rfl _ _ r30 Try.underlying35 rfl sh_size ?_)
                          | ((with_reducible refine this_op (.store 35 (.tmp 2) (.tmp 103)) ?_); refine wpList_store_row rfl 35 (.tmp 2) (.tmp 103) rfl (w.heap.size + 1) _ rfl rfl 35 _ U1R.out sh_size rfl (hone5 _ _ _ _) ?_))
      refine bodyPost_ret (results_cell_tmp rfl _ _ (w.heap.size + 1) 35 #[.int .i64 idx, qx, qy, qz, .slice sA acc.length sc] (0, 0) _ (.int .i64 0) rfl rfl (U1R.out.row _) Try.underlying35 rfl sh_size) rfl ?_
      have hfin : Upd (fun q => q = w.heap.size + 1) wr (wr.setRow (w.heap.size + 1) #[.int .i64 idx, qx, qy, qz, .slice sA acc.length sc]) := (Upd.refl (fun q => q = w.heap.size + 1) wr).setRow (.inl rfl) _
      have hsf : (wr.setRow (w.heap.size + 1) #[.int .i64 idx, qx, qy, qz, .slice sA acc.length sc]).heap.size = wr.heap.size := by simp
      have e9 : (n : Int) - (p : Int) = (idx : Int) := by have := HIDX.out; omega
      have hwW8 := huW8.size
      refine ⟨_, rfl, ⟨qx, qy, qz, sA, sc, by rw [e9], ?_, fun i y hy => ?_⟩, ((huW8.trans' hus (fun q hq h => by have : q = w4.heap.size := h; omega)).trans' hfin (fun q hq h => by omega)).below⟩
      · refine HLV8.out.old ((Old.of_upd hus fun q hq => ⟨fun h => (hDl q hq).1 h, by have := (hDl q hq).2.2.1; omega⟩).trans (Old.of_upd hfin fun q hq => ⟨fun h => (hDl q hq).2.1 h, by have := (hDl q hq).2.2.1; omega⟩)) (fun q hq => ?_)
        have h9 := hDl q hq
        exact h9.2.2.2.elim .inl fun h => .inr ⟨h, by have := h9.2.2.1; omega⟩
      obtain ⟨A9, c9, hv9, _, hrows⟩ := HCO.out.row_at
      injection hv9 with z1 z2 z3
      subst z1 z3
      obtain ⟨a, csy, g1, g2, g3, g4⟩ := hrows i y hy
      have ho : Old (fun q => nob q ∨ (W8.heap.size ≤ q ∧ q < wr.heap.size)) wr (wr.setRow (w.heap.size + 1) #[.int .i64 idx, qx, qy, qz, .slice sA acc.length sc]) := Old.of_upd hfin fun q hq => hq.elim (fun f => f.elim) fun h => ⟨by omega, h.2⟩
      refine ⟨a, csy, g1, .inr ⟨by omega, by omega⟩, g3.old ho (by rw [Addr_add_block]; exact .inr g2), CsIs.old (D := fun x => nob x ∨ (W8.heap.size ≤ x ∧ x < wr.heap.size)) (w := wr) g4 ho fun q hq => hq.elim (fun f => f.elim) fun h => .inr ⟨by omega, by omega⟩⟩
   have hx := HX2.out
   rw [tof_14 HSP.out HN.out hm6 hr, zshape] at hx
   injection hx with h1 h2
   injection h1 with h1 h3
   injection h3 with h3 h4
   subst h1 h2 h3 h4
   clear HX2 HSP
   by_cases hr2 : rk = 2
   · subst hr2
     have hnp : n < p := by omega
     clear hr
     go_wp2_with (first
                       | ((with_reducible refine this_op (.store 27 (.tmp 5) (.tmp 35)) ?_); refine wpList_store_row rfl 27 (.tmp 5) (.tmp 35) rfl w2.heap.size _ rfl rfl 27 _ (Blk.new w2 _ _) tm_size rfl hs2.2 ?_
                          obtain ⟨W3, hW3⟩ : ∃ W3, (w2.alloc (.cells #[.int .i64 0, .int .i64 0, .string ByteArray.empty, .int .i64 0, .int .i64 0, .slice none 0 0, .slice none 0 0, .slice none 0 0] 27)).setRow w2.heap.size #[.int .i64 2, .int .i64 rn, .string rnm, lx, ly, lz, .slice LA rls.length Lc, .slice KA rks.length Kc] = W3 := ⟨_, rfl⟩
                          have hu3 : Upd nob w2 W3 := by rw [← hW3]; exact ((Upd.refl nob w2).alloc _).setRow (.inr (Nat.le_refl _)) _
                          have hb3 : Blk W3 w2.heap.size 27 #[.int .i64 2, .int .i64 rn, .string rnm, lx, ly, lz, .slice LA rls.length Lc, .slice KA rks.length Kc] := by rw [← hW3]; exact (Blk.new w2 _ _).row _
                          rw [hW3]
                          clear hW3
                          have hu13 := hu2.trans hu3
                          have u0 := HK0.out.upd hu13 (fun f => f)
                          have u1 := HK1.out.upd hu13 (fun f => f)
                          have q5 : W3.cell? ⟨w.heap.size, 19, none⟩ = some (.int .i64 p) := u0.cell 19
                          have q0 : W3.cell? ⟨w2.heap.size, 0, none⟩ = some (.int .i64 2) := hb3.cell 0
                          have U0 := Lib.hid u0
                          have U1 := Lib.hid u1
                          have HB3 := Lib.hid hb3
                          clear u0 u1 hb3)
                       | ((with_reducible refine this_op (.store 35 (.tmp 2) (.tmp 46)) ?_); refine wpList_store_row rfl 35 (.tmp 2) (.tmp 46) rfl (w.heap.size + 1) _ rfl rfl 35 _ U1.out sh_size rfl (by simp [Value.oneCell']) ?_))
     refine bodyPost_ret (results_cell_tmp rfl _ _ (w.heap.size + 1) 35 #[.int .i64 0, .int .i64 0, .int .i64 0, .slice none 0 0, .slice none 0 0] (0, 0) _ (.int .i64 14) rfl rfl (U1.out.row _) Try.underlying35 rfl sh_size) rfl ?_
     exact ⟨_, rfl, zshape_is _ _, (((huW1.trans hu2).trans hu3).trans' ((Upd.refl (fun q => q = w.heap.size + 1) _).setRow (.inl rfl) _) (fun q hq h => by omega)).below⟩
   have t5 : (rk != 2) = true := by simpa using hr2
   clear hr hr2
   go_wp2_with (first
                     | ((with_reducible refine this_op (.store 27 (.tmp 5) (.tmp 35)) ?_); refine wpList_store_row rfl 27 (.tmp 5) (.tmp 35) rfl w2.heap.size _ rfl rfl 27 _ (Blk.new w2 _ _) tm_size rfl hs2.2 ?_
                        obtain ⟨W3, hW3⟩ : ∃ W3, (w2.alloc (.cells #[.int .i64 0, .int .i64 0, .string ByteArray.empty, .int .i64 0, .int .i64 0, .slice none 0 0, .slice none 0 0, .slice none 0 0] 27)).setRow w2.heap.size #[.int .i64 rk, .int .i64 rn, .string rnm, lx, ly, lz, .slice LA rls.length Lc, .slice KA rks.length Kc] = W3 := ⟨_, rfl⟩
                        have hu3 : Upd nob w2 W3 := by rw [← hW3]; exact ((Upd.refl nob w2).alloc _).setRow (.inr (Nat.le_refl _)) _
                        have hb3 : Blk W3 w2.heap.size 27 #[.int .i64 rk, .int .i64 rn, .string rnm, lx, ly, lz, .slice LA rls.length Lc, .slice KA rks.length Kc] := by rw [← hW3]; exact (Blk.new w2 _ _).row _
                        rw [hW3]
                        clear hW3
                        have hu13 := hu2.trans hu3
                        have u0 := HK0.out.upd hu13 (fun f => f)
                        have u1 := HK1.out.upd hu13 (fun f => f)
                        have q5 : W3.cell? ⟨w.heap.size, 19, none⟩ = some (.int .i64 p) := u0.cell 19
                        have q0 : W3.cell? ⟨w2.heap.size, 0, none⟩ = some (.int .i64 rk) := hb3.cell 0
                        have U0 := Lib.hid u0
                        have U1 := Lib.hid u1
                        have HB3 := Lib.hid hb3
                        clear u0 u1 hb3)
                     | ((with_reducible refine this_op (.store 35 (.tmp 2) (.tmp 46)) ?_); refine wpList_store_row rfl 35 (.tmp 2) (.tmp 46) rfl (w.heap.size + 1) _ rfl rfl 35 _ U1.out sh_size rfl (by simp [Value.oneCell']) ?_))
   refine bodyPost_ret (results_cell_tmp rfl _ _ (w.heap.size + 1) 35 #[.int .i64 0, .int .i64 0, .int .i64 0, .slice none 0 0, .slice none 0 0] (0, 0) _ (.int .i64 14) rfl rfl (U1.out.row _) Try.underlying35 rfl sh_size) rfl ?_
   exact ⟨_, rfl, zshape_is _ _, (((huW1.trans hu2).trans hu3).trans' ((Upd.refl (fun q => q = w.heap.size + 1) _).setRow (.inl rfl) _) (fun q hq h => by omega)).below⟩
 have t1 : (dk != 3) = true := by simpa using c1
 obtain ⟨rfl, rfl, rfl, rfl⟩ := BAD.out (.inl c1)
 clear BAD HX c1
 go_enter Try.func10, Try.ntmps10
 go_wp2_with (first
     | ((with_reducible refine this_op (.store 35 (.tmp 2) (.tmp 29)) ?_); refine wpList_store_row rfl 35 (.tmp 2) (.tmp 29) rfl (w.heap.size + 1) _ rfl rfl 35 _ (by rw [HW1.out]; exact HK1.out) sh_size rfl (by simp [Value.oneCell']) ?_))
 refine bodyPost_ret (results_cell_tmp rfl _ _ (w.heap.size + 1) 35 #[.int .i64 0, .int .i64 0, .int .i64 0, .slice none 0 0, .slice none 0 0] (0, 0) _ (.int .i64 1) rfl rfl ((show Blk _ (w.heap.size + 1) 35 _ from by rw [HW1.out]; exact HK1.out).row _) Try.underlying35 rfl sh_size) rfl ?_
 exact ⟨_, rfl, zshape_is _ _, ((((Upd.refl nob w).alloc _).alloc _).trans' ((Upd.refl (fun q => q = w.heap.size + 1) _).setRow (.inl rfl) _) (fun q hq h => by omega)).below⟩
end Go.Proofs.Ytiampoebdmflgaa
