/- assizelaw24.NetOnce answers yes. -/
import Derived.Test.YtdpnpkleobjkfaaXor
import Derived.Test.YtdpnpkleobjkfaaPath
import Derived.Test.YtdpnpkleobjkfaaFull
namespace Go.Proofs.Ytdpnpkleobjkfaa
open Go.RowKit Go.Shelf
attribute [local go_sem] Oper.semAt_some
set_option maxRecDepth 100000
set_option maxHeartbeats 4000000
set_option linter.unusedSimpArgs false

/-- A slice of integers, or nil. -/
def IntsAt (w : World) (oa : Option Addr) (zs : List Int) : Prop := ∀ i (h : i < zs.length), ∃ a, oa = some a ∧ w.cell? (a.add i) = some (.int .i64 zs[i])
theorem IntsAt.upd {w w' : World} {oa : Option Addr} {zs : List Int} (h : IntsAt w oa zs) (hu : Upd nob w w') : IntsAt w' oa zs := fun i hi => by
  obtain ⟨a, ha, hc⟩ := h i hi
  exact ⟨a, ha, (hu.cell (block_lt_of_cell hc) (fun f => f)).trans hc⟩

theorem small_u64 (m : Nat) (h : m ≤ 270) : IntKind.u64.wrap (m : Int) = m := IntWalk.u64_in _ (by omega)
theorem small_i64 (m : Nat) (h : m ≤ 270) : IntKind.i64.wrap (m : Int) = m := IntWalk.i64_in _ (by omega)
theorem small_w64 (m : Nat) (h : m ≤ 270) : wrap64 (m : Int) = m := by unfold wrap64; omega

theorem good_row {n : Nat} {mk : List (Int × Array Value)} (hG : ∀ p ∈ mk, Good n p) {i : Int} (hin : inR mk i = true) : ∃ to z, 0 ≤ to ∧ to < (n : Int) ∧ atR mk i = #[Value.int .i64 to] ++ msg 8 0 0 z ∧ xorB mk = bv z ^^^ xorB (tk mk i) := by
  obtain ⟨h0, hl⟩ := inR_lt hin
  obtain ⟨g1, g2, z, hz⟩ := hG mk[i.toNat] (List.getElem_mem hl)
  refine ⟨mk[i.toNat].1, z, g1, g2, by rw [atR_in h0 hl, hz], ?_⟩
  have := xorB_erase mk i.toNat hl
  rw [hz, seqOf_msg] at this
  unfold tk
  rw [if_pos hin]
  exact this
theorem tk_good {n : Nat} {mk : List (Int × Array Value)} (hG : ∀ p ∈ mk, Good n p) (i : Int) : ∀ p ∈ tk mk i, Good n p := by
  unfold tk
  split
  · exact fun p hq => hG p (List.mem_of_mem_eraseIdx hq)
  · exact hG
theorem good_cells (to z : Int) : (#[Value.int .i64 to] ++ msg 8 0 0 z)[0]? = some (.int .i64 to) ∧ (#[Value.int .i64 to] ++ msg 8 0 0 z)[4]? = some (.int .i64 z) := by
  constructor
  · rw [Array.getElem?_append_left (by simp)]; rfl
  · rw [Array.getElem?_append_right (by simp)]; exact msg_3 8 0 0 z

theorem built_msg8 (s : Int) : Try.prog.built 38 [(0, .int .i64 8), (3, .int .i64 s)] = some (msg 8 0 0 s) := built_msg s

theorem net_once (x : Int) (oa ob : Option Addr) (cz cp : Nat) (zs ps : List Int) (w : World) (hz : IntsAt w oa zs) (hp : IntsAt w ob ps) (hzl : zs.length ≤ 9223372036854775807) (hpl : ps.length ≤ 9223372036854775807) :
    Calls Try.prog 4 #[.int .i64 x, .slice oa zs.length cz, .slice ob ps.length cp] w fun e w' => e = .returned (.bool true) ∧ Below w.heap.size w w' := by
  obtain ⟨n, hn, he⟩ := full_n x
  have hn1 : 4 ≤ n := by omega
  have hn2 : n ≤ 10 := by omega
  clear hn
  obtain ⟨ie, hie, hiz, his, hib⟩ := info_parts out_info
  have hms : ∀ z, (#[Value.int .i64 (-1)] ++ msg 8 0 0 z).size = 74 := fun z => by kernel_rfl
  go_enter Try.func4, Try.ntmps4
  try dsimp only [List.append]
  go_wp2_with fail
  rw [he]
  refine (new_any n _).mono ?_
  rintro e w1 ⟨rfl, hw1⟩
  have b1 : Blk w1 w.heap.size 67 #[.int .i64 n, .slice none 0 0] := by rw [hw1]; exact Blk.new w _ _
  have hu1 : Upd nob w w1 := by rw [hw1]; exact (Upd.refl nob w).alloc _
  have hN1 : NetS w1 w.heap.size n (.slice none 0 0) 0 [] := ⟨b1, ⟨rfl, .inl ⟨rfl, rfl⟩⟩⟩
  clear hw1 he
  go_wp2_with fail
  go_loopw [8, 31] (fun v8 v wr => ∃ (k : Nat) (sv : Value), k ≤ zs.length ∧ v = .int .i64 k ∧ v8 = .int .i64 (sm n zs (min k 30)).length ∧
      NetS wr w.heap.size n sv (sm n zs (min k 30)).length (mcells (sm n zs (min k 30))) ∧ (∀ j, netB w.heap.size sv j → w.heap.size ≤ j) ∧ Upd nob w wr)
    (fun _ v _ => zs.length - (intOf v).toNat)
  case atStart =>
    refine ⟨0, .slice none 0 0, Nat.zero_le _, rfl, rfl, hN1, ?_, hu1⟩
    rintro j (rfl | h)
    · exact Nat.le_refl _
    · simp [Value.ownBlock] at h
  case round =>
    obtain ⟨k, sv, hk, rfl, rfl, hN, hf, hu⟩ := hrel
    rcases Nat.lt_or_ge k zs.length with hkz | hkz
    · have d1 : decide ((k : Int) < zs.length) = true := by simp [hkz]
      obtain ⟨a, rfl, hc⟩ := (hz.upd hu) k hkz
      by_cases hk30 : k < 30
      · have d2 : decide ((k : Int) < 30) = true := by simp; omega
        rw [Nat.min_eq_left (by omega)] at hN ⊢
        have hL := sm_len n zs (by omega) hn2 k (by omega)
        have hle : k * (n - 1) ≤ 30 * 9 := Nat.mul_le_mul (by omega) (by omega)
        have hS : sm n zs (k + 1) = sendM n ((k % n : Nat) : Int) (-1) (msg 8 0 0 zs[k]) (sm n zs k) := by
          rw [sm]; simp [List.getD, hkz]
        have hA := sent_all n (k % n) (sm n zs k).length (Nat.mod_lt _ (by omega)) (by omega)
        obtain ⟨ms, hms0⟩ : ∃ ms, sm n zs k = ms := ⟨_, rfl⟩
        rw [hms0] at hN hL hS hA ⊢
        have hLe : ms.length ≤ 270 := by omega
        go_wp2_with (first
          | (refine wpList_buildTo (o := ⟨some 44, .build 38 #[(0, .const (.int .i64 8)), (3, .tmp 43)], _, _, _, _⟩) rfl 38 #[(0, .const (.int .i64 8)), (3, .tmp 43)] rfl (some 44) rfl (msg 8 0 0 zs[k]) ?_ ?_; simp [Act.eval]; exact built_msg zs[k])
          | (refine wpList_buildTo (o := ⟨some 45, .build 40 #[(0, .const (.int .i64 (-1))), (1, .tmp 44)], _, _, _, _⟩) rfl 40 #[(0, .const (.int .i64 (-1))), (1, .tmp 44)] rfl (some 45) rfl (#[.int .i64 (-1)] ++ msg 8 0 0 zs[k]) ?_ ?_; simp [Act.eval]; exact built_out (-1) (msg 8 0 0 zs[k]) (msg_size _ _ _ _))
          | (refine wpList_buildSlice (o := ⟨some 46, .buildSlice 41 1 #[(0, .tmp 45)], _, _, _, _⟩) rfl 41 40 1 #[(0, .tmp 45)] rfl (#[.int .i64 (-1)] ++ msg 8 0 0 zs[k]) ie (.agg zout) Try.underlying41 hie hiz (by rw [his]; decide) (by rw [his]; decide) ?_ ?_; (simp only [his]; simp only [Act.eval, List.map_toArray, List.map_cons, List.map_nil]; refine fill_one (n := 74) ?_ (hms _); rw [Array.size_map, Array.size_range])))
        rw [show ((k : Int) % (n : Int)) = ((k % n : Nat) : Int) from rfl]
        have hu' : Upd nob wr (wr.alloc (.cells (#[Value.int .i64 (-1)] ++ msg 8 0 0 zs[k]) 40)) := (Upd.refl _ _).alloc _
        refine (send1m w.heap.size n ((k % n : Nat) : Int) (-1) sv ms (msg 8 0 0 zs[k]) wr.heap.size 1 _ (by omega) (by omega) (hN.upd hu' (fun _ _ f => f)) (msg_is 8 0 0 _).plain (Blk.new _ _ _) (by decide) (by omega)).mono ?_
        rintro e wA ⟨sv', rfl, hNA, hgA, huA⟩
        rw [← hS] at hNA
        rw [hA]
        have hw0 := hu.size
        have hB : w.heap.size ≤ wr.heap.size := hu.size
        go_wp2_with fail
        case roundEnd =>
          refine ⟨⟨k + 1, sv', by omega, by simp, ?_, ?_, ?_, ?_⟩, by simp [intOf]; omega⟩
          · rw [Nat.min_eq_left (by omega), hS, sendM_len, hA]; exact congrArg (Value.int IntKind.i64) (by omega)
          · rw [Nat.min_eq_left (by omega)]; exact hNA
          · exact grew_fresh hf (by simp; omega) hgA
          · refine (hu.trans hu').trans' huA ?_
            intro j hj hb
            have := hf j hb
            omega
      · have d2 : decide ((k : Int) < 30) = false := by simp; omega
        go_wp2_with fail
        case roundEnd =>
          refine ⟨⟨k + 1, sv, by omega, by simp, ?_, ?_, hf, hu⟩, by simp [intOf]; omega⟩
          · rw [Nat.min_eq_right (by omega), Nat.min_eq_right (by omega)]
          · rw [Nat.min_eq_right (by omega)] at hN ⊢; exact hN
    · have d1 : decide ((k : Int) < zs.length) = false := by simp; omega
      have hkl : k = zs.length := by omega
      subst hkl
      have hL := sm_len n zs (by omega) hn2 (min zs.length 30) (Nat.min_le_right _ _)
      have hG := sm_good n zs (min zs.length 30)
      have hX := sm_xor n zs (by omega) hn2 (min zs.length 30) (Nat.min_le_right _ _)
      obtain ⟨K, hK⟩ : ∃ K, min zs.length 30 = K := ⟨_, rfl⟩
      have hK30 : K ≤ 30 := by omega
      have hKi : min (zs.length : Int) 30 = K := by omega
      rw [hK] at hN hL hG hX ⊢
      have hle : K * (n - 1) ≤ 30 * 9 := Nat.mul_le_mul (by omega) (by omega)
      have hprod : (K : Int) * ((n : Int) - 1) = ((sm n zs K).length : Int) := by
        rw [hL, show ((n : Int) - 1) = ((n - 1 : Nat) : Int) by omega]; exact (Int.natCast_mul _ _).symm
      obtain ⟨ms, hms0⟩ : ∃ ms, sm n zs K = ms := ⟨_, rfl⟩
      rw [hms0] at hN hL hG hX hprod ⊢
      have hLe : ms.length ≤ 270 := by omega
      have hpw : wrap64 (K * ((n : Int) - 1)) = ms.length := by rw [hprod]; unfold wrap64; omega
      obtain ⟨sa, sc, rfl⟩ := svi_form hN
      have hbN := hN.blk
      have HL0 := Lib.hid hL
      clear hL
      go_wp2_with (first
        | (go_at_call 10; refine (len_any w.heap.size n _ _ _ _ hbN).mono ?_; rintro e w' ⟨rfl, rfl⟩))
      clear hbN hprod hpw hKi hms0 b1 hN1
      have hfN := hf
      have hz0 := zero_mail
      go_loopw [11, 12] (fun v11 v12 wq => ∃ (k : Nat) (mk : List (Int × Array Value)) (sk : Value) (b : BitVec 64), v12 = .int .i64 k ∧ v11 = .int .i64 (ofBv b) ∧ mk.length + k = ms.length ∧
          NetS wq w.heap.size n sk mk.length (mcells mk) ∧ (∀ p ∈ mk, Good n p) ∧ (∀ j, netB w.heap.size sk j → w.heap.size ≤ j) ∧ Upd nob w wq ∧ b ^^^ xorB mk = xorB ms)
        (fun _ v _ => ms.length - (intOf v).toNat)
      case atStart =>
        exact ⟨0, ms, _, 0, rfl, by rw [ofBv_zero], rfl, hN, hG, hf, hu, by simp⟩
      case round =>
        obtain ⟨W0, rfl⟩ : ∃ x, x = wr := ⟨_, rfl⟩
        obtain ⟨k, mk, sk, b, rfl, rfl, hmk, hN, hG, hf, hu, hx⟩ := hrel
        obtain ⟨ka, kc, rfl⟩ := svi_form hN
        have hbN := hN.blk
        rcases Nat.lt_or_ge k ms.length with hkm | hkm
        · have d1 : decide ((k : Int) < ms.length) = true := by simp [hkm]
          have d2 : decide ((mk.length : Int) < 1) = false := by simp; omega
          have hmk1 : 1 ≤ mk.length := by omega
          have hmk2 : mk.length ≤ 270 := by omega
          rcases Nat.lt_or_ge k ps.length with hkp | hkp
          · have d3 : decide ((k : Int) < ps.length) = true := by simp [hkp]
            obtain ⟨a, rfl, hc⟩ := (hp.upd hu) k hkp
            go_wp2_with (first
              | (go_at_call 10; refine (len_any w.heap.size n _ _ _ _ hbN).mono ?_; rintro e w' ⟨rfl, rfl⟩))
            refine wp_region_P (by kernel_rfl) ?_
            obtain ⟨r, hr, hre⟩ := u64_tmod ps[k] mk.length (by omega)
            have hmw := small_u64 mk.length hmk2
            have hmz : ¬ (mk = []) := by rintro rfl; simp at hmk1
            have hrw := small_w64 r (Nat.le_trans (Nat.le_of_lt hr) hmk2)
            have hri := small_i64 r (Nat.le_trans (Nat.le_of_lt hr) hmk2)
            have hN' := hN.upd (Upd.refl nob W0).drew (fun _ _ f => f)
            have hu' := hu.drew
            have hc' : W0.drew.cell? (a.add k) = some (.int .i64 ps[k]) := hc
            clear hN hbN hc
            refine wpAny_of_E (fun X => X.cell? (a.add k) = some (.int .i64 ps[k]) ∧ NetS X w.heap.size n (.slice ka mk.length kc) mk.length (mcells mk) ∧ Upd nob w X) 10 _ _ _ _ ?_
            have hS := And.intro hc' (And.intro hN' hu')
            refine wpAnyE_take (i := 0) (v := ?_) [] rfl (by kernel_rfl) (fun _ _ _ h => h) (Or.inl ⟨by rfl, ?_⟩) hS ?_
            rotate_left
            · rintro wx ⟨s1, s2, s3⟩
              go_simp
              with_reducible rfl
            try simp only [List.getElem_toArray, List.getElem_cons_succ, List.getElem_cons_zero, Act.put, List.setIfInBounds_toArray, List.set_cons_zero, List.set_cons_succ]
            refine wpAnyE_take (i := 1) (v := ?_) [] rfl (by kernel_rfl) (fun _ _ _ h => h) (Or.inl ⟨by rfl, ?_⟩) hS ?_
            rotate_left
            · rintro wx ⟨s1, s2, s3⟩
              go_simp
              with_reducible rfl
            try simp only [List.getElem_toArray, List.getElem_cons_succ, List.getElem_cons_zero, Act.put, List.setIfInBounds_toArray, List.set_cons_zero, List.set_cons_succ]
            refine wpAnyE_take (i := 2) (v := ?_) [] rfl (by kernel_rfl) (fun _ _ _ h => h) (Or.inl ⟨by rfl, ?_⟩) hS ?_
            rotate_left
            · rintro wx ⟨s1, s2, s3⟩
              go_simp
              with_reducible rfl
            try simp only [List.getElem_toArray, List.getElem_cons_succ, List.getElem_cons_zero, Act.put, List.setIfInBounds_toArray, List.set_cons_zero, List.set_cons_succ]
            refine wpAnyE_take (i := 3) (v := ?_) [] rfl (by kernel_rfl) (fun _ _ _ h => h) (Or.inl ⟨by rfl, ?_⟩) hS ?_
            rotate_left
            · rintro wx ⟨s1, s2, s3⟩
              go_simp
              with_reducible rfl
            try simp only [List.getElem_toArray, List.getElem_cons_succ, List.getElem_cons_zero, Act.put, List.setIfInBounds_toArray, List.set_cons_zero, List.set_cons_succ]
            refine wpAnyE_take (i := 4) (v := ?_) [] rfl (by kernel_rfl) (fun _ _ _ h => h) (Or.inl ⟨by rfl, ?_⟩) hS ?_
            rotate_left
            · rintro wx ⟨s1, s2, s3⟩
              go_simp
              with_reducible rfl
            try simp only [List.getElem_toArray, List.getElem_cons_succ, List.getElem_cons_zero, Act.put, List.setIfInBounds_toArray, List.set_cons_zero, List.set_cons_succ]
            refine wpAnyE_take (i := 5) (v := ?_) [] rfl (by kernel_rfl) (fun _ _ _ h => h) (Or.inl ⟨by rfl, ?_⟩) hS ?_
            rotate_left
            · rintro wx ⟨s1, s2, s3⟩
              go_simp
              with_reducible rfl
            try simp only [List.getElem_toArray, List.getElem_cons_succ, List.getElem_cons_zero, Act.put, List.setIfInBounds_toArray, List.set_cons_zero, List.set_cons_succ]
            refine wpAnyE_one (i := 6) (by kernel_rfl) (by kernel_rfl) rfl (by rfl) fun K hK => ?_
            go_simp
            refine (len_any w.heap.size n _ _ _ _ hS.2.1.blk).mono ?_
            rintro e w' ⟨rfl, rfl⟩
            refine hK _ _ hS ?_
            clear hK K
            try simp only [List.getElem_toArray, List.getElem_cons_succ, List.getElem_cons_zero, Act.put, List.setIfInBounds_toArray, List.set_cons_zero, List.set_cons_succ]
            refine wpAnyE_take (i := 7) (v := ?_) [] rfl (by kernel_rfl) (fun _ _ _ h => h) (Or.inl ⟨by rfl, ?_⟩) hS ?_
            rotate_left
            · rintro wx ⟨s1, s2, s3⟩
              go_simp
              with_reducible rfl
            try simp only [List.getElem_toArray, List.getElem_cons_succ, List.getElem_cons_zero, Act.put, List.setIfInBounds_toArray, List.set_cons_zero, List.set_cons_succ]
            refine wpAnyE_take (i := 8) (v := ?_) [] rfl (by kernel_rfl) (fun _ _ _ h => h) (Or.inl ⟨by rfl, ?_⟩) hS ?_
            rotate_left
            · rintro wx ⟨s1, s2, s3⟩
              go_simp
              with_reducible rfl
            try simp only [List.getElem_toArray, List.getElem_cons_succ, List.getElem_cons_zero, Act.put, List.setIfInBounds_toArray, List.set_cons_zero, List.set_cons_succ]
            refine wpAnyE_take (i := 9) (v := ?_) [] rfl (by kernel_rfl) (fun _ _ _ h => h) (Or.inl ⟨by rfl, ?_⟩) hS ?_
            rotate_left
            · rintro wx ⟨s1, s2, s3⟩
              go_simp
              with_reducible rfl
            try simp only [List.getElem_toArray, List.getElem_cons_succ, List.getElem_cons_zero, Act.put, List.setIfInBounds_toArray, List.set_cons_zero, List.set_cons_succ]
            refine wpAnyE_z (by kernel_rfl) rfl (by rfl) fun K hK => ?_
            go_simp
            refine hK _ _ ?_
            clear hK K
            try simp only [List.getElem_toArray, List.getElem_cons_succ, List.getElem_cons_zero, Act.put, List.setIfInBounds_toArray, List.set_cons_zero, List.set_cons_succ]
            refine wpAny_done (by kernel_rfl) ?_ _
            refine NoPanic.normal ?_
            go_wp2_with fail
            have hin : inR mk (r : Int) = true := by simp [inR]; omega
            obtain ⟨to, z, hto0, hton, hrow, hxr⟩ := good_row hG hin
            refine (takeM w.heap.size n _ mk (r : Int) _ hN' (good_plain hG) (by omega)).mono ?_
            rintro e wA ⟨svA, rfl, hA, gA, uA⟩
            rw [hin, hrow]
            have hlA := tk_len hin
            have huA := hu'.trans' uA (fun j hj hb => by have := hf j hb; omega)
            have hblk := Blk.new wA 49 zout
            have b14 := hblk.row (#[Value.int .i64 to] ++ msg 8 0 0 z)
            have hu5 := (huA.alloc (.cells zout 49)).setRow (.inr huA.size) (#[Value.int .i64 to] ++ msg 8 0 0 z)
            have hA5 : NetS ((wA.alloc (.cells zout 49)).setRow wA.heap.size (#[Value.int .i64 to] ++ msg 8 0 0 z)) w.heap.size n svA (tk mk (r : Int)).length (mcells (tk mk (r : Int))) :=
              hA.upd (((Upd.refl nob wA).alloc _).setRow (.inr (Nat.le_refl _)) _) (fun _ _ f => f)
            have e0 : ((wA.alloc (.cells zout 49)).setRow wA.heap.size (#[Value.int .i64 to] ++ msg 8 0 0 z)).cell? ⟨wA.heap.size, 0, none⟩ = some (.int .i64 to) := (b14.cell 0).trans (good_cells to z).1
            have e4 : ((wA.alloc (.cells zout 49)).setRow wA.heap.size (#[Value.int .i64 to] ++ msg 8 0 0 z)).cell? ⟨wA.heap.size, 4, none⟩ = some (.int .i64 z) := (b14.cell 4).trans (good_cells to z).2
            have t1 : decide (to < 0) = false := by simpa using hto0
            have t2 : decide ((n : Int) ≤ to) = false := by simpa using hton
            have hsz2 : zout.size = (#[Value.int .i64 to] ++ msg 8 0 0 z).size := by rw [(mail_row (msg_is 8 0 0 z).plain to).1]; exact zout_size
            have hone := (mail_row (msg_is 8 0 0 z).plain to).2
            have hsz1 := mail_size' (msg_is 8 0 0 z).plain to
            have hxo := xor_of b z
            have gfr := grew_fresh (nb := w.heap.size) hf hu'.size gA
            clear hA gA uA huA
            go_wp2_with (first
              | (refine wpList_store_row rfl 49 (.tmp 14) (.tmp 90) rfl wA.heap.size (#[Value.int .i64 to] ++ msg 8 0 0 z) rfl rfl 49 zout hblk hsz1 hsz2 hone ?_))
            case roundEnd =>
              refine ⟨⟨k + 1, tk mk (r : Int), svA, b ^^^ bv z, by simp, ?_, by omega, hA5, tk_good hG _, gfr, hu5, ?_⟩, by simp [intOf]; omega⟩
              · first | rfl | simp [hxo]
              · rw [BitVec.xor_assoc, ← hxr]; exact hx
          · have d3 : decide ((k : Int) < ps.length) = false := by simp; omega
            go_wp2_with (first
              | (go_at_call 10; refine (len_any w.heap.size n _ _ _ _ hbN).mono ?_; rintro e w' ⟨rfl, rfl⟩))
            have hin : inR mk (0 : Int) = true := by simp [inR]; omega
            obtain ⟨to, z, hto0, hton, hrow, hxr⟩ := good_row hG hin
            refine (takeM w.heap.size n _ mk (0 : Int) _ hN (good_plain hG) (by omega)).mono ?_
            rintro e wA ⟨svA, rfl, hA, gA, uA⟩
            rw [hin, hrow]
            have hlA := tk_len hin
            have huA := hu.trans' uA (fun j hj hb => by have := hf j hb; omega)
            have hblk := Blk.new wA 49 zout
            have b14 := hblk.row (#[Value.int .i64 to] ++ msg 8 0 0 z)
            have hu5 := (huA.alloc (.cells zout 49)).setRow (.inr huA.size) (#[Value.int .i64 to] ++ msg 8 0 0 z)
            have hA5 : NetS ((wA.alloc (.cells zout 49)).setRow wA.heap.size (#[Value.int .i64 to] ++ msg 8 0 0 z)) w.heap.size n svA (tk mk (0 : Int)).length (mcells (tk mk (0 : Int))) :=
              hA.upd (((Upd.refl nob wA).alloc _).setRow (.inr (Nat.le_refl _)) _) (fun _ _ f => f)
            have e0 : ((wA.alloc (.cells zout 49)).setRow wA.heap.size (#[Value.int .i64 to] ++ msg 8 0 0 z)).cell? ⟨wA.heap.size, 0, none⟩ = some (.int .i64 to) := (b14.cell 0).trans (good_cells to z).1
            have e4 : ((wA.alloc (.cells zout 49)).setRow wA.heap.size (#[Value.int .i64 to] ++ msg 8 0 0 z)).cell? ⟨wA.heap.size, 4, none⟩ = some (.int .i64 z) := (b14.cell 4).trans (good_cells to z).2
            have t1 : decide (to < 0) = false := by simpa using hto0
            have t2 : decide ((n : Int) ≤ to) = false := by simpa using hton
            have hsz2 : zout.size = (#[Value.int .i64 to] ++ msg 8 0 0 z).size := by rw [(mail_row (msg_is 8 0 0 z).plain to).1]; exact zout_size
            have hone := (mail_row (msg_is 8 0 0 z).plain to).2
            have hsz1 := mail_size' (msg_is 8 0 0 z).plain to
            have hxo := xor_of b z
            have gfr := grew_fresh (nb := w.heap.size) hf hu.size gA
            clear hA gA uA huA
            go_wp2_with (first
              | (refine wpList_store_row rfl 49 (.tmp 14) (.tmp 90) rfl wA.heap.size (#[Value.int .i64 to] ++ msg 8 0 0 z) rfl rfl 49 zout hblk hsz1 hsz2 hone ?_))
            case roundEnd =>
              refine ⟨⟨k + 1, tk mk (0 : Int), svA, b ^^^ bv z, by simp, ?_, by omega, hA5, tk_good hG _, gfr, hu5, ?_⟩, by simp [intOf]; omega⟩
              · first | rfl | simp [hxo]
              · rw [BitVec.xor_assoc, ← hxr]; exact hx
        · have d1 : decide ((k : Int) < ms.length) = false := by simp; omega
          obtain rfl : mk = [] := List.eq_nil_of_length_eq_zero (by omega)
          have hbx : b = xorB ms := by simpa [xorB] using hx
          go_wp2_with fail
          go_loopw [16, 112] (fun v16 v112 wq => ∃ k : Nat, k ≤ zs.length ∧ v112 = .int .i64 k ∧ v16 = .int .i64 (ofBv (wantB ((n - 1) % 2 == 1) zs (min k 30))) ∧ wq = W0)
            (fun _ v _ => zs.length - (intOf v).toNat)
          case atStart => exact ⟨0, Nat.zero_le _, rfl, by rw [Nat.zero_min]; exact congrArg (Value.int .i64) ofBv_zero.symm, rfl⟩
          case round =>
            obtain ⟨k3, hk3, rfl, rfl, rfl⟩ := hrel
            rcases Nat.lt_or_ge k3 zs.length with hkz3 | hkz3
            · have d1 : decide ((k3 : Int) < zs.length) = true := by simp [hkz3]
              obtain ⟨a3, rfl, hc3⟩ := (hz.upd hu) k3 hkz3
              by_cases hk30 : k3 < 30
              · have d2 : decide ((k3 : Int) < 30) = true := by simp; omega
                have hstep : wantB ((n - 1) % 2 == 1) zs (k3 + 1) = if (n - 1) % 2 == 1 then wantB ((n - 1) % 2 == 1) zs k3 ^^^ bv zs[k3] else wantB ((n - 1) % 2 == 1) zs k3 := by
                  rw [wantB]; simp [List.getD, hkz3]
                have hm1 : min k3 30 = k3 := by omega
                have hm2 : min (k3 + 1) 30 = k3 + 1 := by omega
                rw [hm1]
                by_cases ho : (n - 1) % 2 = 1
                · have o1 : ((n : Int) - 1) % 2 = 1 := by omega
                  have o2 : ((n - 1) % 2 == 1) = true := by simp [ho]
                  rw [o2] at hstep ⊢
                  have hxo := xor_of (wantB true zs k3) zs[k3]
                  go_wp2_with fail
                  case roundEnd =>
                    refine ⟨⟨k3 + 1, by omega, by simp, ?_, by simp⟩, by simp [intOf]; omega⟩
                    first
                      | (rw [hm2, o2, hstep, hxo]; rfl)
                      | (rw [hm2, o2, hstep]; rfl)
                      | (rw [hm2, hstep]; rfl)
                · have o1 : ((n : Int) - 1) % 2 = 0 := by omega
                  have o2 : ((n - 1) % 2 == 1) = false := by simp [ho]
                  rw [o2] at hstep ⊢
                  go_wp2_with fail
                  case roundEnd =>
                    refine ⟨⟨k3 + 1, by omega, by simp, ?_, by simp⟩, by simp [intOf]; omega⟩
                    first
                      | (rw [hm2, o2, hstep]; rfl)
                      | (rw [hm2, hstep]; rfl)
              · have d2 : decide ((k3 : Int) < 30) = false := by simp; omega
                have hm1 : min k3 30 = 30 := by omega
                have hm2 : min (k3 + 1) 30 = 30 := by omega
                rw [hm1]
                go_wp2_with fail
                case roundEnd =>
                  exact ⟨⟨k3 + 1, by omega, by simp, by rw [hm2], by simp⟩, by simp [intOf]; omega⟩
            · have d1 : decide ((k3 : Int) < zs.length) = false := by simp; omega
              obtain rfl : k3 = zs.length := by omega
              rw [hK, ← hX, ← hbx]
              go_wp2_with fail
              have hin : inR ([] : List (Int × Array Value)) 0 = false := rfl
              refine (takeM w.heap.size n _ [] 0 _ hN (good_plain hG) (by omega)).mono ?_
              rintro e wA ⟨svA, rfl, hA, gA, uA⟩
              rw [hin, atR_out hin]
              have huA := hu.trans' uA (fun j hj hb => by have := hf j hb; omega)
              have hblk := Blk.new wA 49 zout
              have hu5 := (huA.alloc (.cells zout 49)).setRow (.inr huA.size) zout
              have hbb : (ofBv b == ofBv b) = true := by simp
              go_wp2_with (first
                | (refine wpList_store_row rfl 49 (.tmp 19) (.tmp 132) rfl wA.heap.size zout rfl rfl 49 zout hblk mail_size rfl zout_one ?_))
              refine (awake_any _).mono ?_
              rintro e wE ⟨rfl, hbE⟩
              go_wp2_with fail
              go_ret
              exact ⟨rfl, (hu5.trans' (Upd.of_below (S := nob) hbE) (fun _ _ h => h)).below⟩
end Go.Proofs.Ytdpnpkleobjkfaa
