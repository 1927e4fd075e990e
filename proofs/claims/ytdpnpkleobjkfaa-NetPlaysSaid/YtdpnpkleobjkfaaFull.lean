/- assizelaw24.NetFull answers yes. -/
import Derived.Test.YtdpnpkleobjkfaaTwo
import Derived.Test.YtdpnpkleobjkfaaPath
import Derived.Test.YtdpnpkleobjkfaaAwake
namespace Go.Proofs.Ytdpnpkleobjkfaa
open Go.RowKit Go.Shelf
attribute [local go_sem] Oper.semAt_some
set_option maxRecDepth 100000
set_option maxHeartbeats 4000000
set_option linter.unusedSimpArgs false

theorem u64_tmod (x : Int) (k : Nat) (hk : 0 < k) : ∃ r : Nat, r < k ∧ (IntKind.u64.wrap x).tmod k = r := by
  have h0 : 0 ≤ IntKind.u64.wrap x := by rw [IntKind.wrap_u64]; omega
  obtain ⟨u, hu⟩ : ∃ u : Nat, IntKind.u64.wrap x = u := ⟨(IntKind.u64.wrap x).toNat, by omega⟩
  exact ⟨u % k, Nat.mod_lt _ hk, by rw [hu]; rfl⟩
theorem full_n (x : Int) : ∃ n : Nat, (n = 4 ∨ n = 7 ∨ n = 10) ∧ wrap64 (wrap64 (wrap64 ((IntKind.u64.wrap x).tmod 3) * 3) + 4) = n := by
  obtain ⟨r, hr, he⟩ := u64_tmod x 3 (by decide)
  have he : (IntKind.u64.wrap x).tmod 3 = r := he
  rw [he]
  match r, hr with
  | 0, _ => exact ⟨4, .inl rfl, by kernel_rfl⟩
  | 1, _ => exact ⟨7, .inr (.inl rfl), by kernel_rfl⟩
  | 2, _ => exact ⟨10, .inr (.inr rfl), by kernel_rfl⟩
theorem full_c (y : Int) (n : Nat) (hn : n = 4 ∨ n = 7 ∨ n = 10) : ∃ c : Nat, c ≤ 2000 ∧ wrap64 (wrap64 (wrap64 ((IntKind.u64.wrap y).tmod 30) + 4000 / ((n : Int) - 1)) - 10) = c := by
  obtain ⟨r, hr, he⟩ := u64_tmod y 30 (by decide)
  have he : (IntKind.u64.wrap y).tmod 30 = r := he
  rw [he]
  have w1 : ∀ z : Int, -9223372036854775808 ≤ z → z ≤ 9223372036854775807 → wrap64 z = z := fun z h1 h2 => by
    unfold wrap64; omega
  rcases hn with rfl | rfl | rfl
  · have e1 : 4000 / (((4 : Nat) : Int) - 1) = 1333 := by decide
    rw [e1, w1 r (by omega) (by omega), w1 (r + 1333) (by omega) (by omega), w1 _ (by omega) (by omega)]
    exact ⟨r + 1323, by omega, by omega⟩
  · have e1 : 4000 / (((7 : Nat) : Int) - 1) = 666 := by decide
    rw [e1, w1 r (by omega) (by omega), w1 (r + 666) (by omega) (by omega), w1 _ (by omega) (by omega)]
    exact ⟨r + 656, by omega, by omega⟩
  · have e1 : 4000 / (((10 : Nat) : Int) - 1) = 444 := by decide
    rw [e1, w1 r (by omega) (by omega), w1 (r + 444) (by omega) (by omega), w1 _ (by omega) (by omega)]
    exact ⟨r + 434, by omega, by omega⟩

theorem built_rnet (z : Int) : Try.prog.built 28 [(0, .int .i64 z)] = some #[.int .i64 z, .slice none 0 0] := by kernel_rfl

theorem dbl_le {ms : List (Int × Array Value)} (h : ms.length ≤ 4000) (i : Int) : (dbl ms i).length ≤ 4000 := by
  cases hd : dblOk ms i with
  | false => rw [dbl_out hd]; exact h
  | true => rw [dbl_len hd]; simp [dblOk] at hd; omega

theorem net_full (x y : Int) (w : World) : Calls Try.prog 3 #[.int .i64 x, .int .i64 y] w fun e w' => e = .returned (.bool true) ∧ Below w.heap.size w w' := by
  obtain ⟨n, hn, he⟩ := full_n x
  obtain ⟨c, hc, hce⟩ := full_c y n hn
  have hn1 : 4 ≤ n := by omega
  have hn2 : n ≤ 10 := by omega
  clear hn
  go_enter Try.func3, Try.ntmps3
  try dsimp only [List.append]
  go_wp2_with fail
  rw [he]
  refine (new_any n _).mono ?_
  rintro e w1 ⟨rfl, hw1⟩
  have b1 : Blk w1 w.heap.size 67 #[.int .i64 n, .slice none 0 0] := by rw [hw1]; exact Blk.new w _ _
  have hu1 : Upd nob w w1 := by rw [hw1]; exact (Upd.refl nob w).alloc _
  clear hw1
  obtain ⟨ie, hie, hiz, his, hib⟩ := info_parts out_info
  have hms : (#[Value.int .i64 (-1)] ++ msg 8 0 0 0).size = 74 := by kernel_rfl
  go_wp2_with (first
    | (refine wpList_buildTo (o := ⟨some 19, .build 38 #[(0, .const (.int .i64 8))], _, _, _, _⟩) rfl 38 #[(0, .const (.int .i64 8))] rfl (some 19) rfl (msg 8 0 0 0) ?_ ?_; simp [Act.eval]; exact built_msg0)
    | (refine wpList_buildTo (o := ⟨some 20, .build 40 #[(0, .const (.int .i64 (-1))), (1, .tmp 19)], _, _, _, _⟩) rfl 40 #[(0, .const (.int .i64 (-1))), (1, .tmp 19)] rfl (some 20) rfl (#[.int .i64 (-1)] ++ msg 8 0 0 0) ?_ ?_; simp [Act.eval]; exact built_out (-1) (msg 8 0 0 0) (msg_size _ _ _ _))
    | (refine wpList_buildSlice (o := ⟨some 21, .buildSlice 41 1 #[(0, .tmp 20)], _, _, _, _⟩) rfl 41 40 1 #[(0, .tmp 20)] rfl (#[.int .i64 (-1)] ++ msg 8 0 0 0) ie (.agg zout) Try.underlying41 hie hiz (by rw [his]; decide) (by rw [his]; decide) ?_ ?_; (simp only [his]; simp only [Act.eval, List.map_toArray, List.map_cons, List.map_nil]; refine fill_one (n := 74) ?_ hms; rw [Array.size_map, Array.size_range])))
  rw [hce]
  obtain ⟨W0, hW0⟩ : ∃ W0, ((w1.alloc (Obj.cells #[Value.int IntKind.i64 n, Value.slice none 0 0] 28)).alloc (Obj.cells (#[Value.int IntKind.i64 (-1)] ++ msg 8 0 0 0) 40)) = W0 := ⟨_, rfl⟩
  have hT : Two W0 w.heap.size w.heap.size w1.heap.size n (.slice none 0 0) (.slice none 0 0) [] := by
    rw [← hW0]
    refine ⟨⟨(b1.alloc _).alloc _, ⟨rfl, .inl ⟨rfl, rfl⟩⟩⟩, ⟨(Blk.new w1 _ _).alloc _, ⟨rfl, .inl ⟨rfl, rfl⟩⟩⟩, (fun _ h => nomatch h), Nat.zero_le _, ?_, ?_⟩
    · rintro k (rfl | h)
      · exact Nat.le_refl _
      · simp [Value.ownBlock] at h
    · rintro k (rfl | h)
      · exact hu1.size
      · simp [Value.ownBlock] at h
  have hO : Blk W0 (w1.heap.size + 1) 40 (#[Value.int .i64 (-1)] ++ msg 8 0 0 0) := by
    rw [← hW0]
    have := Blk.new (w1.alloc (Obj.cells #[Value.int IntKind.i64 n, Value.slice none 0 0] 28)) 40 (#[Value.int .i64 (-1)] ++ msg 8 0 0 0)
    rwa [World.size_alloc] at this
  have hu0 : Upd nob w W0 := by rw [← hW0]; exact (hu1.alloc _).alloc _
  rw [hW0]
  clear hW0 b1 he hce
  go_loopw [31] (fun v wr => ∃ (j : Nat) (ms : List (Int × Array Value)) (sv rv : Value), j ≤ c ∧ v = .int .i64 j ∧ Two wr w.heap.size w.heap.size w1.heap.size n sv rv ms ∧
      Blk wr (w1.heap.size + 1) 40 (#[Value.int .i64 (-1)] ++ msg 8 0 0 0) ∧ Upd nob w wr)
    (fun v _ => c - (intOf v).toNat)
  case atStart => exact ⟨0, [], _, _, Nat.zero_le _, rfl, hT, hO, hu0⟩
  case round =>
    obtain ⟨j, ms, sv, rv, hj, rfl, hT, hO, hu⟩ := hrel
    rcases Nat.lt_or_ge j c with hjc | hjc
    · have d1 : decide ((j : Int) < c) = true := by simp [hjc]
      go_wp2_with fail
      refine (send1m w.heap.size n 0 (-1) sv ms (msg 8 0 0 0) (w1.heap.size + 1) 1 _ (by omega) hT.le hT.N (msg_is 8 0 0 0).plain hO (by decide) (by omega)).mono ?_
      rintro e wA ⟨sv', rfl, hNA, hgA, huA⟩
      have hOA := hO.upd huA (hT.apart hO).1
      go_wp2_with fail
      refine (rsend1m w1.heap.size n 0 (-1) rv ms (msg 8 0 0 0) (w1.heap.size + 1) 1 _ (by omega) hT.le (hT.mid huA) (msg_is 8 0 0 0).plain hOA (hT.apart hO).2).mono ?_
      rintro e wB ⟨rv', rfl, hRB, hgB, huB⟩
      have hTB := hT.step hNA hgA huA hRB hgB huB (sendM_plain hT.pl (msg_is 8 0 0 0).plain) (sendM_le _ _ _ _ _ hT.le)
      have hOB := hOA.upd huB (hT.apart hO).2
      have huW := hT.below hu huA huB
      have dne : (((sent 0 (-1) n ms.length).length : Int) != ((sent 0 (-1) n ms.length).length : Int)) = false := by simp
      go_wp2_with fail
      case roundEnd =>
        exact ⟨⟨j + 1, _, _, _, by omega, by simp, hTB, hOB, huW⟩, by simp [intOf]; omega⟩
    · have d1 : decide ((j : Int) < c) = false := by simp; omega
      go_wp2_with fail
      obtain ⟨sa, sc, rfl⟩ := svi_form hT.N
      obtain ⟨ra, rc, rfl⟩ := hT.R.form
      refine wp_region_P (by kernel_rfl) ?_
      have hT1 := hT.upd (Upd.refl nob wr).drew
      have hu1 := hu.drew
      clear hT hu
      refine wpAny_of_E (fun X => Two X w.heap.size w.heap.size w1.heap.size n (.slice sa ms.length sc) (.slice ra ms.length rc) ms ∧ Upd nob w X) 8 _ _ _ _ ?_
      have hS := And.intro hT1 hu1
      refine wpAnyE_take (i := 0) (v := ?_) [1] rfl (by kernel_rfl) (fun _ _ _ h => h) (Or.inl ⟨by rfl, ?_⟩) hS ?_
      rotate_left
      · rintro wx ⟨s1, s2⟩
        go_simp
        with_reducible rfl
      try simp only [List.getElem_toArray, List.getElem_cons_succ, List.getElem_cons_zero, Act.put, List.setIfInBounds_toArray, List.set_cons_zero, List.set_cons_succ]
      refine wpAnyE_take (i := 2) (v := ?_) [7, 6, 5, 4, 3] rfl (by kernel_rfl) (fun _ _ _ h => h) (Or.inl ⟨by rfl, ?_⟩) hS ?_
      rotate_left
      · rintro wx ⟨s1, s2⟩
        go_simp
        with_reducible rfl
      try simp only [List.getElem_toArray, List.getElem_cons_succ, List.getElem_cons_zero, Act.put, List.setIfInBounds_toArray, List.set_cons_zero, List.set_cons_succ]
      refine wpAnyE_take (i := 3) (v := ?_) [7, 6, 5, 4] rfl (by kernel_rfl) (fun _ _ _ h => h) (Or.inl ⟨by rfl, ?_⟩) hS ?_
      rotate_left
      · rintro wx ⟨s1, s2⟩
        go_simp
        with_reducible rfl
      try simp only [List.getElem_toArray, List.getElem_cons_succ, List.getElem_cons_zero, Act.put, List.setIfInBounds_toArray, List.set_cons_zero, List.set_cons_succ]
      refine wpAnyE_take (i := 4) (v := ?_) [7, 6, 5] rfl (by kernel_rfl) (fun _ _ _ h => h) (Or.inl ⟨by rfl, ?_⟩) hS ?_
      rotate_left
      · rintro wx ⟨s1, s2⟩
        go_simp
        with_reducible rfl
      try simp only [List.getElem_toArray, List.getElem_cons_succ, List.getElem_cons_zero, Act.put, List.setIfInBounds_toArray, List.set_cons_zero, List.set_cons_succ]
      refine wpAnyE_take (i := 5) (v := ?_) [7, 6] rfl (by kernel_rfl) (fun _ _ _ h => h) (Or.inl ⟨by rfl, ?_⟩) hS ?_
      rotate_left
      · rintro wx ⟨s1, s2⟩
        have c := s1.R.blk.cell 1
        simp only [List.getElem?_toArray, List.getElem?_cons_zero, List.getElem?_cons_succ] at c
        go_simp
        with_reducible rfl
      try simp only [List.getElem_toArray, List.getElem_cons_succ, List.getElem_cons_zero, Act.put, List.setIfInBounds_toArray, List.set_cons_zero, List.set_cons_succ]
      refine wpAnyE_take (i := 6) (v := ?_) [7] rfl (by kernel_rfl) (fun _ _ _ h => h) (Or.inl ⟨by rfl, ?_⟩) hS ?_
      rotate_left
      · rintro wx ⟨s1, s2⟩
        go_simp
        with_reducible rfl
      try simp only [List.getElem_toArray, List.getElem_cons_succ, List.getElem_cons_zero, Act.put, List.setIfInBounds_toArray, List.set_cons_zero, List.set_cons_succ]
      refine wpAnyE_one (i := 1) (by kernel_rfl) (by kernel_rfl) rfl (by rfl) fun K hK => ?_
      go_simp
      refine (len_any _ n _ _ _ _ hS.1.N.blk).mono ?_
      rintro e w' ⟨rfl, rfl⟩
      refine hK _ _ hS ?_
      clear hK K
      try simp only [List.getElem_toArray, List.getElem_cons_succ, List.getElem_cons_zero, Act.put, List.setIfInBounds_toArray, List.set_cons_zero, List.set_cons_succ]
      refine wpAnyE_take (i := 7) (v := ?_) [] rfl (by kernel_rfl) (fun _ _ _ h => h) (Or.inl ⟨by rfl, ?_⟩) hS ?_
      rotate_left
      · rintro wx ⟨s1, s2⟩
        go_simp
        with_reducible rfl
      try simp only [List.getElem_toArray, List.getElem_cons_succ, List.getElem_cons_zero, Act.put, List.setIfInBounds_toArray, List.set_cons_zero, List.set_cons_succ]
      refine wpAnyE_z (by kernel_rfl) rfl (by rfl) fun K hK => ?_
      go_simp
      refine hK _ _ ?_
      clear hK K
      try simp only [List.getElem_toArray, List.getElem_cons_succ, List.getElem_cons_zero, Act.put, List.setIfInBounds_toArray, List.set_cons_zero, List.set_cons_succ]
      refine wpAny_of_E (fun _ => True) 23 _ _ _ _ ?_
      clear hS
      have hS : True := trivial
      refine wpAnyE_take (i := 9) (v := ?_) [15, 12, 10] rfl (by kernel_rfl) (fun _ _ _ h => h) (Or.inl ⟨by rfl, ?_⟩) hS ?_
      rotate_left
      · rintro wx _
        go_simp
        with_reducible rfl
      try simp only [List.getElem_toArray, List.getElem_cons_succ, List.getElem_cons_zero, Act.put, List.setIfInBounds_toArray, List.set_cons_zero, List.set_cons_succ]
      refine wpAnyE_take (i := 11) (v := ?_) [15, 12] rfl (by kernel_rfl) (fun _ _ _ h => h) (Or.inl ⟨by rfl, ?_⟩) hS ?_
      rotate_left
      · rintro wx _
        go_simp
        with_reducible rfl
      try simp only [List.getElem_toArray, List.getElem_cons_succ, List.getElem_cons_zero, Act.put, List.setIfInBounds_toArray, List.set_cons_zero, List.set_cons_succ]
      refine wpAnyE_one (i := 10) (by kernel_rfl) (by kernel_rfl) rfl (by rfl) fun K hK => ?_
      go_simp
      refine (double_any w.heap.size n _ ms 0 _ hT1.N hT1.pl).mono ?_
      rintro e wA ⟨svA, rfl, hA, gA, uA⟩
      refine hK _ _ trivial ?_
      clear hK K
      try simp only [List.getElem_toArray, List.getElem_cons_succ, List.getElem_cons_zero, Act.put, List.setIfInBounds_toArray, List.set_cons_zero, List.set_cons_succ]
      refine wpAnyE_one (i := 12) (by kernel_rfl) (by kernel_rfl) rfl (by rfl) fun K hK => ?_
      go_simp
      refine (rdouble_any w1.heap.size n _ ms 0 _ (hT1.mid uA) hT1.pl).mono ?_
      rintro e wB ⟨rvB, rfl, hB, gB, uB⟩
      refine hK _ _ trivial ?_
      clear hK K
      try simp only [List.getElem_toArray, List.getElem_cons_succ, List.getElem_cons_zero, Act.put, List.setIfInBounds_toArray, List.set_cons_zero, List.set_cons_succ]
      have hT2 := hT1.step hA gA uA hB gB uB (dbl_plain hT1.pl 0) (dbl_le hT1.le 0)
      have hu2 := hT1.below hu1 uA uB
      clear hT1 hu1 hA gA uA hB gB uB
      obtain ⟨m2, hm2⟩ : ∃ m2, dbl ms 0 = m2 := ⟨_, rfl⟩
      rw [hm2] at hT2
      have dd : (dblOk ms 0 != dblOk ms 0) = false := by simp
      refine wpAnyE_take (i := 13) (v := ?_) [15, 14] rfl (by kernel_rfl) (fun _ _ _ h => h) (Or.inl ⟨by rfl, ?_⟩) hS ?_
      rotate_left
      · rintro wx _
        go_simp
        with_reducible rfl
      try simp only [List.getElem_toArray, List.getElem_cons_succ, List.getElem_cons_zero, Act.put, List.setIfInBounds_toArray, List.set_cons_zero, List.set_cons_succ]
      refine wpAnyE_take (i := 14) (v := ?_) [15] rfl (by kernel_rfl) (fun _ _ _ h => h) (Or.inl ⟨by rfl, ?_⟩) hS ?_
      rotate_left
      · rintro wx _
        go_simp
        with_reducible rfl
      try simp only [List.getElem_toArray, List.getElem_cons_succ, List.getElem_cons_zero, Act.put, List.setIfInBounds_toArray, List.set_cons_zero, List.set_cons_succ]
      refine wpAnyE_take (i := 15) (v := ?_) [] rfl (by kernel_rfl) (fun _ _ _ h => h) (Or.inl ⟨by rfl, ?_⟩) hS ?_
      rotate_left
      · rintro wx _
        go_simp
        with_reducible rfl
      try simp only [List.getElem_toArray, List.getElem_cons_succ, List.getElem_cons_zero, Act.put, List.setIfInBounds_toArray, List.set_cons_zero, List.set_cons_succ]
      refine wpAnyE_take (i := 16) (v := ?_) [22, 18] rfl (by kernel_rfl) (fun _ _ _ h => h) (Or.inl ⟨by rfl, ?_⟩) hS ?_
      rotate_left
      · rintro wx _
        go_simp
        with_reducible rfl
      try simp only [List.getElem_toArray, List.getElem_cons_succ, List.getElem_cons_zero, Act.put, List.setIfInBounds_toArray, List.set_cons_zero, List.set_cons_succ]
      refine wpAnyE_take (i := 17) (v := ?_) [22, 18] rfl (by kernel_rfl) (fun _ _ _ h => h) (Or.inl ⟨by rfl, ?_⟩) hS ?_
      rotate_left
      · rintro wx _
        go_simp
        with_reducible rfl
      try simp only [List.getElem_toArray, List.getElem_cons_succ, List.getElem_cons_zero, Act.put, List.setIfInBounds_toArray, List.set_cons_zero, List.set_cons_succ]
      refine wpAnyE_take (i := 19) (v := ?_) [22, 21] rfl (by kernel_rfl) (fun _ _ _ h => h) (Or.inl ⟨by rfl, ?_⟩) hS ?_
      rotate_left
      · rintro wx _
        go_simp
        with_reducible rfl
      try simp only [List.getElem_toArray, List.getElem_cons_succ, List.getElem_cons_zero, Act.put, List.setIfInBounds_toArray, List.set_cons_zero, List.set_cons_succ]
      refine wpAnyE_take (i := 20) (v := ?_) [22, 21] rfl (by kernel_rfl) (fun _ _ _ h => h) (Or.inl ⟨by rfl, ?_⟩) hS ?_
      rotate_left
      · rintro wx _
        go_simp
        with_reducible rfl
      try simp only [List.getElem_toArray, List.getElem_cons_succ, List.getElem_cons_zero, Act.put, List.setIfInBounds_toArray, List.set_cons_zero, List.set_cons_succ]
      refine wpAnyE_one (i := 18) (by kernel_rfl) (by kernel_rfl) rfl (by rfl) fun K hK => ?_
      go_simp
      refine (double_any w.heap.size n _ m2 y _ hT2.N hT2.pl).mono ?_
      rintro e wC ⟨svC, rfl, hC, gC, uC⟩
      refine hK _ _ trivial ?_
      clear hK K
      try simp only [List.getElem_toArray, List.getElem_cons_succ, List.getElem_cons_zero, Act.put, List.setIfInBounds_toArray, List.set_cons_zero, List.set_cons_succ]
      refine wpAnyE_one (i := 21) (by kernel_rfl) (by kernel_rfl) rfl (by rfl) fun K hK => ?_
      go_simp
      refine (rdouble_any w1.heap.size n _ m2 y _ (hT2.mid uC) hT2.pl).mono ?_
      rintro e wD ⟨rvD, rfl, hD, gD, uD⟩
      refine hK _ _ trivial ?_
      clear hK K
      try simp only [List.getElem_toArray, List.getElem_cons_succ, List.getElem_cons_zero, Act.put, List.setIfInBounds_toArray, List.set_cons_zero, List.set_cons_succ]
      have hT3 := hT2.step hC gC uC hD gD uD (dbl_plain hT2.pl y) (dbl_le hT2.le y)
      have hu3 := hT2.below hu2 uC uD
      clear hT2 hu2 hC gC uC hD gD uD
      obtain ⟨m3, hm3⟩ : ∃ m3, dbl m2 y = m3 := ⟨_, rfl⟩
      rw [hm3] at hT3
      have dd2 : (dblOk m2 y != dblOk m2 y) = false := by simp
      refine wpAnyE_take (i := 22) (v := ?_) [] rfl (by kernel_rfl) (fun _ _ _ h => h) (Or.inl ⟨by rfl, ?_⟩) hS ?_
      rotate_left
      · rintro wx _
        go_simp
        with_reducible rfl
      try simp only [List.getElem_toArray, List.getElem_cons_succ, List.getElem_cons_zero, Act.put, List.setIfInBounds_toArray, List.set_cons_zero, List.set_cons_succ]
      refine wpAnyE_z (by kernel_rfl) rfl (by rfl) fun K hK => ?_
      go_simp
      refine hK _ _ ?_
      clear hK K
      try simp only [List.getElem_toArray, List.getElem_cons_succ, List.getElem_cons_zero, Act.put, List.setIfInBounds_toArray, List.set_cons_zero, List.set_cons_succ]
      refine wpAny_done (by kernel_rfl) ?_ _
      refine NoPanic.normal ?_
      go_wp2_with fail
      obtain ⟨sa3, sc3, rfl⟩ := svi_form hT3.N
      obtain ⟨ra3, rc3, rfl⟩ := hT3.R.form
      refine wp_region_P (by kernel_rfl) ?_
      have hT4 := hT3.upd (Upd.refl nob _).drew
      have hu4 := hu3.drew
      clear hT3 hu3
      refine wpAny_of_E (fun X => Two X w.heap.size w.heap.size w1.heap.size n (.slice sa3 m3.length sc3) (.slice ra3 m3.length rc3) m3 ∧ Upd nob w X) 8 _ _ _ _ ?_
      have hS := And.intro hT4 hu4
      refine wpAnyE_take (i := 0) (v := ?_) [1] rfl (by kernel_rfl) (fun _ _ _ h => h) (Or.inl ⟨by rfl, ?_⟩) hS ?_
      rotate_left
      · rintro wx ⟨s1, s2⟩
        go_simp
        with_reducible rfl
      try simp only [List.getElem_toArray, List.getElem_cons_succ, List.getElem_cons_zero, Act.put, List.setIfInBounds_toArray, List.set_cons_zero, List.set_cons_succ]
      refine wpAnyE_take (i := 2) (v := ?_) [7, 6, 5, 4, 3] rfl (by kernel_rfl) (fun _ _ _ h => h) (Or.inl ⟨by rfl, ?_⟩) hS ?_
      rotate_left
      · rintro wx ⟨s1, s2⟩
        go_simp
        with_reducible rfl
      try simp only [List.getElem_toArray, List.getElem_cons_succ, List.getElem_cons_zero, Act.put, List.setIfInBounds_toArray, List.set_cons_zero, List.set_cons_succ]
      refine wpAnyE_take (i := 3) (v := ?_) [7, 6, 5, 4] rfl (by kernel_rfl) (fun _ _ _ h => h) (Or.inl ⟨by rfl, ?_⟩) hS ?_
      rotate_left
      · rintro wx ⟨s1, s2⟩
        go_simp
        with_reducible rfl
      try simp only [List.getElem_toArray, List.getElem_cons_succ, List.getElem_cons_zero, Act.put, List.setIfInBounds_toArray, List.set_cons_zero, List.set_cons_succ]
      refine wpAnyE_take (i := 4) (v := ?_) [7, 6, 5] rfl (by kernel_rfl) (fun _ _ _ h => h) (Or.inl ⟨by rfl, ?_⟩) hS ?_
      rotate_left
      · rintro wx ⟨s1, s2⟩
        go_simp
        with_reducible rfl
      try simp only [List.getElem_toArray, List.getElem_cons_succ, List.getElem_cons_zero, Act.put, List.setIfInBounds_toArray, List.set_cons_zero, List.set_cons_succ]
      refine wpAnyE_take (i := 5) (v := ?_) [7, 6] rfl (by kernel_rfl) (fun _ _ _ h => h) (Or.inl ⟨by rfl, ?_⟩) hS ?_
      rotate_left
      · rintro wx ⟨s1, s2⟩
        have c := s1.R.blk.cell 1
        simp only [List.getElem?_toArray, List.getElem?_cons_zero, List.getElem?_cons_succ] at c
        go_simp
        with_reducible rfl
      try simp only [List.getElem_toArray, List.getElem_cons_succ, List.getElem_cons_zero, Act.put, List.setIfInBounds_toArray, List.set_cons_zero, List.set_cons_succ]
      refine wpAnyE_take (i := 6) (v := ?_) [7] rfl (by kernel_rfl) (fun _ _ _ h => h) (Or.inl ⟨by rfl, ?_⟩) hS ?_
      rotate_left
      · rintro wx ⟨s1, s2⟩
        go_simp
        with_reducible rfl
      try simp only [List.getElem_toArray, List.getElem_cons_succ, List.getElem_cons_zero, Act.put, List.setIfInBounds_toArray, List.set_cons_zero, List.set_cons_succ]
      refine wpAnyE_one (i := 1) (by kernel_rfl) (by kernel_rfl) rfl (by rfl) fun K hK => ?_
      go_simp
      refine (len_any _ n _ _ _ _ hS.1.N.blk).mono ?_
      rintro e w' ⟨rfl, rfl⟩
      refine hK _ _ hS ?_
      clear hK K
      try simp only [List.getElem_toArray, List.getElem_cons_succ, List.getElem_cons_zero, Act.put, List.setIfInBounds_toArray, List.set_cons_zero, List.set_cons_succ]
      refine wpAnyE_take (i := 7) (v := ?_) [] rfl (by kernel_rfl) (fun _ _ _ h => h) (Or.inl ⟨by rfl, ?_⟩) hS ?_
      rotate_left
      · rintro wx ⟨s1, s2⟩
        go_simp
        with_reducible rfl
      try simp only [List.getElem_toArray, List.getElem_cons_succ, List.getElem_cons_zero, Act.put, List.setIfInBounds_toArray, List.set_cons_zero, List.set_cons_succ]
      refine wpAnyE_z (by kernel_rfl) rfl (by rfl) fun K hK => ?_
      go_simp
      refine hK _ _ ?_
      clear hK K
      try simp only [List.getElem_toArray, List.getElem_cons_succ, List.getElem_cons_zero, Act.put, List.setIfInBounds_toArray, List.set_cons_zero, List.set_cons_succ]
      refine wpAny_of_E (fun _ => True) 11 _ _ _ _ ?_
      clear hS
      have hS : True := trivial
      refine wpAnyE_one (i := 9) (by kernel_rfl) (by kernel_rfl) rfl (by rfl) fun K hK => ?_
      go_simp
      refine (awake_any _).mono ?_
      rintro e wE ⟨rfl, hbE⟩
      refine hK _ _ trivial ?_
      clear hK K
      try simp only [List.getElem_toArray, List.getElem_cons_succ, List.getElem_cons_zero, Act.put, List.setIfInBounds_toArray, List.set_cons_zero, List.set_cons_succ]
      refine wpAnyE_take (i := 10) (v := ?_) [] rfl (by kernel_rfl) (fun _ _ _ h => h) (Or.inl ⟨by rfl, ?_⟩) hS ?_
      rotate_left
      · rintro wx _
        go_simp
        with_reducible rfl
      try simp only [List.getElem_toArray, List.getElem_cons_succ, List.getElem_cons_zero, Act.put, List.setIfInBounds_toArray, List.set_cons_zero, List.set_cons_succ]
      refine wpAnyE_z (by kernel_rfl) rfl (by rfl) fun K hK => ?_
      go_simp
      refine hK _ _ ?_
      clear hK K
      try simp only [List.getElem_toArray, List.getElem_cons_succ, List.getElem_cons_zero, Act.put, List.setIfInBounds_toArray, List.set_cons_zero, List.set_cons_succ]
      refine wpAny_done (by kernel_rfl) ?_ _
      refine NoPanic.normal ?_
      go_wp2_with fail
      go_ret
      exact ⟨rfl, (hu4.trans' (Upd.of_below (S := nob) hbE) (fun _ _ h => h)).below⟩
end Go.Proofs.Ytdpnpkleobjkfaa
