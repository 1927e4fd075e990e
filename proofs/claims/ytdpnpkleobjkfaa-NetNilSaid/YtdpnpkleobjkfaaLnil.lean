/- assizelaw24.NetNil answers yes. -/
import Derived.Test.YtdpnpkleobjkfaaAwake
import Derived.Test.YtdpnpkleobjkfaaLsame
namespace Go.Proofs.Ytdpnpkleobjkfaa
open Go.RowKit Go.Shelf
attribute [local go_sem] Oper.semAt_some
set_option maxRecDepth 100000
set_option maxHeartbeats 4000000

theorem law_same_z (w : World) : Calls Try.prog 16 #[.agg zout, .agg zout] w fun e w' => e = .returned (.bool true) ∧ Below w.heap.size w w' := by
  rw [zout_msg]; exact law_same 0 _ 0 0 0 0 (msg_is 0 0 0 0) w
theorem built_out1 : Try.prog.built 40 [(0, .int .i64 (-1))] = some (#[.int .i64 (-1)] ++ msg 0 0 0 0) := by kernel_rfl
theorem built_rmail : Try.prog.built 56 [] = some zout := by kernel_rfl

theorem net_nil (x y : Int) (w : World) : Calls Try.prog 6 #[.int .i64 x, .int .i64 y] w fun e w' => e = .returned (.bool true) ∧ Below w.heap.size w w' := by
  have hz := zero_mail
  go_enter Try.func6, Try.ntmps6
  try dsimp only [List.append]
  go_wp2_with fail
  refine (atNil y _).mono ?_
  rintro e w1 ⟨rfl, hb1⟩
  have b6 : Blk (w1.alloc (.cells zout 49)) w1.heap.size 49 zout := Blk.new _ _ _
  go_wp2_with (first
    | (refine wpList_store_row rfl 49 (.tmp 6) (.tmp 14) rfl w1.heap.size zout rfl rfl 49 zout b6 mail_size rfl zout_one ?_))
  have b6' := b6.row zout
  have hu1 : Upd nob w ((w1.alloc (.cells zout 49)).setRow w1.heap.size zout) := ((Upd.of_below (S := nob) hb1).alloc _).setRow (.inr hb1.size) _
  revert b6' hu1
  generalize ((w1.alloc (.cells zout 49)).setRow w1.heap.size zout) = v1
  intro b6' hu1
  refine (takeNil y _).mono ?_
  rintro e w2 ⟨rfl, hb2⟩
  have b6a : Blk w2 w1.heap.size 49 zout := b6'.below hb2 b6'.lt
  have hu2 : Upd nob w w2 := hu1.trans' (Upd.of_below (S := nob) hb2) (fun _ _ h => h)
  have b8 : Blk (w2.alloc (.cells zout 49)) w2.heap.size 49 zout := Blk.new _ _ _
  have b6b : Blk ((w2.alloc (.cells zout 49)).setRow w2.heap.size zout) w1.heap.size 49 zout := (b6a.alloc _).rowFar (by have := b6a.lt; omega) _
  have b8a := b8.row zout
  have hu3 : Upd nob w ((w2.alloc (.cells zout 49)).setRow w2.heap.size zout) := (hu2.alloc _).setRow (.inr hu2.size) _
  clear hu1 b6' b6 hb1 b6a
  obtain ⟨ie, hie, hiz, his, hib⟩ := info_parts out_info
  have hms : (#[Value.int .i64 (-1)] ++ msg 0 0 0 0).size = 74 := by kernel_rfl
  go_wp2_with (first
    | (refine wpList_store_row rfl 49 (.tmp 8) (.tmp 20) rfl w2.heap.size zout rfl rfl 49 zout b8 mail_size rfl zout_one ?_)
    | (refine wpList_buildTo (o := ⟨some 24, .build 40 #[(0, .const (.int .i64 (-1)))], _, _, _, _⟩) rfl 40 #[(0, .const (.int .i64 (-1)))] rfl (some 24) rfl (#[.int .i64 (-1)] ++ msg 0 0 0 0) ?_ ?_; simp [Act.eval]; exact built_out1)
    | (refine wpList_buildSlice (o := ⟨some 25, .buildSlice 41 1 #[(0, .tmp 24)], _, _, _, _⟩) rfl 41 40 1 #[(0, .tmp 24)] rfl (#[.int .i64 (-1)] ++ msg 0 0 0 0) ie (.agg zout) Try.underlying41 hie hiz (by rw [his]; decide) (by rw [his]; decide) ?_ ?_; (simp only [his]; simp only [Act.eval, List.map_toArray, List.map_cons, List.map_nil]; refine fill_one (n := 74) ?_ hms; rw [Array.size_map, Array.size_range])))
  refine (sendNil _ _ _).mono ?_
  rintro e w4 ⟨rfl, hb4⟩
  have b6c : Blk w4 w1.heap.size 49 zout := (b6b.alloc _).below hb4 ((b6b.alloc _).lt)
  have b8c : Blk w4 w2.heap.size 49 zout := (b8a.alloc _).below hb4 ((b8a.alloc _).lt)
  have hu4 : Upd nob w w4 := (hu3.alloc _).trans' (Upd.of_below (S := nob) hb4) (fun _ _ h => h)
  clear hu3 hb4 b6b b8a b8 hb2 hu2
  have hz2 := zero_rmail
  go_wp2_with (first
    | (go_at_call 10; refine (lenNil _).mono ?_; rintro e w' ⟨rfl, rfl⟩)
    | (go_big_want; refine owp_load_row 49 (.tmp 6) rfl w1.heap.size rfl 49 zout _ b6c Try.underlying49 rfl mail_size ?_))
  refine (law_same_z _).mono ?_
  rintro e w5 ⟨rfl, hb5⟩
  have b8d : Blk w5 w2.heap.size 49 zout := b8c.below hb5 b8c.lt
  have hu5 : Upd nob w w5 := hu4.trans' (Upd.of_below (S := nob) hb5) (fun _ _ h => h)
  clear hu4 hb5 b6c b8c
  go_wp2_with (first
    | (go_big_want; refine owp_load_row 49 (.tmp 8) rfl w2.heap.size rfl 49 zout _ b8d Try.underlying49 rfl mail_size ?_))
  refine (law_same_z _).mono ?_
  rintro e w6 ⟨rfl, hb6⟩
  have hu6 : Upd nob w w6 := hu5.trans' (Upd.of_below (S := nob) hb6) (fun _ _ h => h)
  clear hu5 hb6 b8d
  go_wp2_with fail
  refine (doubleNil y _).mono ?_
  rintro e w7 ⟨rfl, hb7⟩
  have hu7 : Upd nob w w7 := hu6.trans' (Upd.of_below (S := nob) hb7) (fun _ _ h => h)
  clear hu6 hb7
  go_wp2_with fail
  refine (allNil _).mono ?_
  rintro e w8 ⟨rfl, hw8⟩
  have b9 : Blk w8 w7.heap.size 60 #[.slice none 0 0] := by rw [hw8]; exact Blk.new _ _ _
  have hu8 : Upd nob w w8 := by rw [hw8]; exact hu7.alloc _
  clear hu7 hw8
  go_wp2_with fail
  refine (collect_nil 9 (by decide) (values0_spec w7.heap.size w8 b9) (fun args w => by kernel_rfl) (fun k hk => by subst hk; exact b9.lt)).mono ?_
  rintro e w9 ⟨rfl, hb9⟩
  have hu9 : Upd nob w w9 := hu8.trans' (Upd.of_below (S := nob) hb9) (fun _ _ h => h)
  clear hu8 hb9 b9
  go_wp2_with fail
  refine (awake_any _).mono ?_
  rintro e w10 ⟨rfl, hb10⟩
  have hu10 : Upd nob w w10 := hu9.trans' (Upd.of_below (S := nob) hb10) (fun _ _ h => h)
  go_wp2_with fail
  go_ret
  exact ⟨rfl, hu10.below⟩
end Go.Proofs.Ytdpnpkleobjkfaa
