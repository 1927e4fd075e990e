/- awake: New, Send, Len at known values. -/
import Derived.Test.YtdpnpkleobjkfaaColl
import Derived.Test.YtdpnpkleobjkfaaSend
import Derived.Test.YtdpnpkleobjkfaaIs
import Derived.Great.Walk
namespace Go.Proofs.Ytdpnpkleobjkfaa
open Go.RowKit Go.Shelf
attribute [local go_sem] Oper.semAt_some
set_option maxRecDepth 100000
set_option maxHeartbeats 4000000

theorem new_any (n : Int) (w : World) : Calls Try.prog 7 #[.int .i64 n] w fun e w' => e = .returned (.pointer (some ⟨w.heap.size, 0, none⟩)) ∧ w' = w.alloc (.cells #[.int .i64 n, .slice none 0 0] 67) := by
  go_enter Try.func7, Try.ntmps7
  go_wp2
  go_ret
  exact ⟨rfl, rfl⟩

theorem built_msg (s : Int) : Try.prog.built 38 [(0, .int .i64 8), (3, .int .i64 s)] = some (msg 8 0 0 s) := by kernel_rfl
theorem built_msg0 : Try.prog.built 38 [(0, .int .i64 8)] = some (msg 8 0 0 0) := by kernel_rfl
theorem built_out0 (parts : List (Nat × Value)) : Try.prog.built 40 parts = Instr.fill (fun i => #[(0, 1), (1, 73)][i]?) zout parts := by kernel_rfl
theorem built_out (z : Int) (cs : Array Value) (h : cs.size = 73) : Try.prog.built 40 [(0, .int .i64 z), (1, .agg cs)] = some (#[.int .i64 z] ++ cs) := by
  rw [built_out0, ← built_mail0]; exact built_mail z cs h
theorem out_info : (Try.prog.info? 40).map (fun i => (i.zero, i.size, i.bytes)) = some (some (.agg zout), 74, 208) := by kernel_rfl
theorem awake_any (w : World) : Calls Try.prog 13 #[] w fun e w' => e = .returned (.bool true) ∧ Below w.heap.size w w' := by
  go_enter Try.func13, Try.ntmps13
  go_wp2_with fail
  refine (new_any 4 _).mono ?_
  rintro e w1 ⟨rfl, hw1⟩
  have b1 : Blk w1 w.heap.size 67 #[.int .i64 4, .slice none 0 0] := by rw [hw1]; exact Blk.new w _ _
  have hu1 : Upd nob w w1 := by rw [hw1]; exact (Upd.refl nob w).alloc _
  clear hw1
  obtain ⟨ie, hie, hiz, his, hib⟩ := info_parts out_info
  have hms : (#[Value.int .i64 (-1)] ++ msg 8 0 0 0).size = 74 := by kernel_rfl
  go_wp2_with (first
    | (refine wpList_buildTo (o := ⟨some 4, .build 38 #[(0, .const (.int .i64 8))], _, _, _, _⟩) rfl 38 #[(0, .const (.int .i64 8))] rfl (some 4) rfl (msg 8 0 0 0) ?_ ?_; simp [Act.eval]; exact built_msg0)
    | (refine wpList_buildTo (o := ⟨some 5, .build 40 #[(0, .const (.int .i64 (-1))), (1, .tmp 4)], _, _, _, _⟩) rfl 40 #[(0, .const (.int .i64 (-1))), (1, .tmp 4)] rfl (some 5) rfl (#[.int .i64 (-1)] ++ msg 8 0 0 0) ?_ ?_; simp [Act.eval]; exact built_out (-1) (msg 8 0 0 0) (msg_size _ _ _ _))
    | (refine wpList_buildSlice (o := ⟨some 6, .buildSlice 41 1 #[(0, .tmp 5)], _, _, _, _⟩) rfl 41 40 1 #[(0, .tmp 5)] rfl (#[.int .i64 (-1)] ++ msg 8 0 0 0) ie (.agg zout) Try.underlying41 hie hiz (by rw [his]; decide) (by rw [his]; decide) ?_ ?_; (simp only [his]; simp only [Act.eval, List.map_toArray, List.map_cons, List.map_nil]; refine fill_one (n := 74) ?_ hms; rw [Array.size_map, Array.size_range])))
  have b2 : Blk (w1.alloc (.cells (#[.int .i64 (-1)] ++ msg 8 0 0 0) 40)) w.heap.size 67 #[.int .i64 4, .slice none 0 0] := b1.alloc _
  have hN : NetS (w1.alloc (.cells (#[.int .i64 (-1)] ++ msg 8 0 0 0) 40)) w.heap.size 4 (.slice none 0 0) 0 [] := ⟨b2, ⟨rfl, .inl ⟨rfl, rfl⟩⟩⟩
  refine (send1 w.heap.size 4 1 (-1) (.slice none 0 0) 0 [] (msg 8 0 0 0) w1.heap.size 1 _ (by decide) (by decide) hN (msg_is 8 0 0 0).plain (Blk.new _ _ _) (by decide) (by decide)).mono ?_
  rintro e w2 ⟨sv, rfl, hN2, hsv, hu2⟩
  have h3 : (((upto 4).filter (forB 1 (-1))).take (4000 - 0)).length = 3 := by decide
  rw [h3] at hN2 ⊢
  obtain ⟨a3, c3', rfl⟩ : ∃ a c, sv = .slice a 3 c := by
    rcases hN2.row.2 with ⟨rfl, hh⟩ | ⟨g, cap, cur, rfl, _⟩
    · exact absurd hh (by decide)
    · exact ⟨_, _, rfl⟩
  have b3 := hN2.blk
  have hb : Below w.heap.size w w2 := by
    refine (hu1.trans' (((Upd.refl _ w1).alloc _).trans hu2) ?_).below
    rintro i hi (rfl | h)
    · exact absurd hi (Nat.lt_irrefl _)
    · simp [Value.ownBlock] at h
  go_wp2_with (first | (go_at_call 10; refine (len_any w.heap.size 4 a3 3 c3' _ b3).mono ?_; rintro e w' ⟨rfl, rfl⟩))
  go_ret
  exact ⟨rfl, hb⟩
end Go.Proofs.Ytdpnpkleobjkfaa
