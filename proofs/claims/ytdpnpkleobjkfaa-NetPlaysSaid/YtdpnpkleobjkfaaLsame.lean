/- assizelaw24.same of a message and itself; zout's own cells. -/
import Derived.Test.YtdpnpkleobjkfaaSame
import Derived.Test.YtdpnpkleobjkfaaBuilt
namespace Go.Proofs.Ytdpnpkleobjkfaa
open Go.RowKit Go.Shelf
attribute [local go_sem] Oper.semAt_some
set_option maxRecDepth 100000
set_option maxHeartbeats 4000000

theorem zout_msg : zout = #[.int .i64 0] ++ msg 0 0 0 0 := by kernel_rfl
theorem msg_info : (Try.prog.info? 38).map (·.size) = some 73 := by kernel_rfl

theorem law_same (i : Int) (cs : Array Value) (k f v s : Int) (hm : MsgIs cs k f v s) (w : World) : Calls Try.prog 16 #[.agg (#[.int .i64 i] ++ cs), .agg (#[.int .i64 i] ++ cs)] w fun e w' => e = .returned (.bool true) ∧ Below w.heap.size w w' := by
  have hs := hm.plain.size
  have hz : (Try.prog.info? 38).map (·.size) = some cs.size := by rw [hs]; exact msg_info
  have b2 : Blk ((w.alloc (.cells (#[.int .i64 i] ++ cs) 49)).alloc (.cells (#[.int .i64 i] ++ cs) 56)) w.heap.size 49 (#[.int .i64 i] ++ cs) := (Blk.new w _ _).alloc _
  have b3 : Blk ((w.alloc (.cells (#[.int .i64 i] ++ cs) 49)).alloc (.cells (#[.int .i64 i] ++ cs) 56)) (w.heap.size + 1) 56 (#[.int .i64 i] ++ cs) := by
    have := Blk.new (w.alloc (.cells (#[.int .i64 i] ++ cs) 49)) 56 (#[.int .i64 i] ++ cs)
    rwa [World.size_alloc] at this
  have D2 := Lib.hid b2.range2
  have D3 := Lib.hid b3.range2
  clear b2 b3
  go_enter Try.func16, Try.ntmps16
  go_wp2_with fail
  refine owp_load_mid 38 (.tmp 11) rfl w.heap.size 1 rfl cs _ D2.out Try.underlying38 rfl hz ?_
  go_wp2_with fail
  refine owp_load_mid 38 (.tmp 13) rfl (w.heap.size + 1) 1 rfl cs _ D3.out Try.underlying38 rfl hz ?_
  go_wp2_with (first
    | (go_at_call 25; refine (same_self cs k f v s hm _).mono ?_; rintro e w2 ⟨rfl, hb⟩))
  go_ret
  refine ⟨rfl, ?_⟩
  exact (((Below.refl _ _).alloc (Nat.le_refl _) _).alloc (by simp) _).trans (hb.mono (by simp only [World.size_alloc]; omega))
end Go.Proofs.Ytdpnpkleobjkfaa
