import Derived.Test.YtdpnpkleobjkfaaMsg
namespace Go.Proofs.Ytdpnpkleobjkfaa
open Go.RowKit
def zout : Array Value := #[.int .i64 0] ++ zmsg
theorem zout_size : zout.size = 74 := by kernel_rfl
theorem zero_out (w : World) : (zeroValue 40).run Try.prog w = .ok (.agg zout) w := by kernel_rfl
theorem built_mail0 (parts : List (Nat × Value)) : Try.prog.built 49 parts = Instr.fill (fun i => #[(0, 1), (1, 73)][i]?) zout parts := by kernel_rfl
theorem built_mail (z : Int) (cs : Array Value) (h : cs.size = 73) : Try.prog.built 49 [(0, .int .i64 z), (1, .agg cs)] = some (#[.int .i64 z] ++ cs) := by
  rw [built_mail0]
  have h0 : (zout.setIfInBounds 0 (.int .i64 z)).size = 74 := by simp [zout_size]
  have hs := splice_eq cs (zout.setIfInBounds 0 (.int .i64 z)) #[.int .i64 z] #[] (by simp [zout_size, h]) (by
    intro k hk
    obtain rfl : k = 0 := by simpa using hk
    simp [zout_size]) (by intro k hk; simp at hk)
  simp only [Array.append_empty] at hs
  simp [Instr.fill, Value.cells, h, zout_size]
  simpa [h] using hs

theorem mail_info : (Try.prog.info? 49).map (fun i => (i.zero, i.size, i.bytes)) = some (some (.agg zout), 74, 208) := by kernel_rfl
theorem zout_one : zout.all (·.oneCell') = true := by kernel_rfl
end Go.Proofs.Ytdpnpkleobjkfaa
