/- assizeref17.Same of a message and itself (messages without lists). -/
import Derived.Test.YtdpnpkleobjkfaaIs
import Derived.BigFrame
namespace Go.Proofs.Ytdpnpkleobjkfaa
open Go.RowKit Go.Shelf
attribute [local go_sem] Oper.semAt_some
set_option maxRecDepth 100000
set_option maxHeartbeats 4000000

theorem samebytes_nil (w : World) : Calls Try.prog 36 #[.slice none 0 0, .slice none 0 0] w fun e w' => e = .returned (.bool true) ∧ w = w' := by
  go_enter Try.func36, Try.ntmps36
  go_wp2_with fail
  refine wp_loop_once ?_
  go_wp2
  go_ret
  exact ⟨rfl, rfl⟩

theorem sameall_nil (w : World) : Calls Try.prog 37 #[.slice none 0 0, .slice none 0 0] w fun e w' => e = .returned (.bool true) ∧ w = w' := by
  go_enter Try.func37, Try.ntmps37
  go_wp2_with fail
  refine wp_loop_once ?_
  go_wp2
  go_ret
  exact ⟨rfl, rfl⟩

theorem conv_nil (w : World) : (convert 31 9 (.slice none 0 0)).run Try.prog w = .ok (.string ByteArray.empty) w := by kernel_rfl

theorem dig_eq (w : World) : (binOp .neq 30 (.agg zdig) (.agg zdig)).run Try.prog w = .ok (.bool false) w := by kernel_rfl
theorem sig_eq (w : World) : (binOp .neq 36 (.agg zsig) (.agg zsig)).run Try.prog w = .ok (.bool false) w := by kernel_rfl
theorem dig_info : (Try.prog.info? 30).map (·.size) = some zdig.size := by kernel_rfl
theorem sig_info : (Try.prog.info? 36).map (·.size) = some zsig.size := by kernel_rfl

theorem same_self (cs : Array Value) (k f v s : Int) (hm : MsgIs cs k f v s) (w : World) : Calls Try.prog 25 #[.agg cs, .agg cs] w fun e w' => e = .returned (.bool true) ∧ Below w.heap.size w w' := by
  have hs := hm.plain.size
  have de := dig_eq
  have se := sig_eq
  have hc := conv_nil
  have h5 := hm.plain.h5
  have h6 := hm.plain.h6
  have h7 := hm.plain.h7
  have h8 := hm.plain.h8
  have c0 := hm.c0
  have c1 := hm.c1
  have c2 := hm.c2
  have c3 := hm.c3
  have b2 : Blk ((w.alloc (.cells cs 38)).alloc (.cells cs 38)) w.heap.size 38 cs := (Blk.new w _ cs).alloc _
  have b3 : Blk ((w.alloc (.cells cs 38)).alloc (.cells cs 38)) (w.heap.size + 1) 38 cs := by
    have := Blk.new (w.alloc (.cells cs 38)) 38 cs
    rwa [World.size_alloc] at this
  obtain ⟨dp, dq, hdp, hdc⟩ := hm.dig
  obtain ⟨sp, hsp, hsc⟩ := hm.sig
  have D2 : Hid (((w.alloc (.cells cs 38)).alloc (.cells cs 38)).rangeAt w.heap.size 4 zdig.toList) := by
    refine Lib.hid ?_; rw [← hdp]; exact Blk.range (cs := zdig) (by rw [← hdc]; exact b2)
  have D3 : Hid (((w.alloc (.cells cs 38)).alloc (.cells cs 38)).rangeAt (w.heap.size + 1) 4 zdig.toList) := by
    refine Lib.hid ?_; rw [← hdp]; exact Blk.range (cs := zdig) (by rw [← hdc]; exact b3)
  have G2 : Hid (((w.alloc (.cells cs 38)).alloc (.cells cs 38)).rangeAt w.heap.size 40 zsig.toList) := by
    refine Lib.hid ?_; rw [← hsp]; exact Blk.range2 (cs := zsig) (by rw [← hsc]; exact b2)
  have G3 : Hid (((w.alloc (.cells cs 38)).alloc (.cells cs 38)).rangeAt (w.heap.size + 1) 40 zsig.toList) := by
    refine Lib.hid ?_; rw [← hsp]; exact Blk.range2 (cs := zsig) (by rw [← hsc]; exact b3)
  clear hm b2 b3 hdc hsc
  go_enter Try.func25, Try.ntmps25
  dsimp only [List.append]
  go_wp2_with (first
    | (go_big_want; refine owp_load_mid 30 (.tmp 34) rfl w.heap.size 4 rfl zdig _ D2.out Try.underlying30 rfl dig_info ?_)
    | (go_big_want; refine owp_load_mid 30 (.tmp 36) rfl (w.heap.size + 1) 4 rfl zdig _ D3.out Try.underlying30 rfl dig_info ?_)
    | (go_big_want; refine owp_load_mid 36 (.tmp 58) rfl w.heap.size 40 rfl zsig _ G2.out Try.underlying36 rfl sig_info ?_)
    | (go_big_want; refine owp_load_mid 36 (.tmp 60) rfl (w.heap.size + 1) 40 rfl zsig _ G3.out Try.underlying36 rfl sig_info ?_)
    | (go_at_call 36; refine (samebytes_nil _).mono ?_; rintro e w' ⟨rfl, rfl⟩)
    | (go_at_call 37; refine (sameall_nil _).mono ?_; rintro e w' ⟨rfl, rfl⟩))
  refine wp_loop_once ?_
  go_wp2
  go_ret
  exact ⟨rfl, ((Below.refl _ _).alloc (Nat.le_refl _) _).alloc (by simp) _⟩
end Go.Proofs.Ytdpnpkleobjkfaa
