/- The methods of no network. -/
import Derived.Test.YtdpnpkleobjkfaaBuilt
import Derived.Test.YtdpnpkleobjkfaaPipe
namespace Go.Proofs.Ytdpnpkleobjkfaa
open Go.RowKit Go.Shelf
attribute [local go_sem] Oper.semAt_some
set_option maxRecDepth 100000
set_option maxHeartbeats 4000000

theorem zero_mail (w : World) : (zeroValue 49).run Try.prog w = .ok (.agg zout) w := by kernel_rfl
theorem zero_rmail (w : World) : (zeroValue 56).run Try.prog w = .ok (.agg zout) w := by kernel_rfl

theorem lenNil (w : World) : Calls Try.prog 10 #[.pointer none] w fun e w' => e = .returned (.int .i64 0) ∧ w = w' := by
  go_enter Try.func10, Try.ntmps10
  go_wp2
  go_ret
  exact ⟨rfl, rfl⟩

theorem len_any (nb : Nat) (n : Int) (a : Option Addr) (m c : Nat) (w : World) (h : Blk w nb 67 #[.int .i64 n, .slice a m c]) : Calls Try.prog 10 #[.pointer (some ⟨nb, 0, none⟩)] w fun e w' => e = .returned (.int .i64 m) ∧ w = w' := by
  have c1 : w.cell? ⟨nb, 1, none⟩ = some (.slice a m c) := h.cell 1
  go_enter Try.func10, Try.ntmps10
  go_wp2
  go_ret
  exact ⟨rfl, rfl⟩

theorem sendNil (src : Int) (outs : Value) (w : World) : Calls Try.prog 8 #[.pointer none, .int .i64 src, outs] w fun e w' => e = .returned (.int .i64 0) ∧ Below w.heap.size w w' := by
  go_enter Try.func8, Try.ntmps8
  go_wp2
  go_ret
  exact ⟨rfl, (Below.refl _ _).alloc (Nat.le_refl _) _⟩

theorem mail_size : (Try.prog.info? 49).map (·.size) = some zout.size := by kernel_rfl

theorem atNil (i : Int) (w : World) : Calls Try.prog 17 #[.pointer none, .int .i64 i] w fun e w' => e = .returned (.tuple #[.agg zout, .bool false]) ∧ Below w.heap.size w w' := by
  have hz := zero_mail
  have hb := Blk.new w 49 zout
  have hor : i < 0 ∨ 0 ≤ i := by omega
  rcases hor with hi | hi
  · have d1 : decide (i < 0) = true := by simp [hi]
    go_enter Try.func17, Try.ntmps17
    go_wp2_with (first
      | (go_at_call 10; refine (lenNil _).mono ?_; rintro e w' ⟨rfl, rfl⟩)
      | (refine wpList_store_row rfl 49 (.tmp 4) (.tmp 14) rfl w.heap.size zout rfl rfl 49 zout hb mail_size rfl zout_one ?_))
    refine bodyPost_ret (results_blk_tmp rfl _ _ w.heap.size 49 zout _ rfl (hb.row zout) Try.underlying49 rfl mail_size) rfl ?_
    exact ⟨rfl, (((Upd.refl nob w).alloc _).setRow (.inr (Nat.le_refl _)) _).below⟩
  · have d1 : decide (i < 0) = false := by simp; omega
    have d2 : decide (0 ≤ i) = true := by simp [hi]
    go_enter Try.func17, Try.ntmps17
    go_wp2_with (first
      | (go_at_call 10; refine (lenNil _).mono ?_; rintro e w' ⟨rfl, rfl⟩)
      | (refine wpList_store_row rfl 49 (.tmp 4) (.tmp 14) rfl w.heap.size zout rfl rfl 49 zout hb mail_size rfl zout_one ?_))
    refine bodyPost_ret (results_blk_tmp rfl _ _ w.heap.size 49 zout _ rfl (hb.row zout) Try.underlying49 rfl mail_size) rfl ?_
    exact ⟨rfl, (((Upd.refl nob w).alloc _).setRow (.inr (Nat.le_refl _)) _).below⟩

theorem takeNil (i : Int) (w : World) : Calls Try.prog 14 #[.pointer none, .int .i64 i] w fun e w' => e = .returned (.tuple #[.agg zout, .bool false]) ∧ Below w.heap.size w w' := by
  have hz := zero_mail
  go_enter Try.func14, Try.ntmps14
  go_wp2_with fail
  refine (atNil i _).mono ?_
  rintro e w1 ⟨rfl, hb1⟩
  have b4 : Blk w1 w.heap.size 49 zout := (Blk.new w 49 zout).below hb1 (by simp)
  have hu1 : Upd nob w w1 := ((Upd.refl nob w).alloc _).trans (Upd.of_below hb1)
  have b6 : Blk (w1.alloc (.cells zout 49)) w1.heap.size 49 zout := Blk.new _ _ _
  have b6' := b6.row zout
  have hlt := b4.lt
  have b4' : Blk ((w1.alloc (.cells zout 49)).setRow w1.heap.size zout) w.heap.size 49 zout := (b4.alloc _).rowFar (by omega) _
  clear hb1
  go_wp2_with (first
    | (refine wpList_store_row rfl 49 (.tmp 6) (.tmp 12) rfl w1.heap.size zout rfl rfl 49 zout b6 mail_size rfl zout_one ?_)
    | (refine wpList_load_row rfl 49 (.tmp 6) rfl w1.heap.size rfl 49 zout (0, 0) _ b6' Try.underlying49 rfl mail_size ?_)
    | (refine wpList_store_row rfl 49 (.tmp 4) (.tmp 26) rfl w.heap.size zout rfl rfl 49 zout b4' mail_size rfl zout_one ?_))
  refine bodyPost_ret (results_blk_tmp rfl _ _ w.heap.size 49 zout _ rfl (b4'.row zout) Try.underlying49 rfl mail_size) rfl ?_
  exact ⟨rfl, (((hu1.alloc _).setRow (.inr (by omega)) _).setRow (.inr (Nat.le_refl _)) _).below⟩

theorem doubleNil (i : Int) (w : World) : Calls Try.prog 11 #[.pointer none, .int .i64 i] w fun e w' => e = .returned (.bool false) ∧ Below w.heap.size w w' := by
  have hz := zero_mail
  go_enter Try.func11, Try.ntmps11
  go_wp2_with fail
  refine (atNil i _).mono ?_
  rintro e w1 ⟨rfl, hb1⟩
  have b6 : Blk (w1.alloc (.cells zout 49)) w1.heap.size 49 zout := Blk.new _ _ _
  go_wp2_with (first
    | (refine wpList_store_row rfl 49 (.tmp 5) (.tmp 11) rfl w1.heap.size zout rfl rfl 49 zout b6 mail_size rfl zout_one ?_))
  go_ret
  exact ⟨rfl, (((Upd.of_below (S := nob) hb1).alloc _).setRow (.inr hb1.size) _).below⟩

theorem ofm1_nil (w : World) : Calls Try.prog 28 #[.slice none 0 0] w fun e w' =>
    e = .returned (.func (.func 51) #[] #[.pointer (some ⟨w.heap.size, 0, none⟩)]) ∧ w' = w.alloc (.cells #[.slice none 0 0] 60) := by
  have he := fun w => Lib.run_eql_slice_nil (P := Try.prog) w 60 49 none 0 0 0 0 Try.underlying60
  go_enter Try.func28, Try.ntmps28
  go_wp2
  go_ret
  exact ⟨rfl, rfl⟩

theorem allNil (w : World) : Calls Try.prog 19 #[.pointer none] w fun e w' =>
    e = .returned (.func (.func 51) #[] #[.pointer (some ⟨w.heap.size, 0, none⟩)]) ∧ w' = w.alloc (.cells #[.slice none 0 0] 60) := by
  go_enter Try.func19, Try.ntmps19
  go_wp2_with fail
  refine (ofm1_nil _).mono ?_
  rintro e w1 ⟨rfl, rfl⟩
  go_wp2
  go_ret
  exact ⟨rfl, rfl⟩
end Go.Proofs.Ytdpnpkleobjkfaa
