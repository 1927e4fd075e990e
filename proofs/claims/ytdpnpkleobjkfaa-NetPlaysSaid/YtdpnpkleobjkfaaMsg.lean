import Derived.Test.YtdpnpkleobjkfaaProg
import Derived.Test.YtdpnpkleobjkfaaIter
import Derived.Test.YtdpnpkleobjkfaaLaw
import Derived.Outline
import Derived.BigFrameIn
import Derived.WalkSpells
import Derived.Laws.Rows
import Derived.Lib.Hide
namespace Go.Proofs.Ytdpnpkleobjkfaa
open Go.RowKit Go.Shelf
attribute [local go_sem] Oper.semAt_some
set_option maxRecDepth 100000
set_option maxHeartbeats 400000

/-- The zero message's cells. -/
def zmsg : Array Value := #[.int .i64 0, .int .i64 0, .int .i64 0, .int .i64 0] ++ Array.replicate 32 (.int .u8 0) ++ #[.slice none 0 0, .slice none 0 0, .slice none 0 0, .slice none 0 0, .int .i64 0] ++ Array.replicate 32 (.int .u8 0)
theorem zmsg_size : zmsg.size = 73 := by kernel_rfl
theorem zero_msg (w : World) : (zeroValue 38).run Try.prog w = .ok (.agg zmsg) w := by kernel_rfl

/-- A message without lists. -/
structure Plain (cs : Array Value) : Prop where
  size : cs.size = 73
  one : cs.all (·.oneCell') = true
  h5 : ∀ h : 36 < cs.size, cs[36] = .slice none 0 0
  h6 : ∀ h : 37 < cs.size, cs[37] = .slice none 0 0
  h7 : ∀ h : 38 < cs.size, cs[38] = .slice none 0 0
  h8 : ∀ h : 39 < cs.size, cs[39] = .slice none 0 0

/-- 'gen.Of' of nothing. -/
theorem ofm_nil (w : World) : Calls Try.prog 46 #[.slice none 0 0] w fun e w' =>
    e = .returned (.func (.func 59) #[] #[.pointer (some ⟨w.heap.size, 0, none⟩)]) ∧ Below w.heap.size w w' ∧ w.heap.size < w'.heap.size := by
  have he := fun w => Lib.run_eql_slice_nil (P := Try.prog) w 33 38 none 0 0 0 0 Try.underlying33
  go_enter Try.func46, Try.ntmps46
  go_wp2
  go_ret
  exact ⟨rfl, (Below.refl _ _).alloc (Nat.le_refl _) _, by simp⟩

theorem mapm_any (g h : FuncId) (lb : Array Value) (w : World) : Calls Try.prog 45 #[.func (.func g) #[] lb, .func (.func h) #[] #[]] w fun e w' =>
    e = .returned (.func (.func 53) #[] #[.pointer (some ⟨w.heap.size + 1, 0, none⟩), .pointer (some ⟨w.heap.size, 0, none⟩)]) ∧ Below w.heap.size w w' := by
  go_enter Try.func45, Try.ntmps45
  go_wp2
  go_ret
  exact ⟨rfl, ((Below.refl _ _).alloc (Nat.le_refl _) _).alloc (by simp) _⟩

/-- 'gen.Take' of none yields nothing. -/
theorem takem_none (n : Int) (hn : n ≤ 0) (b c : Nat) (w₀ : World) (hb : w₀.cell? ⟨b, 0, none⟩ = some (.int .i64 n)) :
    IterSpec Try.prog 57 #[.pointer (some ⟨b, 0, none⟩), .pointer (some ⟨c, 0, none⟩)] (fun k => k = b) w₀ [] := by
  intro l J Jx hJ hJx hY I W hag hI h0
  have hc : W.cell? ⟨b, 0, none⟩ = some (.int .i64 n) := (hag.cell rfl).trans hb
  clear hb hY
  have hbl : b < W.heap.size := block_lt_of_cell hc
  go_enter Try.func57, Try.ntmps57
  go_wp2
  refine bodyPost_ret (results_none rfl _ _ _) rfl ?_
  refine ⟨⟨_, rfl⟩, grow I W ((W.alloc (.cells #[.func (.yield l) #[] #[]] 99)).alloc (.cells #[.int .i64 n] 3)), fun _ h => .inl h, fun _ h => h.imp id (·.1), .inl ?_⟩
  exact hJ 0 I W _ h0 (((Upd.refl _ _).alloc _).alloc _)

theorem take0m (g : FuncId) (lb : Array Value) (w : World) : Calls Try.prog 52 #[.func (.func g) #[] lb, .int .i64 0] w fun e w' =>
    e = .returned (.func (.func 57) #[] #[.pointer (some ⟨w.heap.size + 1, 0, none⟩), .pointer (some ⟨w.heap.size, 0, none⟩)]) ∧ Below w.heap.size w w' ∧ w.heap.size + 1 < w'.heap.size ∧
      w'.cell? ⟨w.heap.size + 1, 0, none⟩ = some (.int .i64 0) := by
  go_enter Try.func52, Try.ntmps52
  go_wp2
  go_ret
  exact ⟨rfl, ((Below.refl _ _).alloc (Nat.le_refl _) _).alloc (by simp) _, by simp, cell_new1' _ _ _ _⟩

theorem collect0m (g : FuncId) (lb : Array Value) (w : World) : Calls Try.prog 44 #[.func (.func g) #[] lb, .int .i64 0] w fun e w' =>
    e = .returned (.slice none 0 0) ∧ Below w.heap.size w w' := by
  refine callsIn_wide (n := 0).1 ?_
  refine callsIn_of_wp_marks Try.func44 rfl trivial ?_ rfl
  simp only [Try.ntmps44, List.size_toArray, List.length_cons, List.length_nil, Nat.reduceAdd, Nat.reduceSub, Array.replicate_succ, Array.replicate_zero, List.push_toArray, List.append_toArray, List.nil_append, List.cons_append]
  gi_wp2_with fail
  refine viaCalls (take0m _ _ _) ?_
  rintro e w1 ⟨rfl, hb1, hs1, hc1⟩
  have hU : Upd nob w w1 := ((Upd.refl nob w).alloc _).trans (Upd.of_below hb1)
  simp only [World.size_alloc] at hb1 hs1 hc1
  have hbx : w1.cell? ⟨w.heap.size, 0, none⟩ = some (.slice none 0 0) := (hb1.cell (p := ⟨w.heap.size, 0, none⟩) (by simp)).trans (cell_new1 w _ _)
  gi_wp2_with fail
  refine wpIn_range_nil (takem_none 0 (by omega) _ _ w1 hc1) rfl (enters_of Try.func57 (by kernel_rfl) rfl) (by rintro k rfl; omega) (Keeps.refl _ _) ?_
  intro d W hu hd hk
  have hbx2 : W.cell? ⟨w.heap.size, 0, none⟩ = some (.slice none 0 0) := (hu.cell (p := ⟨w.heap.size, 0, none⟩) (by simp; omega) (fun f => f)).trans hbx
  gi_wp2
  refine ⟨by simp, .inl ⟨_, _, rfl, run_takeDeferred hk, ?_⟩⟩
  exact ⟨_, results_tmp rfl _ _ _, rfl, ((hU.trans hu).putObj (.inr (by have := hU.size; omega)) _).below⟩

theorem ownmsgs_nil (w : World) : Calls Try.prog 30 #[.slice none 0 0] w fun e w' => e = .returned (.slice none 0 0) ∧ Below w.heap.size w w' := by
  go_enter Try.func30, Try.ntmps30
  go_wp2_with fail
  refine (ofm_nil _).mono ?_
  rintro e w1 ⟨rfl, hb1, hs1⟩
  go_wp2_with fail
  refine (mapm_any _ _ _ _).mono ?_
  rintro e w2 ⟨rfl, hb2⟩
  go_wp2_with fail
  refine (collect0m _ _ _).mono ?_
  rintro e w3 ⟨rfl, hb3⟩
  go_wp2
  go_ret
  exact ⟨rfl, hb1.trans ((hb2.mono (by omega)).trans (hb3.mono (by have := hb2.size; omega)))⟩

theorem zmsg_one : zmsg.all (·.oneCell') = true := by kernel_rfl
theorem info_msg : (Try.prog.info? 38).map (·.size) = some 73 := by kernel_rfl

theorem own_plain (cs : Array Value) (w : World) (h : Plain cs) :
    Calls Try.prog 20 #[.agg cs] w fun e w' => e = .returned (.agg cs) ∧ Below w.heap.size w w' := by
  have hz := zero_msg
  obtain ⟨hs, h1, h5, h6, h7, h8⟩ := h
  have e36 : cs[36]? = some (.slice none 0 0) := by rw [Array.getElem?_eq_getElem (by omega)]; rw [h5]
  have e37 : cs[37]? = some (.slice none 0 0) := by rw [Array.getElem?_eq_getElem (by omega)]; rw [h6]
  have e38 : cs[38]? = some (.slice none 0 0) := by rw [Array.getElem?_eq_getElem (by omega)]; rw [h7]
  have e39 : cs[39]? = some (.slice none 0 0) := by rw [Array.getElem?_eq_getElem (by omega)]; rw [h8]
  have E36 := Lib.hid e36; clear e36
  have E37 := Lib.hid e37; clear e37
  have E38 := Lib.hid e38; clear e38
  have E39 := Lib.hid e39; clear e39
  have H1 := Lib.hid h1; clear h1
  go_enter Try.func20, Try.ntmps20
  go_wp2_with fail
  refine wp_loop_once ?_
  go_wp2_with fail
  refine wp_loop_once ?_
  go_wp2_with fail
  refine (ownmsgs_nil _).mono ?_
  rintro e w1 ⟨rfl, hb1⟩
  have k0 : Blk w1 w.heap.size 38 cs := by
    have a0 : Blk ((w.alloc (.cells cs 38)).setCell ⟨w.heap.size, 36, none⟩ (.slice none 0 0)) w.heap.size 38 cs := (Blk.new w _ cs).same E36.out
    have a1 : Blk ((w.alloc (.cells (cs.setIfInBounds 36 (.slice none 0 0)) 38)).alloc (.cells zmsg 38)) w.heap.size 38 cs := by
      have e : cs.setIfInBounds 36 (.slice none 0 0) = cs := by
        have x := (Blk.new w 38 cs).set 36 (.slice none 0 0)
        unfold Blk at x a0
        rw [a0] at x
        injection x with x
        injection x with x
        exact x.symm
      rw [e]
      exact (Blk.new w _ cs).alloc _
    exact a1.below hb1 (by simp; omega)
  have k1 : Blk w1 (w.heap.size + 1) 38 zmsg := by
    have a1 : Blk ((w.alloc (.cells (cs.setIfInBounds 36 (.slice none 0 0)) 38)).alloc (.cells zmsg 38)) (w.heap.size + 1) 38 zmsg := by
      have := Blk.new (w.alloc (.cells (cs.setIfInBounds 36 (.slice none 0 0)) 38)) 38 zmsg
      rwa [World.size_alloc] at this
    exact a1.below hb1 (by simp)
  have hU : Upd nob w w1 := (((Upd.refl nob w).alloc _).alloc _).trans (Upd.of_below hb1)
  have c0 := fun i => k0.cell i
  have f0 := fun i => k0.frozen i
  have k2 := (((k0.same E37.out).same E39.out).same E38.out)
  have k3 : Blk _ (w.heap.size + 1) 38 zmsg := (((k1.far (p := ⟨w.heap.size, 37, none⟩) (by simp) (.slice none 0 0)).far (p := ⟨w.heap.size, 39, none⟩) (by simp) (.slice none 0 0)).far (p := ⟨w.heap.size, 38, none⟩) (by simp) (.slice none 0 0))
  have K2 := Lib.hid k2; clear k2
  have K3 := Lib.hid k3; clear k3 hb1 k0 k1
  clear hz
  go_wp2_with (first
    | (refine wpList_load_row rfl 38 (.tmp 1) rfl w.heap.size rfl 38 cs (0, 0) _ K2.out Try.underlying38 rfl (by rw [hs]; exact info_msg) ?_)
    | (refine wpList_store_row rfl 38 (.tmp 2) (.tmp 52) rfl (w.heap.size + 1) cs rfl rfl 38 zmsg K3.out (by rw [hs]; exact info_msg) (by rw [hs]; exact zmsg_size) H1.out ?_))
  refine bodyPost_ret (results_cell_row rfl _ _ (w.heap.size + 1) 38 cs (0, 0) _ rfl (K3.out.row cs) Try.underlying38 rfl (by rw [hs]; exact info_msg)) rfl ?_
  exact ⟨rfl, (((((hU.setCell (.inr (by simp)) _).setCell (.inr (by simp)) _).setCell (.inr (by simp)) _).setRow (.inr (by omega)) _)).below⟩
end Go.Proofs.Ytdpnpkleobjkfaa
