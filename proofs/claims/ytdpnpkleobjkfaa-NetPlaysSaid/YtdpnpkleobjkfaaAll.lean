/- All and Collect of a network's mails. -/
import Derived.Test.YtdpnpkleobjkfaaTakeIt
import Derived.Lib.LazyBuf
namespace Go.Proofs.Ytdpnpkleobjkfaa
open Go.RowKit Go.Shelf Go.Lib
attribute [local go_sem] Oper.semAt_some
set_option maxRecDepth 100000
set_option maxHeartbeats 4000000
set_option linter.unusedSimpArgs false

theorem cloneM (sv : Value) (ms : List (Int × Array Value)) (w : World) (hr : w.ownsRow 0 49 74 sv ms.length (mcells ms)) (hp : PlainL ms) (hm : ms.length ≤ 4000) :
    Calls Try.prog 42 #[sv] w fun e w' => ∃ cv, e = .returned cv ∧ w'.ownsRow 0 49 74 cv ms.length (mcells ms) ∧ Upd nob w w' ∧ (∀ k, cv.ownBlock = some k → w.heap.size ≤ k) := by
  have he := fun a l c w => run_eql_slice_nil (P := Try.prog) w 60 49 a l c Try.underlying60
  rcases hr.2 with ⟨rfl, h0⟩ | ⟨g, cap, cur, rfl, _, hg, hcap, hcm, hcs, htk⟩
  · go_enter Try.func42, Try.ntmps42
    go_wp2_with fail
    go_ret
    exact ⟨.slice none 0 0, rfl, hr, Upd.refl _ _, fun k h => by simp [Value.ownBlock] at h⟩
  · go_enter Try.func42, Try.ntmps42
    obtain ⟨ie, hie, hiz, his, hib⟩ := info_parts pmail_info
    have hmade := World.ownsRow_made (size := 74) (e := 49) w #[] 0 (Nat.zero_le w.heap.size) (Nat.zero_le _) rfl
    have hgl : g < w.heap.size := (Array.getElem?_eq_some_iff.1 hg).1
    have hcells := (hr.alloc (.cells #[] 49)).cells (g := g) rfl
    have hl := mcells_len ms hp
    have h1 := part_one hp
    go_wp2_with (first
      | (refine wpList_append_own_at _ rfl (.tmp 5) (.tmp 6) 60 rfl 0 49 ie (.agg zout) 74 208 Try.underlying60 hie hiz his hib zout_size (by decide) (.slice (some ⟨w.heap.size, 0, none⟩) 0 0) 0 [] rfl hmade ⟨g, 0, none⟩ ms.length cap (mcells ms) rfl hl hcells h1 (by unfold maxLen; omega) (by omega) (Nat.zero_le _) ?_; intro cv w9 hown9 hg9 _ hat))
    go_ret
    have hu9 : Upd nob w w9 := ((Upd.refl nob w).alloc _).grown hg9 (fun k hk => .inr (by simp [Value.ownBlock] at hk; omega))
    refine ⟨cv, rfl, by simpa using hown9, hu9, fun k hk => ?_⟩
    rcases hat with h | h
    · rw [h] at hk; simp [Value.ownBlock] at hk; omega
    · rw [h] at hk; injection hk with hk; simp at hk; omega

theorem valuesBox (ca : Option Addr) (cl cc : Nat) (w : World) : Calls Try.prog 41 #[.slice ca cl cc] w fun e w' => e = .returned (.func (.func 51) #[] #[.pointer (some ⟨w.heap.size, 0, none⟩)]) ∧
    w' = w.alloc (.cells #[.slice ca cl cc] 60) := by
  go_enter Try.func41, Try.ntmps41
  go_wp2_with fail
  go_ret
  exact ⟨rfl, rfl⟩

theorem ofM (sv : Value) (ms : List (Int × Array Value)) (w : World) (hr : w.ownsRow 0 49 74 sv ms.length (mcells ms)) (hp : PlainL ms) (hm : ms.length ≤ 4000) :
    Calls Try.prog 28 #[sv] w fun e w' => ∃ lb D, e = .returned (.func (.func 51) #[] lb) ∧ Upd nob w w' ∧ (∀ k, D k → w.heap.size ≤ k ∧ k < w'.heap.size) ∧
      IterSpec Try.prog 51 lb D w' (em ms) := by
  go_enter Try.func28, Try.ntmps28
  go_wp2_with fail
  refine (cloneM sv ms _ hr hp hm).mono ?_
  rintro e w1 ⟨cv, rfl, hr1, hu1, hf1⟩
  obtain ⟨ca, cc, rfl⟩ := own_form hr1
  go_wp2_with fail
  refine (valuesBox ca _ cc _).mono ?_
  rintro e w2 ⟨rfl, hw2⟩
  have hu2 : Upd nob w1 w2 := by rw [hw2]; exact (Upd.refl nob w1).alloc _
  have hb : Blk w2 w1.heap.size 60 #[.slice ca ms.length cc] := by rw [hw2]; exact Blk.new _ _ _
  have hr2 : w2.ownsRow 0 49 74 (.slice ca ms.length cc) ms.length (mcells ms) := by rw [hw2]; exact hr1.alloc _
  have hs : w2.heap.size = w1.heap.size + 1 := by rw [hw2]; simp
  clear hw2
  go_wp2_with fail
  go_ret
  refine ⟨_, _, rfl, hu1.trans hu2, ?_, valuesM ms hp hm w1.heap.size _ w2 hb hr2⟩
  have := hu1.size
  rintro k (rfl | h)
  · omega
  · have h1 := (hr2.lt k h).2
    exact ⟨hf1 k h, h1⟩

theorem mapBox (g f : FuncId) (lb : Array Value) (w : World) : Calls Try.prog 29 #[.func (.func g) #[] lb, .func (.func f) #[] #[]] w fun e w' =>
    e = .returned (.func (.func 43) #[] #[.pointer (some ⟨w.heap.size + 1, 0, none⟩), .pointer (some ⟨w.heap.size, 0, none⟩)]) ∧
    w' = (w.alloc (.cells #[.func (.func g) #[] lb] 63)).alloc (.cells #[.func (.func f) #[] #[]] 80) := by
  go_enter Try.func29, Try.ntmps29
  go_wp2_with fail
  go_ret
  exact ⟨rfl, rfl⟩

theorem allM (nb n : Nat) (sv : Value) (ms : List (Int × Array Value)) (w : World) (hN : NetS w nb n sv ms.length (mcells ms)) (hp : PlainL ms) (hm : ms.length ≤ 4000) :
    Calls Try.prog 19 #[.pointer (some ⟨nb, 0, none⟩)] w fun e w' => ∃ lb D, e = .returned (.func (.func 43) #[] lb) ∧ Upd nob w w' ∧ (∀ k, D k → w.heap.size ≤ k ∧ k < w'.heap.size) ∧
      IterSpec Try.prog 43 lb D w' (em ms) := by
  have c1 : w.cell? ⟨nb, 1, none⟩ = some sv := hN.blk.cell 1
  have hl := hN.blk.lt
  go_enter Try.func19, Try.ntmps19
  go_wp2_with fail
  refine (ofM sv ms _ hN.row hp hm).mono ?_
  rintro e w1 ⟨lb, D, rfl, hu1, hD1, hit⟩
  go_wp2_with fail
  refine (mapBox _ _ lb _).mono ?_
  rintro e w2 ⟨rfl, hw2⟩
  have hu2 : Upd nob w1 w2 := by rw [hw2]; exact ((Upd.refl nob w1).alloc _).alloc _
  have hs : Blk w2 w1.heap.size 63 #[.func (.func 51) #[] lb] := by rw [hw2]; exact (Blk.new _ _ _).alloc _
  have hf : Blk w2 (w1.heap.size + 1) 80 #[.func (.func 26) #[] #[]] := by
    rw [hw2]
    have := Blk.new (w1.alloc (.cells #[.func (.func 51) #[] lb] 63)) 80 #[.func (.func 26) #[] #[]]
    rwa [World.size_alloc] at this
  have hsz : w2.heap.size = w1.heap.size + 2 := by rw [hw2]; simp
  clear hw2
  go_wp2_with fail
  go_ret
  refine ⟨_, _, rfl, hu1.trans hu2, ?_, mapM1 (hit.later (hu2.keeps fun k hk => ⟨fun f => f, (hD1 k hk).2⟩)) hp (enters_of Try.func51 (by kernel_rfl) rfl) (fun k hk => by have := (hD1 k hk).2; omega) _ _ hf hs⟩
  have := hu1.size
  rintro k (rfl | rfl | h)
  · omega
  · omega
  · have := hD1 k h; omega
end Go.Proofs.Ytdpnpkleobjkfaa
