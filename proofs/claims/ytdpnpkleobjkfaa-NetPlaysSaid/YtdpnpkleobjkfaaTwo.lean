/- The network and the reference's, side by side: one list of mails in both. -/
import Derived.Test.YtdpnpkleobjkfaaDouble
namespace Go.Proofs.Ytdpnpkleobjkfaa
open Go.RowKit Go.Shelf
set_option maxRecDepth 100000
set_option maxHeartbeats 4000000
set_option linter.unusedSimpArgs false

/-- Both networks hold these mails. -/
structure Two (W : World) (B nb rb n : Nat) (sv rv : Value) (ms : List (Int × Array Value)) : Prop where
  N : NetS W nb n sv ms.length (mcells ms)
  R : RefS W rb n rv ms.length (mcells ms)
  pl : PlainL ms
  le : ms.length ≤ 4000
  fn : ∀ k, netB nb sv k → B ≤ k
  fr : ∀ k, netB rb rv k → B ≤ k

/-- What a method leaves behind of whose blocks a network is. -/
def Grew (w : World) (sv sv' : Value) : Prop := sv'.ownBlock = sv.ownBlock ∨ ∃ k, sv'.ownBlock = some k ∧ w.heap.size ≤ k

theorem two_rows {W : World} {e e' : TypeId} {v v' : Value} {k k' : Nat} {xs xs' : List Value} (h : W.ownsRow 0 e 74 v k xs) (h' : W.ownsRow 0 e' 74 v' k' xs') (he : e ≠ e') (g : Nat) (hg : v.ownBlock = some g) : v'.ownBlock ≠ some g := by
  rcases h.2 with ⟨rfl, _⟩ | ⟨g1, cap, cur, rfl, _, hh, _⟩
  · simp [Value.ownBlock] at hg
  · have : g1 = g := by simpa [Value.ownBlock] using hg
    subst this
    rcases h'.2 with ⟨rfl, _⟩ | ⟨g2, cap2, cur2, rfl, _, hh2, _⟩
    · simp [Value.ownBlock]
    · intro e2
      have : g2 = g1 := by simpa [Value.ownBlock] using e2
      subst this
      rw [hh] at hh2
      injection hh2 with e3
      injection e3 with _ e4
      exact he e4

theorem two_sep {W : World} {nb rb n m m' : Nat} {sv rv : Value} {xs xs' : List Value} (h : NetS W nb n sv m xs) (h' : RefS W rb n rv m' xs') : ∀ k, netB nb sv k → ¬ netB rb rv k := by
  rintro k (rfl | hk) (rfl | hk')
  · have h1 := h.blk
    have h2 := h'.blk
    unfold Blk at h1 h2
    rw [h1] at h2
    injection h2 with e3
    injection e3 with _ e4
    exact absurd e4 (by decide)
  · exact own_ne h'.row h.blk (by decide) hk'
  · exact own_ne h.row h'.blk (by decide) hk
  · exact two_rows h.row h'.row (by decide) k hk hk'

theorem Two.base {W : World} {B nb rb n : Nat} {sv rv : Value} {ms : List (Int × Array Value)} (h : Two W B nb rb n sv rv ms) : B ≤ W.heap.size := Nat.le_trans (h.fn nb (.inl rfl)) (Nat.le_of_lt h.N.blk.lt)

theorem Two.upd {W W' : World} {B nb rb n : Nat} {sv rv : Value} {ms : List (Int × Array Value)} (h : Two W B nb rb n sv rv ms) (hu : Upd nob W W') : Two W' B nb rb n sv rv ms :=
  ⟨h.N.upd hu (fun _ _ f => f), h.R.upd hu (fun _ _ f => f), h.pl, h.le, h.fn, h.fr⟩

theorem grew_fresh {W : World} {B nb : Nat} {sv sv' : Value} (hf : ∀ k, netB nb sv k → B ≤ k) (hB : B ≤ W.heap.size) (hg : Grew W sv sv') : ∀ k, netB nb sv' k → B ≤ k := by
  rintro k (rfl | hk)
  · exact hf _ (.inl rfl)
  · rcases hg with h | ⟨j, h, hj⟩
    · exact hf k (.inr (h.symm.trans hk))
    · rw [h] at hk; injection hk with hk; omega

/-- One step of both: the network first. -/
theorem Two.step {W W1 W2 : World} {B nb rb n : Nat} {sv rv sv' rv' : Value} {ms ms' : List (Int × Array Value)} (h : Two W B nb rb n sv rv ms)
    (h1 : NetS W1 nb n sv' ms'.length (mcells ms')) (g1 : Grew W sv sv') (u1 : Upd (netB nb sv) W W1)
    (h2 : RefS W2 rb n rv' ms'.length (mcells ms')) (g2 : Grew W1 rv rv') (u2 : Upd (netB rb rv) W1 W2) (hp : PlainL ms') (hl : ms'.length ≤ 4000) :
    Two W2 B nb rb n sv' rv' ms' := by
  have hR1 : RefS W1 rb n rv ms.length (mcells ms) := h.R.upd u1 (fun k hk hs => two_sep h.N h.R k hs hk)
  have hB := h.base
  have := u1.size
  exact ⟨h1.upd u2 (fun k hk hs => two_sep h1 hR1 k hk hs), h2, hp, hl, grew_fresh h.fn hB g1, grew_fresh h.fr (by omega) g2⟩
theorem Two.mid {W W1 : World} {B nb rb n : Nat} {sv rv : Value} {ms : List (Int × Array Value)} (h : Two W B nb rb n sv rv ms) (u1 : Upd (netB nb sv) W W1) : RefS W1 rb n rv ms.length (mcells ms) :=
  h.R.upd u1 (fun k hk hs => two_sep h.N h.R k hs hk)
theorem Two.below {w W W1 W2 : World} {nb rb n : Nat} {sv rv : Value} {ms : List (Int × Array Value)} (h : Two W w.heap.size nb rb n sv rv ms) (hu : Upd nob w W) (u1 : Upd (netB nb sv) W W1) (u2 : Upd (netB rb rv) W1 W2) : Upd nob w W2 := by
  refine (hu.trans' u1 ?_).trans' u2 ?_
  · intro k hk hb; have := h.fn k hb; omega
  · intro k hk hb; have := h.fr k hb; omega

/-- A block of another kind stays. -/
theorem Two.apart {W : World} {B nb rb n : Nat} {sv rv : Value} {ms : List (Int × Array Value)} (h : Two W B nb rb n sv rv ms) {g : Nat} {cs : Array Value} (hb : Blk W g 40 cs) : ¬ netB nb sv g ∧ ¬ netB rb rv g := by
  constructor
  · rintro (rfl | hk)
    · have h1 := h.N.blk
      unfold Blk at h1 hb
      rw [h1] at hb
      injection hb with e3
      injection e3 with _ e4
      exact absurd e4 (by decide)
    · exact own_ne h.N.row hb (by decide) hk
  · rintro (rfl | hk)
    · have h1 := h.R.blk
      unfold Blk at h1 hb
      rw [h1] at hb
      injection hb with e3
      injection e3 with _ e4
      exact absurd e4 (by decide)
    · exact own_ne h.R.row hb (by decide) hk

/-! ### Send, in mails -/

def sendM (n : Nat) (src to : Int) (cs : Array Value) (ms : List (Int × Array Value)) : List (Int × Array Value) := ms ++ (sent src to n ms.length).map fun i => (i, cs)
theorem mails_map (cs : Array Value) (l : List Int) : mails cs l = mcells (l.map fun i => (i, cs)) := by simp [mails, mcells, List.flatMap_map]
theorem sendM_len (n : Nat) (src to : Int) (cs : Array Value) (ms : List (Int × Array Value)) : (sendM n src to cs ms).length = ms.length + (sent src to n ms.length).length := by simp [sendM]
theorem sendM_le (n : Nat) (src to : Int) (cs : Array Value) (ms : List (Int × Array Value)) (h : ms.length ≤ 4000) : (sendM n src to cs ms).length ≤ 4000 := by
  rw [sendM_len]; have := sent_len src to n ms.length; omega
theorem sendM_plain {n : Nat} {src to : Int} {cs : Array Value} {ms : List (Int × Array Value)} (h : PlainL ms) (hp : Plain cs) : PlainL (sendM n src to cs ms) := by
  intro p hq
  rcases List.mem_append.1 hq with h1 | h1
  · exact h p h1
  · obtain ⟨i, _, rfl⟩ := List.mem_map.1 h1; exact hp

theorem send1m (nb n : Nat) (src to : Int) (sv : Value) (ms : List (Int × Array Value)) (cs : Array Value) (ob cap : Nat) (w : World) (hn : n ≤ 64) (hm : ms.length ≤ 4000) (hN : NetS w nb n sv ms.length (mcells ms)) (hp : Plain cs)
    (ho : Blk w ob 40 (#[.int .i64 to] ++ cs)) (htn : -1 ≤ to) (htm : to < n) :
    Calls Try.prog 8 #[.pointer (some ⟨nb, 0, none⟩), .int .i64 src, .slice (some ⟨ob, 0, none⟩) 1 cap] w fun e w' => ∃ sv',
      e = .returned (.int .i64 (sent src to n ms.length).length) ∧ NetS w' nb n sv' (sendM n src to cs ms).length (mcells (sendM n src to cs ms)) ∧ Grew w sv sv' ∧ Upd (netB nb sv) w w' := by
  refine (send1 nb n src to sv ms.length (mcells ms) cs ob cap w hn hm hN hp ho htn htm).mono ?_
  rintro e w' ⟨sv', rfl, h1, h2, h3⟩
  refine ⟨sv', rfl, ?_, h2, h3⟩
  have e1 : mcells (sendM n src to cs ms) = mcells ms ++ mails cs (sent src to n ms.length) := by rw [mails_map, ← mcells_app]; rfl
  rw [sendM_len, e1]
  exact h1

theorem rsend1m (nb n : Nat) (src to : Int) (sv : Value) (ms : List (Int × Array Value)) (cs : Array Value) (ob cap : Nat) (w : World) (hn : n ≤ 64) (hm : ms.length ≤ 4000) (hN : RefS w nb n sv ms.length (mcells ms)) (hp : Plain cs)
    (ho : Blk w ob 40 (#[.int .i64 to] ++ cs)) (hob : ¬ netB nb sv ob) :
    Calls Try.prog 9 #[.pointer (some ⟨nb, 0, none⟩), .int .i64 src, .slice (some ⟨ob, 0, none⟩) 1 cap] w fun e w' => ∃ sv',
      e = .returned (.int .i64 (sent src to n ms.length).length) ∧ RefS w' nb n sv' (sendM n src to cs ms).length (mcells (sendM n src to cs ms)) ∧ Grew w sv sv' ∧ Upd (netB nb sv) w w' := by
  have hos : OutsAt w ob [(to, cs)] := by
    refine ⟨?_, ?_, ho.lt⟩
    · intro j hj
      obtain rfl : j = 0 := by simpa using hj
      intro i x hx
      exact ho.range1 i x (by simpa using hx)
    · intro o h
      rw [List.mem_singleton.1 h]; exact hp
  refine (rsend nb n src sv ms.length (mcells ms) [(to, cs)] ob cap w hn hm (by simp) hN hos hob).mono ?_
  rintro e w' ⟨sv', rfl, h1, h2, h3⟩
  have e0 : outAll n src [(to, cs)] (ms.length, mcells ms) = (ms.length + (sent src to n ms.length).length, mcells ms ++ mails cs (sent src to n ms.length)) := rfl
  have e1 : mcells (sendM n src to cs ms) = mcells ms ++ mails cs (sent src to n ms.length) := by rw [mails_map, ← mcells_app]; rfl
  rw [e0] at h1 ⊢
  refine ⟨sv', by simp, ?_, h2, h3⟩
  rw [sendM_len, e1]
  exact h1
end Go.Proofs.Ytdpnpkleobjkfaa
