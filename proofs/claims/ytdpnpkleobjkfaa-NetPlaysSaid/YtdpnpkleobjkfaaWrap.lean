/- Wrap's laws: a party that lays new blocks in a round; mails as an iterator's elements; slices.Values of mails. -/
import Derived.Test.YtdpnpkleobjkfaaPathIn
import Derived.Test.YtdpnpkleobjkfaaRTake
import Derived.Test.YtdpnpkleobjkfaaColl
namespace Go.Proofs.Ytdpnpkleobjkfaa
open Go.RowKit Go.Shelf
attribute [local go_sem] Oper.semAt_some
set_option maxRecDepth 100000
set_option maxHeartbeats 4000000
set_option linter.unusedSimpArgs false

theorem set_congr {J : (Nat → Prop) → World → Prop} {A B : Nat → Prop} {W : World} (h : J A W) (e : ∀ k, A k ↔ B k) : J B W := by
  have : A = B := funext fun k => propext (e k)
  rwa [← this]

theorem Wrap.cell {J : (Nat → Prop) → World → Prop} {own prot : Nat → Prop} {C : World → Prop} {I : Nat → Prop} {W : World} (h : Wrap J own prot C I W) (hJ : Stab J)
    (hCl : ∀ W W', (∀ k, prot k → W'.heap[k]? = W.heap[k]?) → C W → C W') (hI : ∀ k, I k → k < W.heap.size) (t : TypeId) (z row : Array Value) :
    Wrap J (fun k => own k ∨ k = W.heap.size) (fun k => prot k ∨ k = W.heap.size) (fun X => C X ∧ Blk X W.heap.size t row) I ((W.alloc (.cells z t)).setRow W.heap.size row) := by
  have hsz : ((W.alloc (.cells z t)).setRow W.heap.size row).heap.size = W.heap.size + 1 := by simp
  refine ⟨?_, fun k hk => ?_, ?_, ?_⟩
  · have h1 := hJ.alloc h.1 (.cells z t)
    have h2 := hJ.same h1 ((Upd.refl (fun k => (I k ∨ own k) ∨ k = W.heap.size) (W.alloc (.cells z t))).setRow (g := W.heap.size) (.inl (.inr rfl)) row) (by simp)
    exact set_congr h2 fun k => or_assoc
  · rcases hk with (hk | rfl) | (hk | rfl)
    · have := h.2.1 k (.inl hk); exact ⟨this.1, by omega⟩
    · exact ⟨fun hi => absurd (hI _ hi) (Nat.lt_irrefl _), by omega⟩
    · have := h.2.1 k (.inr hk); exact ⟨this.1, by omega⟩
    · exact ⟨fun hi => absurd (hI _ hi) (Nat.lt_irrefl _), by omega⟩
  · refine hCl W _ (fun k hk => ?_) h.2.2
    exact (((Upd.refl nob W).alloc (.cells z t)).setRow (g := W.heap.size) (.inr (Nat.le_refl _)) row).block k (h.2.1 k (.inr hk)).2 (fun f => f)
  · exact (Blk.new W t z).row row

theorem Wrap.grow {J : (Nat → Prop) → World → Prop} {own prot : Nat → Prop} {C : World → Prop} {I : Nat → Prop} {W W' : World} (h : Wrap J own prot C I W) (hJ : Stab J)
    (hCl : ∀ W W', (∀ k, prot k → W'.heap[k]? = W.heap[k]?) → C W → C W') (hI : ∀ k, I k → k < W.heap.size) (hu : Upd nob W W') :
    Wrap J (fun k => own k ∨ (W.heap.size ≤ k ∧ k < W'.heap.size)) prot C I W' := by
  have hsz := hu.size
  refine ⟨?_, fun k hk => ?_, ?_⟩
  · exact set_congr (hJ _ W W' h.1 (hu.mono fun _ f => f.elim)) fun k => or_assoc
  · rcases hk with (hk | hk) | hk
    · have := h.2.1 k (.inl hk); exact ⟨this.1, by omega⟩
    · exact ⟨fun hi => by have := hI k hi; omega, hk.2⟩
    · have := h.2.1 k (.inr hk); exact ⟨this.1, by omega⟩
  · exact hCl W _ (fun k hk => hu.block k (h.2.1 k (.inr hk)).2 (fun f => f)) h.2.2

theorem Wrap.less {J : (Nat → Prop) → World → Prop} {own prot prot' : Nat → Prop} {C C' : World → Prop} {I : Nat → Prop} {W : World} (h : Wrap J own prot C I W) (hp : ∀ k, prot' k → prot k) (hc : C W → C' W) : Wrap J own prot' C' I W :=
  ⟨h.1, fun k hk => h.2.1 k (hk.imp id (hp k)), hc h.2.2⟩

/-- Wrap, with new blocks of one's own. -/
def WrapX (B : Nat) (J : (Nat → Prop) → World → Prop) (own prot : Nat → Prop) (C : World → Prop) : (Nat → Prop) → World → Prop := fun I W =>
  ∃ ex : Nat → Prop, (∀ k, ex k → B ≤ k) ∧ Wrap J (fun k => own k ∨ ex k) prot C I W
theorem stab_wrapX {B : Nat} {J : (Nat → Prop) → World → Prop} (hJ : Stab J) {own prot : Nat → Prop} {C : World → Prop} (hC : ∀ W W', (∀ k, prot k → W'.heap[k]? = W.heap[k]?) → C W → C W') : Stab (WrapX B J own prot C) := by
  rintro I W W' ⟨ex, hex, h⟩ hu
  exact ⟨ex, hex, stab_wrap hJ hC I W W' h hu⟩

/-- Mails as an iterator's elements. -/
def em (ms : List (Int × Array Value)) : List (Array Value) := ms.map fun p => #[Value.agg (#[Value.int .i64 p.1] ++ p.2)]
theorem em_get {ms : List (Int × Array Value)} {i : Nat} {x : Array Value} (h : (em ms)[i]? = some x) : ∃ p, ms[i]? = some p ∧ x = #[Value.agg (#[Value.int .i64 p.1] ++ p.2)] := by
  simp only [em, List.getElem?_map, Option.map_eq_some_iff] at h
  obtain ⟨p, hp, rfl⟩ := h
  exact ⟨p, hp, rfl⟩
theorem em_of {ms : List (Int × Array Value)} {i : Nat} {p : Int × Array Value} (h : ms[i]? = some p) : (em ms)[i]? = some #[Value.agg (#[Value.int .i64 p.1] ++ p.2)] := by simp [em, h]
theorem em_len (ms : List (Int × Array Value)) : (em ms).length = ms.length := by simp [em]
theorem em_size {ms : List (Int × Array Value)} : ∀ x, x ∈ em ms → x.size = 1 := by
  intro x hx
  simp only [em, List.mem_map] at hx
  obtain ⟨p, _, rfl⟩ := hx
  rfl

theorem ownsRow_keeps {K : Nat → Prop} {w w' : World} {base e size : Nat} {v : Value} {m : Nat} {xs : List Value} (h : w.ownsRow base e size v m xs) (hk : Keeps K w w') (hv : ∀ k, v.ownBlock = some k → K k) : w'.ownsRow base e size v m xs := by
  refine ⟨h.1, ?_⟩
  rcases h.2 with h2 | ⟨g, cap, cur, rfl, hg, hh, r⟩
  · exact .inl h2
  · exact .inr ⟨g, cap, cur, rfl, hg, (hk.same g (hv g rfl)).trans hh, r⟩

theorem valuesM (ms : List (Int × Array Value)) (hp : PlainL ms) (hm : ms.length ≤ 4000) (b : Nat) (cv : Value) (w₀ : World) (hb : Blk w₀ b 60 #[cv]) (hr : w₀.ownsRow 0 49 74 cv ms.length (mcells ms)) :
    IterSpec Try.prog 51 #[.pointer (some ⟨b, 0, none⟩)] (fun k => k = b ∨ cv.ownBlock = some k) w₀ (em ms) := by
  intro l J Jx hJ hJx hY I W hag hI h0
  obtain ⟨ca, cc, rfl⟩ := own_form hr
  have hc : W.cell? ⟨b, 0, none⟩ = some (.slice ca ms.length cc) := (hb.keeps hag (.inl rfl)).cell 0
  have hlb := hb.lt
  have hlr := hr.lt
  have hz := zero_mail
  clear hb
  refine callsIn_wide (n := 0).1 ?_
  refine callsIn_of_wp Try.func51 rfl trivial ?_ rfl
  simp only [Try.ntmps51, List.size_toArray, List.length_cons, List.length_nil, Nat.reduceAdd, Nat.reduceSub, Array.replicate_succ, Array.replicate_zero, List.push_toArray, List.append_toArray, List.nil_append, List.cons_append]
  gi_wp2
  gi_loopw [7] (fun p wr => ∃ (k : Nat) (I' : Nat → Prop), k ≤ ms.length ∧ p = .int .i64 k ∧ J k I' wr ∧ Keeps (fun k => k = b ∨ (Value.slice ca ms.length cc).ownBlock = some k) w₀ wr ∧ W.heap.size ≤ wr.heap.size ∧
      (∀ j, I j → I' j) ∧ (∀ j, I' j → (I j ∨ W.heap.size ≤ j) ∧ j < wr.heap.size)) (fun p _ => ms.length - (intOf p).toNat)
  case atStart => exact ⟨0, I, Nat.zero_le _, rfl, h0, hag, Nat.le_refl _, fun _ h => h, fun j h => ⟨.inl h, hI j h⟩⟩
  case round =>
    obtain ⟨k, I', hk, rfl, hj, hkp, hsz, hi1, hi2⟩ := hrel
    by_cases hlt : k < ms.length
    · have hown := ownsRow_keeps hr hkp (fun j h => .inr h)
      obtain ⟨g, cap, hsv, hcap, hrow⟩ := own_at hown hp k hlt
      injection hsv with e1 e2 e3
      subst e1
      subst e3
      have hpk : Plain ms[k].2 := hp _ (List.getElem_mem hlt)
      obtain ⟨row, hrw⟩ : ∃ row, #[Value.int .i64 ms[k].1] ++ ms[k].2 = row := ⟨_, rfl⟩
      have hr1 := (mail_row hpk ms[k].1).1
      have hr2 := (mail_row hpk ms[k].1).2
      have hx := em_of (ms := ms) (i := k) (p := ms[k]) (List.getElem?_eq_getElem hlt)
      rw [hrw] at hrow hr1 hr2 hx
      have hri : (Try.prog.info? 49).map (·.size) = some row.size := by rw [hr1]; exact info_mails pmail_info
      have hri2 : zout.size = row.size := by rw [hr1]; exact zout_size
      have hblk := Blk.new wr 49 zout
      have b4 := hblk.row row
      have hj1 := (hJ k).alloc hj (.cells zout 49)
      have hj2 := (hJ k).same hj1 ((Upd.refl (fun j => I' j ∨ j = wr.heap.size) (wr.alloc (.cells zout 49))).setRow (g := wr.heap.size) (.inl (.inr rfl)) row) (by simp)
      obtain ⟨fn, tmps, assign, body, hy, hR⟩ := hY k _ _ _ hx hj2
      have hsz2 : ((wr.alloc (.cells zout 49)).setRow wr.heap.size row).heap.size = wr.heap.size + 1 := by simp
      have hkp2 : Keeps (fun k => k = b ∨ (Value.slice (some ⟨g, 0, none⟩) ms.length cc).ownBlock = some k) w₀ ((wr.alloc (.cells zout 49)).setRow wr.heap.size row) := by
        refine hkp.trans ((((Upd.refl nob wr).alloc (.cells zout 49)).setRow (g := wr.heap.size) (.inr (Nat.le_refl _)) row).keeps fun j hjj => ⟨fun f => f, ?_⟩)
        have := hkp.size
        rcases hjj with rfl | h
        · omega
        · have := (hlr j h).2; omega
      clear hj1 hj2
      gi_wp2_with (first
        | (refine wpListIn_load_mid .out rfl 49 (.tmp 9) rfl g (k * 74) rfl row _ hrow Try.underlying49 rfl hri ?_)
        | (refine wpListIn_store_blk .out rfl 49 (.tmp 4) (.tmp 10) rfl rfl wr.heap.size row rfl rfl 49 zout hblk hri hri2 hr2 ?_)
        | (refine wpListIn_load_blk .out rfl 49 (.tmp 4) rfl wr.heap.size rfl 49 row _ b4 Try.underlying49 rfl hri ?_))
      refine ⟨rfl, hR.mono ?_⟩
      rintro e W3 ⟨hk3, (⟨rfl, hj3⟩ | ⟨rfl, hx3⟩)⟩
      · gi_wp2
        go_roundw
        case rel =>
          have hs3 := hk3.size
          refine ⟨k + 1, fun j => I' j ∨ j = wr.heap.size, hlt, by go_num, hj3, hkp2.trans (hk3.mono fun j h => .inr h), by omega, fun j h => .inl (hi1 j h), ?_⟩
          rintro j (h | rfl)
          · have := hi2 j h; exact ⟨this.1, by omega⟩
          · exact ⟨.inr hsz, by omega⟩
        case measure => simp [intOf]; omega
      · gi_wp2
        refine bodyPost_ret (results_none rfl _ _ _) rfl ?_
        refine ⟨⟨_, rfl⟩, fun j => I' j ∨ j = wr.heap.size, fun j h => .inl (hi1 j h), ?_, .inr hx3⟩
        rintro j (h | rfl)
        · exact (hi2 j h).1
        · exact .inr hsz
    · gi_wp2
      go_end0
      have : k = ms.length := by omega
      subst this
      exact ⟨⟨_, rfl⟩, I', hi1, fun j h => (hi2 j h).1, .inl (by rw [em_len]; exact hj)⟩
end Go.Proofs.Ytdpnpkleobjkfaa
