/- Sums by xor over a network's mails (NetOnce's law, without the program). -/
import Derived.Test.YtdpnpkleobjkfaaTake
import Derived.Test.YtdpnpkleobjkfaaTwo
namespace Go.Proofs.Ytdpnpkleobjkfaa
open Go.RowKit Go.Shelf
set_option maxRecDepth 100000
set_option maxHeartbeats 4000000
set_option linter.unusedSimpArgs false

def bv (x : Int) : BitVec 64 := BitVec.ofInt 64 x
def ofBv (b : BitVec 64) : Int := IntKind.i64.wrap b.toNat
theorem bv_of (b : BitVec 64) : bv (ofBv b) = b := by
  unfold bv ofBv
  apply BitVec.eq_of_toNat_eq
  rw [BitVec.toNat_ofInt, IntKind.wrap_i64]
  have := b.isLt
  omega
theorem bits_xor (x y : Int) : bits .xor .i64 x y = ofBv (bv x ^^^ bv y) := rfl
theorem xor_of (b : BitVec 64) (z : Int) : bits .xor .i64 (ofBv b) z = ofBv (b ^^^ bv z) := by rw [bits_xor, bv_of]
theorem ofBv_zero : ofBv 0 = 0 := by decide

def seqOf (cs : Array Value) : Int := match cs[3]? with | some (Value.int _ z) => z | _ => 0
theorem seqOf_msg (z : Int) : seqOf (msg 8 0 0 z) = z := by unfold seqOf; rw [msg_3]
def xorB (ms : List (Int × Array Value)) : BitVec 64 := ms.foldr (fun p b => bv (seqOf p.2) ^^^ b) 0

theorem xorB_app (a b : List (Int × Array Value)) : xorB (a ++ b) = xorB a ^^^ xorB b := by
  induction a with
  | nil => simp [xorB]
  | cons p l ih =>
    simp only [xorB, List.cons_append, List.foldr_cons] at ih ⊢
    rw [ih, BitVec.xor_assoc]
theorem xorB_erase : ∀ (ms : List (Int × Array Value)) (i : Nat) (h : i < ms.length), xorB ms = bv (seqOf ms[i].2) ^^^ xorB (ms.eraseIdx i)
  | [], i, h => absurd h (by simp)
  | p :: ms, 0, _ => rfl
  | p :: ms, i + 1, h => by
    have ih := xorB_erase ms i (by simpa using h)
    simp only [xorB, List.foldr_cons, List.eraseIdx_cons_succ, List.getElem_cons_succ] at ih ⊢
    rw [ih, ← BitVec.xor_assoc, ← BitVec.xor_assoc, BitVec.xor_comm (bv (seqOf p.2))]
theorem xorB_const (cs : Array Value) : ∀ l : List Int, xorB (l.map fun i => (i, cs)) = if l.length % 2 = 1 then bv (seqOf cs) else 0
  | [] => rfl
  | a :: l => by
    have ih := xorB_const cs l
    simp only [xorB, List.map_cons, List.foldr_cons, List.length_cons] at ih ⊢
    rw [ih]
    by_cases h : l.length % 2 = 1
    · rw [if_pos h, if_neg (by omega), BitVec.xor_self]; rfl
    · rw [if_neg h, if_pos (by omega)]; simp

/-- What each of the numbers sends. -/
def sm (n : Nat) (zs : List Int) : Nat → List (Int × Array Value)
  | 0 => []
  | k + 1 => sendM n ((k % n : Nat) : Int) (-1) (msg 8 0 0 (zs.getD k 0)) (sm n zs k)

theorem filter_all (n k : Nat) (hk : k < n) : ∀ j : Nat, ((upto j).filter (forB (k : Int) (-1))).length = if k < j then j - 1 else j
  | 0 => by simp [upto]
  | j + 1 => by
    rw [upto_succ, List.filter_append, List.length_append, filter_all n k hk j]
    by_cases h : j = k
    · subst h
      have : forB (j : Int) (-1) (j : Int) = false := by simp [forB]
      rw [List.filter_cons_of_neg (by simp [this]), if_neg (by omega), if_pos (by omega)]; simp
    · have : forB (k : Int) (-1) (j : Int) = true := by simp [forB]; omega
      rw [List.filter_cons_of_pos this, List.filter_nil]
      by_cases h2 : k < j
      · rw [if_pos h2, if_pos (by omega)]; simp; omega
      · rw [if_neg h2, if_neg (by omega)]; simp
theorem sent_all (n k m : Nat) (hk : k < n) (hm : m + n ≤ 4000) : (sent (k : Int) (-1) n m).length = n - 1 := by
  unfold sent
  rw [List.length_take, filter_all n k hk n, if_pos hk]; omega

theorem sm_len (n : Nat) (zs : List Int) (hn : 0 < n) (hn2 : n ≤ 10) : ∀ k, k ≤ 30 → (sm n zs k).length = k * (n - 1)
  | 0, _ => by simp [sm]
  | k + 1, h => by
    have ih := sm_len n zs hn hn2 k (by omega)
    have hle : k * (n - 1) ≤ 30 * 9 := Nat.mul_le_mul (by omega) (by omega)
    rw [sm, sendM_len, sent_all n (k % n) _ (Nat.mod_lt _ hn) (by omega), ih, Nat.add_mul]; omega

/-- Each mail is for one of them, and of this kind. -/
def Good (n : Nat) (p : Int × Array Value) : Prop := 0 ≤ p.1 ∧ p.1 < n ∧ ∃ z, p.2 = msg 8 0 0 z
theorem upto_mem {k : Nat} {i : Int} (h : i ∈ upto k) : 0 ≤ i ∧ i < k := by
  simp only [upto, List.mem_map, List.mem_range] at h
  obtain ⟨j, hj, rfl⟩ := h
  omega
theorem sm_good (n : Nat) (zs : List Int) : ∀ k, ∀ p ∈ sm n zs k, Good n p
  | 0, p, h => by cases h
  | k + 1, p, h => by
    rcases List.mem_append.1 h with h | h
    · exact sm_good n zs k p h
    · obtain ⟨i, hi, rfl⟩ := List.mem_map.1 h
      have := upto_mem (List.mem_filter.1 (List.mem_of_mem_take hi)).1
      exact ⟨this.1, this.2, _, rfl⟩
theorem good_plain {n : Nat} {ms : List (Int × Array Value)} (h : ∀ p ∈ ms, Good n p) : PlainL ms := fun p hp => by
  obtain ⟨_, _, z, hz⟩ := h p hp
  rw [hz]; exact (msg_is 8 0 0 z).plain

/-- What the law wants. -/
def wantB (odd : Bool) (zs : List Int) : Nat → BitVec 64
  | 0 => 0
  | k + 1 => if odd then wantB odd zs k ^^^ bv (zs.getD k 0) else wantB odd zs k
theorem sm_xor (n : Nat) (zs : List Int) (hn : 0 < n) (hn2 : n ≤ 10) : ∀ k, k ≤ 30 → xorB (sm n zs k) = wantB ((n - 1) % 2 == 1) zs k
  | 0, _ => rfl
  | k + 1, h => by
    have ih := sm_xor n zs hn hn2 k (by omega)
    have hl := sm_len n zs hn hn2 k (by omega)
    have hle : k * (n - 1) ≤ 30 * 9 := Nat.mul_le_mul (by omega) (by omega)
    rw [sm, sendM, xorB_app, ih, xorB_const, sent_all n (k % n) _ (Nat.mod_lt _ hn) (by omega), seqOf_msg]
    by_cases ho : (n - 1) % 2 = 1
    · rw [if_pos ho]; simp [wantB, ho]
    · rw [if_neg ho]; simp [wantB, ho]
end Go.Proofs.Ytdpnpkleobjkfaa
