/- The cells of a message of four numbers. -/
import Derived.Test.YtdpnpkleobjkfaaMsg
import Derived.BigFrame
namespace Go.Proofs.Ytdpnpkleobjkfaa
open Go.RowKit Go.Shelf
set_option maxRecDepth 100000
set_option maxHeartbeats 4000000

/-- A load of a row in the middle of a block. -/
theorem owp_load_mid {P : Program} {o : Oper} {a : Act} {w : World} {Q : Exit → Act → World → Prop} {K : Act → World → Prop} (ty : TypeId) (x : Operand) (ho : o.op = .load ty x)
    (g off : Nat) (hx : a.eval x = .pointer (some ⟨g, off, none⟩)) (cs : Array Value) (d : TypeDesc) (hg : w.rangeAt g off cs.toList)
    (hu : P.underlying ty = some d) (hd : d.isRow = true) (hi : (P.info? ty).map (·.size) = some cs.size)
    (h : K (a.put o.dst (.agg cs)) w) : o.wp P a w K Q := by
  unfold Oper.wp
  rw [run_load_mid ty x ho g off hx cs d hg hu hd hi]
  exact h

theorem owp_load_row {P : Program} {o : Oper} {a : Act} {w : World} {Q : Exit → Act → World → Prop} {K : Act → World → Prop} (ty : TypeId) (x : Operand) (ho : o.op = .load ty x)
    (g : Nat) (hx : a.eval x = .pointer (some ⟨g, 0, none⟩)) (t : TypeId) (cs : Array Value) (d : TypeDesc) (hb : Blk w g t cs)
    (hu : P.underlying ty = some d) (hd : d.isRow = true) (hi : (P.info? ty).map (·.size) = some cs.size)
    (h : K (a.put o.dst (.agg cs)) w) : o.wp P a w K Q :=
  owp_load_mid ty x ho g 0 hx cs d hb.range1 hu hd hi h

def zdig : Array Value := Array.replicate 32 (.int .u8 0)
def zsig : Array Value := #[.int .i64 0] ++ Array.replicate 32 (.int .u8 0)
theorem zdig_size : zdig.size = 32 := by kernel_rfl
theorem zsig_size : zsig.size = 33 := by kernel_rfl

/-- A message of four numbers. -/
def msg (k f v s : Int) : Array Value := #[.int .i64 k, .int .i64 f, .int .i64 v, .int .i64 s] ++ zdig ++ (#[.slice none 0 0, .slice none 0 0, .slice none 0 0, .slice none 0 0] ++ zsig)

structure MsgIs (cs : Array Value) (k f v s : Int) : Prop where
  plain : Plain cs
  c0 : ∀ h : 0 < cs.size, cs[0] = .int .i64 k
  c1 : ∀ h : 1 < cs.size, cs[1] = .int .i64 f
  c2 : ∀ h : 2 < cs.size, cs[2] = .int .i64 v
  c3 : ∀ h : 3 < cs.size, cs[3] = .int .i64 s
  dig : ∃ pre post : Array Value, pre.size = 4 ∧ cs = pre ++ zdig ++ post
  sig : ∃ pre : Array Value, pre.size = 40 ∧ cs = pre ++ zsig

theorem cell_of {cs : Array Value} {i : Nat} {v : Value} (h : cs[i]? = some v) : ∀ hi : i < cs.size, cs[i] = v := by
  intro hi; rw [Array.getElem?_eq_getElem hi] at h; exact Option.some.inj h
theorem msg_size (k f v s : Int) : (msg k f v s).size = 73 := by kernel_rfl
theorem msg_one (k f v s : Int) : (msg k f v s).all (·.oneCell') = true := by kernel_rfl
theorem msg_0 (k f v s : Int) : (msg k f v s)[0]? = some (.int .i64 k) := by kernel_rfl
theorem msg_1 (k f v s : Int) : (msg k f v s)[1]? = some (.int .i64 f) := by kernel_rfl
theorem msg_2 (k f v s : Int) : (msg k f v s)[2]? = some (.int .i64 v) := by kernel_rfl
theorem msg_3 (k f v s : Int) : (msg k f v s)[3]? = some (.int .i64 s) := by kernel_rfl
theorem msg_36 (k f v s : Int) : (msg k f v s)[36]? = some (.slice none 0 0) := by kernel_rfl
theorem msg_37 (k f v s : Int) : (msg k f v s)[37]? = some (.slice none 0 0) := by kernel_rfl
theorem msg_38 (k f v s : Int) : (msg k f v s)[38]? = some (.slice none 0 0) := by kernel_rfl
theorem msg_39 (k f v s : Int) : (msg k f v s)[39]? = some (.slice none 0 0) := by kernel_rfl
theorem msg_split (k f v s : Int) : msg k f v s = ((#[.int .i64 k, .int .i64 f, .int .i64 v, .int .i64 s] ++ zdig ++ #[.slice none 0 0, .slice none 0 0, .slice none 0 0, .slice none 0 0]) ++ zsig) := by
  unfold msg; simp only [Array.append_assoc]
theorem msg_is (k f v s : Int) : MsgIs (msg k f v s) k f v s := by
  refine ⟨⟨msg_size _ _ _ _, msg_one _ _ _ _, cell_of (msg_36 _ _ _ _), cell_of (msg_37 _ _ _ _), cell_of (msg_38 _ _ _ _), cell_of (msg_39 _ _ _ _)⟩, cell_of (msg_0 _ _ _ _), cell_of (msg_1 _ _ _ _), cell_of (msg_2 _ _ _ _), cell_of (msg_3 _ _ _ _), ?_, ?_⟩
  · exact ⟨#[.int .i64 k, .int .i64 f, .int .i64 v, .int .i64 s], _, rfl, rfl⟩
  · exact ⟨_, by kernel_rfl, msg_split k f v s⟩
theorem msg_zero : msg 0 0 0 0 = zmsg := by kernel_rfl
end Go.Proofs.Ytdpnpkleobjkfaa
