/- Send of two outs. -/
import Derived.Test.YtdpnpkleobjkfaaSendR
namespace Go.Proofs.Ytdpnpkleobjkfaa
open Go.RowKit Go.Shelf
attribute [local go_sem] Oper.semAt_some
set_option maxRecDepth 100000
set_option maxHeartbeats 4000000
set_option linter.unusedSimpArgs false
set_option linter.unusedVariables false

theorem send2 (nb n : Nat) (src t1 t2 : Int) (sv : Value) (m : Nat) (xs : List Value) (c1 c2 : Array Value) (ob cap L : Nat) (w : World) (hn : n ≤ 64) (hm : m ≤ 4000) (hN : NetS w nb n sv m xs) (hL : L = 2)
    (ho : OutsAt w ob [(t1, c1), (t2, c2)]) (hob : ¬ netB nb sv ob) :
    Calls Try.prog 8 #[.pointer (some ⟨nb, 0, none⟩), .int .i64 src, .slice (some ⟨ob, 0, none⟩) L cap] w fun e w' => ∃ sv',
      e = .returned (.int .i64 ((outAll n src [(t1, c1), (t2, c2)] (m, xs)).1 - m : Nat)) ∧ NetS w' nb n sv' (outAll n src [(t1, c1), (t2, c2)] (m, xs)).1 (outAll n src [(t1, c1), (t2, c2)] (m, xs)).2 ∧ Grew w sv sv' ∧ Upd (netB nb sv) w w' := by
  have k0 : w.cell? ⟨nb, 0, none⟩ = some (.int .i64 n) := hN.blk.cell 0
  obtain ⟨sa, sc, rfl⟩ := svi_form hN
  have k1 : w.cell? ⟨nb, 1, none⟩ = some (.slice sa m sc) := hN.blk.cell 1
  have hl := hN.blk.lt
  have hp1 : Plain c1 := ho.plain (t1, c1) (by simp)
  have hp2 : Plain c2 := ho.plain (t2, c2) (by simp)
  have r1 : w.rangeAt ob (0 * 74) (#[Value.int .i64 t1] ++ c1).toList := fun i x hx => ho.at_ 0 (by simp) i x (by simpa using hx)
  have r2 : w.rangeAt ob (1 * 74) (#[Value.int .i64 t2] ++ c2).toList := fun i x hx => ho.at_ 1 (by simp) i x (by simpa using hx)
  have hol := ho.lt
  obtain ⟨m1, hm1⟩ : ∃ m1, m + (sent src t1 n m).length = m1 := ⟨_, rfl⟩
  obtain ⟨y1, hy1⟩ : ∃ y1, xs ++ mails c1 (sent src t1 n m) = y1 := ⟨_, rfl⟩
  obtain ⟨m2, hm2⟩ : ∃ m2, m1 + (sent src t2 n m1).length = m2 := ⟨_, rfl⟩
  obtain ⟨y2, hy2⟩ : ∃ y2, y1 ++ mails c2 (sent src t2 n m1) = y2 := ⟨_, rfl⟩
  have hall : outAll n src [(t1, c1), (t2, c2)] (m, xs) = (m2, y2) := by
    have e : outAll n src [(t1, c1), (t2, c2)] (m, xs) = outAdd n src (outAdd n src (m, xs) (t1, c1)) (t2, c2) := rfl
    rw [e]; simp only [outAdd, hm1, hy1, hm2, hy2]
  have hm1' : m ≤ m1 ∧ m1 ≤ 4000 := by have := sent_len src t1 n m; omega
  have hm2' : m ≤ m2 ∧ m2 ≤ 4000 := by have := sent_len src t2 n m1; omega
  rw [hall]
  have HN := Lib.hid hN
  have HD := Lib.hid (And.intro hm1 (And.intro hy1 (And.intro hm2 hy2)))
  have HL := Lib.hid hL
  clear hN hall hm1 hy1 hm2 hy2 ho hL
  refine callsIn_wide (n := 0).1 ?_
  refine callsIn_of_wp_marks Try.func8 rfl trivial ?_ rfl
  simp only [Try.ntmps8, List.size_toArray, List.length_cons, List.length_nil, Nat.reduceAdd, Nat.reduceSub, Array.replicate_succ, Array.replicate_zero, List.push_toArray, List.append_toArray, List.nil_append, List.cons_append]
  gi_wp2_with fail
  refine wpIn_loop_rounds 3 ?_
  rw [roundsIn_succ]
  have hu1 : Upd nob w (w.alloc (.cells #[.pointer (some ⟨nb, 0, none⟩)] 23)) := (Upd.refl nob w).alloc _
  have hbb : Blk (w.alloc (.cells #[.pointer (some ⟨nb, 0, none⟩)] 23)) w.heap.size 23 #[.pointer (some ⟨nb, 0, none⟩)] := Blk.new _ _ _
  have keepR : ∀ (W : World) (o : Nat) (l : List Value), Upd (netB nb (.slice sa m sc)) w W → w.rangeAt ob o l → W.rangeAt ob o l := fun W o l hu hr i x hx => (hu.cell (p := ⟨ob, o + i, none⟩) hol hob).trans (hr i x hx)
  have hN1 := HN.out.upd hu1 (fun _ _ f => f)
  refine send_round _ rfl nb n src t1 (.slice sa m sc) m xs c1 ob cap L 0 w.heap.size _ hn hm hN1 hp1 (by have := HL.out; omega) (by have := HL.out; omega) (keepR _ _ _ (hu1.mono fun _ h => h.elim) r1) hbb (by omega) m _ _ _ _ _ _ _ _ _ _ _ _ _ _ _ _ _ _ _ _ _ _ _ _ _ _ _ _ _ _ _ _ _ _ _ _ _ _ _ _ _ _ _ _ _ _ _ _ _ _ _ _ _ _ _ _ _ _ _ _ _ _ _  [] _ ?_
  intro v9 v10 v11 v22 v23 v24 v25 v26 v27 v28 v29 v30 v31 v32 v33 v34 v35 v36 v37 v38 v39 v40 v41 v42 v43 v44 v45 v46 v47 v48 v49 v50 v51 v52 v53 v54 v55 v56 v57 v58 v59 v60 v61 v62 v63 v64 ds1 W1 sv1 hds1 hN2 hg1 hu2 hb1
  have hD := HD.out
  rw [hD.1, hD.2.1] at hN2
  have hnlt : nb < w.heap.size := hl
  have huA : Upd (netB nb (.slice sa m sc)) w W1 := (hu1.mono fun _ h => h.elim).trans hu2
  have hg1' : Grew w (.slice sa m sc) sv1 := by
    rcases hg1 with h | ⟨k, h, hk⟩
    · exact .inl h
    · exact .inr ⟨k, h, by simp at hk; omega⟩
  gi_wp2_with fail
  rw [roundsIn_succ]
  refine send_round _ rfl nb n src t2 sv1 m1 y1 c2 ob cap L 1 w.heap.size W1 hn hm1'.2 hN2 hp2 (by have := HL.out; omega) (by have := HL.out; omega) (keepR _ _ _ huA r2) hb1 (by omega) m _ _ _ _ _ _ _ _ _ _ _ _ _ _ _ _ _ _ _ _ _ _ _ _ _ _ _ _ _ _ _ _ _ _ _ _ _ _ _ _ _ _ _ _ _ _ _ _ _ _ _ _ _ _ _ _ _ _ _ _ _ _ _  ds1 _ ?_
  intro x9 x10 x11 x22 x23 x24 x25 x26 x27 x28 x29 x30 x31 x32 x33 x34 x35 x36 x37 x38 x39 x40 x41 x42 x43 x44 x45 x46 x47 x48 x49 x50 x51 x52 x53 x54 x55 x56 x57 x58 x59 x60 x61 x62 x63 x64 ds2 W2 sv2 hds2 hN3 hg2 hu3 hb2
  rw [hD.2.2.1, hD.2.2.2] at hN3
  gi_wp2_with fail
  rw [roundsIn_succ]
  have hs1 : w.heap.size ≤ W1.heap.size := huA.size
  have huB : Upd (netB nb (.slice sa m sc)) w W2 := by
    refine huA.trans' hu3 ?_
    rintro k hk (rfl | h)
    · exact .inl rfl
    · rcases hg1' with h2 | ⟨b, h2, hb⟩
      · exact .inr (h2.symm.trans h)
      · rw [h2] at h; injection h with h; omega
  have hgB : Grew w (.slice sa m sc) sv2 := by
    rcases hg2 with h | ⟨k, h, hk⟩
    · rcases hg1' with h2 | ⟨b, h2, hb⟩
      · exact .inl (h.trans h2)
      · exact .inr ⟨b, h.trans h2, hb⟩
    · exact .inr ⟨k, h, by omega⟩
  have d3 : W2.cell? ⟨w.heap.size, 0, none⟩ = some (.pointer (some ⟨nb, 0, none⟩)) := hb2.cell 0
  obtain ⟨a9, c9, rfl⟩ := svi_form hN3
  have d4 : W2.cell? ⟨nb, 1, none⟩ = some (.slice a9 m2 c9) := hN3.blk.cell 1
  have hlast : decide ((2 : Int) < L) = false := by have := HL.out; simp; omega
  have hsub : ((m2 : Int) - m) = ((m2 - m : Nat) : Int) := by omega
  have hsw : IntKind.i64.wrap ((m2 - m : Nat) : Int) = ((m2 - m : Nat) : Int) := IntWalk.i64_in _ (by omega)
  have hq1 : ∀ e, ¬ netB nb (.slice a9 m2 c9) e → NetS (W2.putObj e (.deferred none)) nb n (.slice a9 m2 c9) m2 y2 := fun e he =>
    hN3.upd ((Upd.refl (fun k => k = e) W2).putObj (.inl rfl) _) (fun k hk h => he (h ▸ hk))
  clear hN2 k0 k1
  rcases hds1 with rfl | ⟨e1, rfl, hk1, hle1, hnb1⟩
  · rcases hds2 with rfl | ⟨e2, rfl, hk2, hle2, hnb2⟩
    · gi_wp2_with fail
      refine ⟨_, results_tmp rfl _ _ _, .slice a9 m2 c9, rfl, hN3, hgB, huB⟩
    · gi_wp2_with fail
      refine ⟨by simp, .inl ⟨_, _, rfl, run_takeDeferred hk2, ?_⟩⟩
      refine ⟨_, results_tmp rfl _ _ _, .slice a9 m2 c9, rfl, hq1 e2 hnb2, hgB, huB.putObj (.inr (by omega)) _⟩
  · have he1 : e1 < W1.heap.size := (Array.getElem?_eq_some_iff.1 hk1).1
    have hle1' : w.heap.size ≤ e1 := by simp at hle1; omega
    have hk1' : W2.heap[e1]? = some (.deferred (some [])) := (hu3.block e1 he1 hnb1).trans hk1
    have hnb1' : ¬ netB nb (.slice a9 m2 c9) e1 := by
      rintro (h | h)
      · exact hnb1 (.inl h)
      · rcases hg2 with h2 | ⟨b, h2, hb⟩
        · exact hnb1 (.inr (h2.symm.trans h))
        · rw [h2] at h; injection h with h; omega
    rcases hds2 with rfl | ⟨e2, rfl, hk2, hle2, hnb2⟩
    · gi_wp2_with fail
      refine ⟨by simp, .inl ⟨_, _, rfl, run_takeDeferred hk1', ?_⟩⟩
      refine ⟨_, results_tmp rfl _ _ _, .slice a9 m2 c9, rfl, hq1 e1 hnb1', hgB, huB.putObj (.inr (by omega)) _⟩
    · gi_wp2_with fail
      refine ⟨by simp, .inl ⟨_, _, rfl, run_takeDeferred hk2, ?_⟩⟩
      have hk1'' : (W2.putObj e2 (.deferred none)).heap[e1]? = some (.deferred (some [])) := (World.putObj_heap_other (by omega)).trans hk1'
      refine ⟨by simp, .inl ⟨_, _, rfl, run_takeDeferred hk1'', ?_⟩⟩
      have hN4 : NetS ((W2.putObj e2 (.deferred none)).putObj e1 (.deferred none)) nb n (.slice a9 m2 c9) m2 y2 :=
        (hq1 e2 hnb2).upd ((Upd.refl (fun k => k = e1) _).putObj (.inl rfl) _) (fun k hk h => hnb1' (h ▸ hk))
      refine ⟨_, results_tmp rfl _ _ _, .slice a9 m2 c9, rfl, hN4, hgB, (huB.putObj (.inr (by omega)) _).putObj (.inr (by omega)) _⟩
end Go.Proofs.Ytdpnpkleobjkfaa
