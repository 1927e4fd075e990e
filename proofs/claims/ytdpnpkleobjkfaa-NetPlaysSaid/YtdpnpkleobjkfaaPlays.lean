/- assizelaw24.NetPlays answers yes. -/
import Derived.Test.YtdpnpkleobjkfaaPlays0
import Derived.Test.YtdpnpkleobjkfaaPath
import Derived.Test.YtdpnpkleobjkfaaFull
namespace Go.Proofs.Ytdpnpkleobjkfaa
open Go.RowKit Go.Shelf
attribute [local go_sem] Oper.semAt_some
set_option maxRecDepth 100000
set_option maxHeartbeats 40000000
set_option linter.unusedSimpArgs false

/-- A call's row. -/
def callRow (d n t s : Int) : Array Value := #[.int .i64 d, .int .i64 n, .int .i64 t, .int .i64 s]

/-- A slice of calls, or nil. -/
def CallsAt (w : World) (oa : Option Addr) (l : List (Int × Int × Int × Int)) : Prop :=
  ∀ i (h : i < l.length), ∃ a, oa = some a ∧ ∀ j v, (callRow l[i].1 l[i].2.1 l[i].2.2.1 l[i].2.2.2)[j]? = some v → w.cell? ((a.add (i * 4)).add j) = some v
theorem CallsAt.upd {w w' : World} {oa : Option Addr} {l : List (Int × Int × Int × Int)} (h : CallsAt w oa l) (hu : Upd nob w w') : CallsAt w' oa l := fun i hi => by
  obtain ⟨a, ha, hc⟩ := h i hi
  exact ⟨a, ha, fun j v hv => (hu.cell (block_lt_of_cell (hc j v hv)) (fun f => f)).trans (hc j v hv)⟩

theorem run_loadVar_addr {P : Program} (w : World) (a : Addr) (ty : TypeId) (cs : List Value) (d : TypeDesc) (hc : ∀ j v, cs[j]? = some v → w.cell? (a.add j) = some v)
    (hu : P.underlying ty = some d) (hd : d.isRow = true) (hi : (P.info? ty).map (·.size) = some cs.length) : (loadVar ty a).run P w = .ok (.agg cs.toArray) w := by
  have hl : (loadCells a cs.length).run P w = .ok cs.toArray w := run_loadCells_list (P := P) w a cs hc
  cases hq : P.info? ty with
  | none => simp [hq] at hi
  | some i =>
    have hs : i.size = cs.length := by simpa [hq] using hi
    have hagg : (isAgg ty).run P w = .ok true w := by
      unfold isAgg
      rw [Sem.run_bind, run_underlying hu w]
      cases d <;> simp_all [TypeDesc.isRow]
    simp [loadVar, Sem.run_bind, hagg, sizeOf, typeInfo, hq, hs, hl]

theorem wpList_addr {P : Program} {ops : Array Oper} {rest : List Oper} {op : Oper} {a : Act} {w : World} {Q : Exit → Act → World → Prop} (hgd : op.guard = none) (ty : TypeId) (x : Operand) (ho : op.op = .load ty x)
    (b : Addr) (hx : a.eval x = .pointer (some b)) (cs : Array Value) (d : TypeDesc) (hc : ∀ j v, cs[j]? = some v → w.cell? (b.add j) = some v)
    (hu : P.underlying ty = some d) (hd : d.isRow = true) (hi : (P.info? ty).map (·.size) = some cs.size)
    (h : wpList P ops Q rest (a.put op.dst (.agg cs)) w) : wpList P ops Q (op :: rest) a w := by
  have hrun := run_loadVar_addr (P := P) w b ty cs.toList d (fun j v hv => hc j v (by simpa using hv)) hu hd (by simpa using hi)
  refine wpList_plain hgd fun K hK => ?_
  have hk := hK _ _ h
  unfold Oper.wp execOp
  simp only [ho, hx, Instr.loadAt, Instr.sureAddr, Sem.run_bind, Sem.run_pure, Result.andThen_ok, hrun]
  simpa [Oper.upon] using hk

theorem zero_call (w : World) : (zeroValue 55).run Try.prog w = .ok (.agg (callRow 0 0 0 0)) w := by kernel_rfl
theorem call_size (d n t s : Int) : (Try.prog.info? 55).map (·.size) = some (callRow d n t s).size := by kernel_rfl
theorem call_sz (d n t s d' n' t' s' : Int) : (callRow d n t s).size = (callRow d' n' t' s').size := rfl
theorem call_one (d n t s : Int) : (callRow d n t s).all (·.oneCell') = true := by kernel_rfl

theorem plays_n (x : Int) : ∃ n : Nat, n ≤ 8 ∧ wrap64 ((IntKind.u64.wrap x).tmod 9) = n := by
  obtain ⟨r, hr, he⟩ := u64_tmod x 9 (by decide)
  have he : (IntKind.u64.wrap x).tmod 9 = r := he
  rw [he]
  exact ⟨r, by omega, by unfold wrap64; omega⟩

theorem net_plays (x : Int) (oa : Option Addr) (cl : Nat) (l : List (Int × Int × Int × Int)) (w : World) (hl : CallsAt w oa l) (_hll : l.length ≤ 9223372036854775807) :
    Calls Try.prog 5 #[.int .i64 x, .slice oa l.length cl] w fun e w' => e = .returned (.bool true) ∧ Below w.heap.size w w' := by
  obtain ⟨n, hn, he⟩ := plays_n x
  obtain ⟨ie, hie, hiz, his, hib⟩ := info_parts out_info
  have hzc := zero_call
  have hzm := zero_mail
  have hzr := zero_rmail
  go_enter Try.func5, Try.ntmps5
  try dsimp only [List.append]
  go_wp2_with fail
  rw [he]
  refine (new_any n _).mono ?_
  rintro e w1 ⟨rfl, hw1⟩
  have b1 : Blk w1 w.heap.size 67 #[.int .i64 n, .slice none 0 0] := by rw [hw1]; exact Blk.new w _ _
  have hu1 : Upd nob w w1 := by rw [hw1]; exact (Upd.refl nob w).alloc _
  clear hw1 he
  go_wp2_with fail
  obtain ⟨W0, hW0⟩ : ∃ W0, (w1.alloc (Obj.cells #[Value.int IntKind.i64 n, Value.slice none 0 0] 28)) = W0 := ⟨_, rfl⟩
  have hT : Two W0 w.heap.size w.heap.size w1.heap.size n (.slice none 0 0) (.slice none 0 0) [] := by
    rw [← hW0]
    refine ⟨⟨b1.alloc _, ⟨rfl, .inl ⟨rfl, rfl⟩⟩⟩, ⟨Blk.new w1 _ _, ⟨rfl, .inl ⟨rfl, rfl⟩⟩⟩, (fun _ h => nomatch h), Nat.zero_le _, ?_, ?_⟩
    · rintro k (rfl | h)
      · exact Nat.le_refl _
      · simp [Value.ownBlock] at h
    · rintro k (rfl | h)
      · exact hu1.size
      · simp [Value.ownBlock] at h
  have hu0 : Upd nob w W0 := by rw [← hW0]; exact hu1.alloc _
  rw [hW0]
  obtain ⟨rb, hrb⟩ : ∃ rb, w1.heap.size = rb := ⟨_, rfl⟩
  rw [hrb] at hT ⊢
  clear hW0 b1
  go_loopw [7] (fun v wr => ∃ (i : Nat) (ms : List (Int × Array Value)) (sv rv : Value), i ≤ l.length ∧ v = .int .i64 i ∧ Two wr w.heap.size w.heap.size rb n sv rv ms ∧ AllM ms ∧ Upd nob w wr)
    (fun v _ => l.length - (intOf v).toNat)
  case atStart => exact ⟨0, [], _, _, Nat.zero_le _, rfl, hT, (fun _ h => nomatch h), hu0⟩
  case round =>
    obtain ⟨i, ms, sv, rv, hi, rfl, hT, hM, hu⟩ := hrel
    obtain ⟨W, rfl⟩ : ∃ x, x = wr := ⟨_, rfl⟩
    by_cases hrun : i < l.length ∧ i < 80
    · obtain ⟨hil, hi80⟩ := hrun
      have d1 : decide ((i : Int) < l.length) = true := by simp [hil]
      have d2 : decide ((i : Int) < 80) = true := by simp; omega
      have d3 : decide (0 ≤ (i : Int)) = true := by simp
      obtain ⟨a, rfl, hc⟩ := (hl.upd hu) i hil
      obtain ⟨⟨cd, cn, ct, cs⟩, hci⟩ : ∃ y, l[i] = y := ⟨_, rfl⟩
      rw [hci] at hc
      simp only at hc
      have hblk := Blk.new W 55 (callRow 0 0 0 0)
      have b8 := hblk.row (callRow cd cn ct cs)
      have hu8 : Upd nob W ((W.alloc (.cells (callRow 0 0 0 0) 55)).setRow W.heap.size (callRow cd cn ct cs)) := ((Upd.refl nob W).alloc _).setRow (.inr (Nat.le_refl _)) _
      obtain ⟨V0, hV0⟩ : ∃ V, Value.int .i64 cd = V := ⟨_, rfl⟩
      have c8 : ((W.alloc (.cells (callRow 0 0 0 0) 55)).setRow W.heap.size (callRow cd cn ct cs)).cell? ⟨W.heap.size, 0, none⟩ = some V0 := by rw [← hV0]; exact b8.cell 0
      go_wp2_with (first
        | (refine wpList_addr rfl 55 (.tmp 42) rfl (a.add (i * 4)) rfl (callRow cd cn ct cs) _ hc Try.underlying55 rfl (call_size cd cn ct cs) ?_)
        | (refine wpList_store_row rfl 55 (.tmp 8) (.tmp 43) rfl W.heap.size (callRow cd cn ct cs) rfl rfl 55 (callRow 0 0 0 0) hblk (call_size _ _ _ _) rfl (call_one _ _ _ _) ?_))
      rename_i KI aI KT aT K1 a1 K0 a0
      obtain ⟨W8, hW8⟩ : ∃ W8, (W.alloc (.cells (callRow 0 0 0 0) 55)).setRow W.heap.size (callRow cd cn ct cs) = W8 := ⟨_, rfl⟩
      obtain ⟨cb, hcb⟩ : ∃ cb, W.heap.size = cb := ⟨_, rfl⟩
      have hT8 := hT.upd hu8
      have hu8' := hu.trans hu8
      rw [hW8] at b8 hT8 hu8' ⊢
      rw [hcb] at b8 ⊢
      clear c8 hW8 hu8 hu hT hblk
      have tail : ∀ (v9 v10 v11 v12 v13 v14 v15 v16 v46 v47 v48 v49 v50 v51 v52 v53 v54 v55 v56 v57 v58 v59 v60 v61 v62 v63 v64 v65 v66 v67 v68 v69 v70 v71 v72 v73 v74 v75 v76 v77 v78 v79 v80 v81 v82 v83 v84 v85 v86 v87 v88 v89 v90 v91 v92 v93 v94 v95 v96 v97 v98 v99 v100 v101 v102 v103 v104 v105 v106 v107 v108 v109 v110 v111 v112 v113 v114 v115 v116 v117 v118 v119 v120 v121 v122 v123 v124 v125 v126 v127 v128 v129 v130 v131 v132 v133 v134 v135 v136 v137 v138 v139 v140 v141 v142 v143 v144 v145 v146 v147 v148 v149 v150 v151 v152 v153 v154 v155 v156 v157 : Value) (W' : World) (ms : List (Int × Array Value)) (sv rv : Value), Two W' w.heap.size w.heap.size rb n sv rv ms → AllM ms → Upd nob w W' → KT { tmps := #[.int .i64 n, .slice (some a) l.length cl, undef, undef, u4, .pointer (some ⟨w.heap.size, 0, none⟩), .pointer (some ⟨rb, 0, none⟩), .int .i64 i, .pointer (some ⟨cb, 0, none⟩), v9, v10, v11, v12, v13, v14, v15, v16, u17, u18, .int .i64 x, .int .u64 (IntKind.u64.wrap x), .int .u64 ((IntKind.u64.wrap x).tmod 9), .int .i64 n, .int .i64 n, .pointer (some ⟨w.heap.size, 0, none⟩), .int .i64 n, .agg #[.int .i64 n, .slice none 0 0], .pointer (some ⟨rb, 0, none⟩), .pointer (some ⟨w.heap.size, 0, none⟩), .bool false, .int .i64 i, .slice (some a) l.length cl, .int .i64 l.length, .bool true, .bool true, .int .i64 i, .bool true, .bool true, u38, u39, .slice (some a) l.length cl, .int .i64 i, .pointer (some (a.add (i * 4))), .agg (callRow cd cn ct cs), .pointer (some ⟨cb, 0, none⟩), .int .i64 cd, v46, v47, v48, v49, v50, v51, v52, v53, v54, v55, v56, v57, v58, v59, v60, v61, v62, v63, v64, v65, v66, v67, v68, v69, v70, v71, v72, v73, v74, v75, v76, v77, v78, v79, v80, v81, v82, v83, v84, v85, v86, v87, v88, v89, v90, v91, v92, v93, v94, v95, v96, v97, v98, v99, v100, v101, v102, v103, v104, v105, v106, v107, v108, v109, v110, v111, v112, v113, v114, v115, v116, v117, v118, v119, v120, v121, v122, v123, v124, v125, v126, v127, v128, v129, v130, v131, v132, v133, v134, v135, v136, v137, v138, v139, v140, v141, v142, v143, v144, v145, v146, v147, v148, v149, v150, v151, v152, v153, v154, v155, v156, v157, u158, u159, u160, u161, u162, u163, u164, u165, u166, u167, u168, u169, u170, u171, u172, u173, u174, u175, u176, u177, u178, u179, u180, u181, u182, u183, u184, u185, u186, u187, u188, u189, u190, u191, u192, u193, u194, u195, u196, u197, undef], defers := [] } W' := by
        intro v9 v10 v11 v12 v13 v14 v15 v16 v46 v47 v48 v49 v50 v51 v52 v53 v54 v55 v56 v57 v58 v59 v60 v61 v62 v63 v64 v65 v66 v67 v68 v69 v70 v71 v72 v73 v74 v75 v76 v77 v78 v79 v80 v81 v82 v83 v84 v85 v86 v87 v88 v89 v90 v91 v92 v93 v94 v95 v96 v97 v98 v99 v100 v101 v102 v103 v104 v105 v106 v107 v108 v109 v110 v111 v112 v113 v114 v115 v116 v117 v118 v119 v120 v121 v122 v123 v124 v125 v126 v127 v128 v129 v130 v131 v132 v133 v134 v135 v136 v137 v138 v139 v140 v141 v142 v143 v144 v145 v146 v147 v148 v149 v150 v151 v152 v153 v154 v155 v156 v157 W' ms sv rv hT hM hu
        obtain ⟨ra, rc, rfl⟩ := hT.R.form
        refine aT _ _ ?_
        go_wp2_with fail
        refine (allM w.heap.size n sv ms _ hT.N hT.pl hT.le).mono ?_
        rintro e wA ⟨lb, D, rfl, huA, hDA, hitA⟩
        go_wp2_with fail
        refine (collectM 9999 (by decide) (by have := hT.le; omega) hT.le hT.pl hitA (enters_of Try.func43 (by kernel_rfl) rfl) (fun k hk => (hDA k hk).2)).mono ?_
        rintro e wB ⟨cv, rfl, hcv, huB⟩
        obtain ⟨ca, cc, rfl⟩ := own_form hcv
        have hT5 := hT.upd (huA.trans huB)
        have hu5 := hu.trans (huA.trans huB)
        clear hT hu huA huB hitA hDA
        go_wp2_with fail
        refine wp_region_P (by kernel_rfl) ?_
        have hT6 := hT5.upd (Upd.refl nob wB).drew
        have hu6 := hu5.drew
        have hcv6 := World.ownsRow.drew hcv
        clear hT5 hu5 hcv
        refine wpAny_of_E (fun X => Two X w.heap.size w.heap.size rb n sv (.slice ra ms.length rc) ms ∧ X.ownsRow 0 49 74 (.slice ca ms.length cc) ms.length (mcells ms) ∧ Upd nob w X) 8 _ _ _ _ ?_
        have hS := And.intro hT6 (And.intro hcv6 hu6)
        obtain ⟨sa, sc, rfl⟩ := svi_form hT6.N
        refine wpAnyE_take (i := 0) (v := ?_) [1] rfl (by kernel_rfl) (fun _ _ _ h => h) (Or.inl ⟨by rfl, ?_⟩) hS ?_
        rotate_left
        · rintro wx ⟨s1, s2, s3⟩
          go_simp
          with_reducible rfl
        try simp only [List.getElem_toArray, List.getElem_cons_succ, List.getElem_cons_zero, Act.put, List.setIfInBounds_toArray, List.set_cons_zero, List.set_cons_succ]
        refine wpAnyE_take (i := 2) (v := ?_) [7, 6, 5, 4, 3] rfl (by kernel_rfl) (fun _ _ _ h => h) (Or.inl ⟨by rfl, ?_⟩) hS ?_
        rotate_left
        · rintro wx ⟨s1, s2, s3⟩
          go_simp
          with_reducible rfl
        try simp only [List.getElem_toArray, List.getElem_cons_succ, List.getElem_cons_zero, Act.put, List.setIfInBounds_toArray, List.set_cons_zero, List.set_cons_succ]
        refine wpAnyE_take (i := 3) (v := ?_) [7, 6, 5, 4] rfl (by kernel_rfl) (fun _ _ _ h => h) (Or.inl ⟨by rfl, ?_⟩) hS ?_
        rotate_left
        · rintro wx ⟨s1, s2, s3⟩
          go_simp
          with_reducible rfl
        try simp only [List.getElem_toArray, List.getElem_cons_succ, List.getElem_cons_zero, Act.put, List.setIfInBounds_toArray, List.set_cons_zero, List.set_cons_succ]
        refine wpAnyE_take (i := 4) (v := ?_) [7, 6, 5] rfl (by kernel_rfl) (fun _ _ _ h => h) (Or.inl ⟨by rfl, ?_⟩) hS ?_
        rotate_left
        · rintro wx ⟨s1, s2, s3⟩
          go_simp
          with_reducible rfl
        try simp only [List.getElem_toArray, List.getElem_cons_succ, List.getElem_cons_zero, Act.put, List.setIfInBounds_toArray, List.set_cons_zero, List.set_cons_succ]
        refine wpAnyE_take (i := 5) (v := ?_) [7, 6] rfl (by kernel_rfl) (fun _ _ _ h => h) (Or.inl ⟨by rfl, ?_⟩) hS ?_
        rotate_left
        · rintro wx ⟨s1, s2, s3⟩
          have c : wx.cell? ⟨rb, 1, none⟩ = some (.slice ra ms.length rc) := s1.R.blk.cell 1
          go_simp
          with_reducible rfl
        try simp only [List.getElem_toArray, List.getElem_cons_succ, List.getElem_cons_zero, Act.put, List.setIfInBounds_toArray, List.set_cons_zero, List.set_cons_succ]
        refine wpAnyE_take (i := 6) (v := ?_) [7] rfl (by kernel_rfl) (fun _ _ _ h => h) (Or.inl ⟨by rfl, ?_⟩) hS ?_
        rotate_left
        · rintro wx ⟨s1, s2, s3⟩
          go_simp
          with_reducible rfl
        try simp only [List.getElem_toArray, List.getElem_cons_succ, List.getElem_cons_zero, Act.put, List.setIfInBounds_toArray, List.set_cons_zero, List.set_cons_succ]
        refine wpAnyE_one (i := 1) (by kernel_rfl) (by kernel_rfl) rfl (by rfl) fun K hK => ?_
        go_simp
        refine (len_any w.heap.size n _ _ _ _ hS.1.N.blk).mono ?_
        rintro e w' ⟨rfl, rfl⟩
        refine hK _ _ hS ?_
        clear hK K
        try simp only [List.getElem_toArray, List.getElem_cons_succ, List.getElem_cons_zero, Act.put, List.setIfInBounds_toArray, List.set_cons_zero, List.set_cons_succ]
        refine wpAnyE_take (i := 7) (v := ?_) [] rfl (by kernel_rfl) (fun _ _ _ h => h) (Or.inl ⟨by rfl, ?_⟩) hS ?_
        rotate_left
        · rintro wx ⟨s1, s2, s3⟩
          go_simp
          with_reducible rfl
        try simp only [List.getElem_toArray, List.getElem_cons_succ, List.getElem_cons_zero, Act.put, List.setIfInBounds_toArray, List.set_cons_zero, List.set_cons_succ]
        refine wpAnyE_z (by kernel_rfl) rfl (by rfl) fun K hK => ?_
        go_simp
        refine hK _ _ ?_
        clear hK K
        try simp only [List.getElem_toArray, List.getElem_cons_succ, List.getElem_cons_zero, Act.put, List.setIfInBounds_toArray, List.set_cons_zero, List.set_cons_succ]
        refine wpAny_of_E (fun X => Two X w.heap.size w.heap.size rb n (.slice sa ms.length sc) (.slice ra ms.length rc) ms ∧ X.ownsRow 0 49 74 (.slice ca ms.length cc) ms.length (mcells ms) ∧ Upd nob w X) 17 _ _ _ _ ?_
        have hS := And.intro hT6 (And.intro hcv6 hu6)
        refine wpAnyE_take (i := 9) (v := ?_) [16, 10] rfl (by kernel_rfl) (fun _ _ _ h => h) (Or.inl ⟨by rfl, ?_⟩) hS ?_
        rotate_left
        · rintro wx ⟨s1, s2, s3⟩
          go_simp
          with_reducible rfl
        try simp only [List.getElem_toArray, List.getElem_cons_succ, List.getElem_cons_zero, Act.put, List.setIfInBounds_toArray, List.set_cons_zero, List.set_cons_succ]
        refine wpAnyE_take (i := 10) (v := ?_) [16] rfl (by kernel_rfl) (fun _ _ _ h => h) (Or.inl ⟨by rfl, ?_⟩) hS ?_
        rotate_left
        · rintro wx ⟨s1, s2, s3⟩
          go_simp
          with_reducible rfl
        try simp only [List.getElem_toArray, List.getElem_cons_succ, List.getElem_cons_zero, Act.put, List.setIfInBounds_toArray, List.set_cons_zero, List.set_cons_succ]
        refine wpAnyE_take (i := 11) (v := ?_) [16, 15, 14, 13, 12] rfl (by kernel_rfl) (fun _ _ _ h => h) (Or.inl ⟨by rfl, ?_⟩) hS ?_
        rotate_left
        · rintro wx ⟨s1, s2, s3⟩
          go_simp
          with_reducible rfl
        try simp only [List.getElem_toArray, List.getElem_cons_succ, List.getElem_cons_zero, Act.put, List.setIfInBounds_toArray, List.set_cons_zero, List.set_cons_succ]
        refine wpAnyE_take (i := 12) (v := ?_) [16, 15, 14, 13] rfl (by kernel_rfl) (fun _ _ _ h => h) (Or.inl ⟨by rfl, ?_⟩) hS ?_
        rotate_left
        · rintro wx ⟨s1, s2, s3⟩
          go_simp
          with_reducible rfl
        try simp only [List.getElem_toArray, List.getElem_cons_succ, List.getElem_cons_zero, Act.put, List.setIfInBounds_toArray, List.set_cons_zero, List.set_cons_succ]
        refine wpAnyE_take (i := 13) (v := ?_) [16, 15, 14] rfl (by kernel_rfl) (fun _ _ _ h => h) (Or.inl ⟨by rfl, ?_⟩) hS ?_
        rotate_left
        · rintro wx ⟨s1, s2, s3⟩
          go_simp
          with_reducible rfl
        try simp only [List.getElem_toArray, List.getElem_cons_succ, List.getElem_cons_zero, Act.put, List.setIfInBounds_toArray, List.set_cons_zero, List.set_cons_succ]
        refine wpAnyE_take (i := 14) (v := ?_) [16, 15] rfl (by kernel_rfl) (fun _ _ _ h => h) (Or.inl ⟨by rfl, ?_⟩) hS ?_
        rotate_left
        · rintro wx ⟨s1, s2, s3⟩
          have c : wx.cell? ⟨rb, 1, none⟩ = some (.slice ra ms.length rc) := s1.R.blk.cell 1
          go_simp
          with_reducible rfl
        try simp only [List.getElem_toArray, List.getElem_cons_succ, List.getElem_cons_zero, Act.put, List.setIfInBounds_toArray, List.set_cons_zero, List.set_cons_succ]
        refine wpAnyE_take (i := 15) (v := ?_) [16] rfl (by kernel_rfl) (fun _ _ _ h => h) (Or.inl ⟨by rfl, ?_⟩) hS ?_
        rotate_left
        · rintro wx ⟨s1, s2, s3⟩
          go_simp
          with_reducible rfl
        try simp only [List.getElem_toArray, List.getElem_cons_succ, List.getElem_cons_zero, Act.put, List.setIfInBounds_toArray, List.set_cons_zero, List.set_cons_succ]
        refine wpAnyE_take (i := 16) (v := ?_) [] rfl (by kernel_rfl) (fun _ _ _ h => h) (Or.inl ⟨by rfl, ?_⟩) hS ?_
        rotate_left
        · rintro wx ⟨s1, s2, s3⟩
          go_simp
          with_reducible rfl
        try simp only [List.getElem_toArray, List.getElem_cons_succ, List.getElem_cons_zero, Act.put, List.setIfInBounds_toArray, List.set_cons_zero, List.set_cons_succ]
        refine wpAnyE_z (by kernel_rfl) rfl (by rfl) fun K hK => ?_
        go_simp
        refine hK _ _ ?_
        clear hK K
        try simp only [List.getElem_toArray, List.getElem_cons_succ, List.getElem_cons_zero, Act.put, List.setIfInBounds_toArray, List.set_cons_zero, List.set_cons_succ]
        refine wpAny_done (by kernel_rfl) ?_ _
        refine NoPanic.normal ?_
        go_wp2_with fail
        obtain ⟨W5, hW5⟩ : ∃ W5, W5 = wB.drew := ⟨_, rfl⟩
        rw [← hW5] at hT6 hu6 hcv6 ⊢
        clear hW5 hS
        have hle4 := hT6.le
        go_loopw [181] (fun v wq => ∃ k : Nat, k ≤ ms.length ∧ v = .int .i64 k ∧ Upd nob W5 wq) (fun v _ => ms.length - (intOf v).toNat)
        case atStart => exact ⟨0, Nat.zero_le _, rfl, Upd.refl _ _⟩
        case round =>
          obtain ⟨k, hk, rfl, huq⟩ := hrel
          obtain ⟨Wq, rfl⟩ : ∃ x, x = wr := ⟨_, rfl⟩
          rcases Nat.lt_or_ge k ms.length with hkm | hkm
          · have e1 : decide ((k : Int) < ms.length) = true := by simp [hkm]
            have e2 : decide (0 ≤ (k : Int)) = true := by simp
            obtain ⟨g1, cap1, hv1, hcap1, hrg1⟩ := own_range hcv6 (by omega)
            obtain ⟨g2, cap2, hv2, hcap2, hrg2⟩ := own_range hT6.R.row (by omega)
            injection hv1 with e3 e4 e5
            injection hv2 with e6 e7 e8
            subst e3
            subst e5
            subst e6
            subst e8
            have hR1 : ∀ X, Upd nob W5 X → X.rangeAt g1 (k * 74) (atR ms k).toList := fun X hX => by
              have h := range_sub hT6.pl hrg1 hkm
              rw [atR_in (by omega) (by simpa using hkm)]
              exact fun i x hx => (hX.cell (block_lt_of_cell (h i x hx)) (fun f => f)).trans (h i x hx)
            have hR2 : ∀ X, Upd nob W5 X → X.rangeAt g2 (k * 74) (atR ms k).toList := fun X hX => by
              have h := range_sub hT6.pl hrg2 hkm
              rw [atR_in (by omega) (by simpa using hkm)]
              exact fun i x hx => (hX.cell (block_lt_of_cell (h i x hx)) (fun f => f)).trans (h i x hx)
            have hR3 : ∀ X, Upd nob W5 X → X.cell? ⟨rb, 1, none⟩ = some (.slice (some ⟨g2, 0, none⟩) ms.length rc) := fun X hX => (hT6.upd hX).R.blk.cell 1
            have hsame := same_row hM k
            obtain ⟨hsz, _⟩ := atR_row hT6.pl (k : Int)
            obtain ⟨R, hR⟩ : ∃ R, atR ms (k : Int) = R := ⟨_, rfl⟩
            rw [hR] at hsame hsz hR1 hR2
            have hi1 : (Try.prog.info? 49).map (·.size) = some R.size := by rw [hsz]; exact info_mails pmail_info
            have hi2 := rmail_size' hsz
            clear hrg1 hrg2 hcap1 hcap2
            go_wp2_with fail
            refine wp_region_P (by kernel_rfl) ?_
            refine wpAny_of_E (fun X => Upd nob W5 X) 12 _ _ _ _ ?_
            have hS := huq.drew
            refine wpAnyE_take (i := 0) (v := ?_) [11, 3, 2] rfl (by kernel_rfl) (fun _ _ _ h => h) (Or.inl ⟨by rfl, ?_⟩) hS ?_
            rotate_left
            · rintro wx s1
              go_simp
              with_reducible rfl
            try simp only [List.getElem_toArray, List.getElem_cons_succ, List.getElem_cons_zero, Act.put, List.setIfInBounds_toArray, List.set_cons_zero, List.set_cons_succ]
            refine wpAnyE_take (i := 1) (v := ?_) [11, 3, 2] rfl (by kernel_rfl) (fun _ _ _ h => h) (Or.inl ⟨by rfl, ?_⟩) hS ?_
            rotate_left
            · rintro wx s1
              go_simp
              with_reducible rfl
            try simp only [List.getElem_toArray, List.getElem_cons_succ, List.getElem_cons_zero, Act.put, List.setIfInBounds_toArray, List.set_cons_zero, List.set_cons_succ]
            refine wpAnyE_take (i := 2) (v := ?_) [11, 3] rfl (by kernel_rfl) (fun _ _ _ h => h) (Or.inl ⟨by rfl, ?_⟩) hS ?_
            rotate_left
            · rintro wx s1
              go_simp
              with_reducible rfl
            try simp only [List.getElem_toArray, List.getElem_cons_succ, List.getElem_cons_zero, Act.put, List.setIfInBounds_toArray, List.set_cons_zero, List.set_cons_succ]
            refine wpAnyE_take (i := 3) (v := (.agg R)) [11] rfl (by kernel_rfl) (fun _ _ _ h => h) (Or.inl ⟨by rfl, ?_⟩) hS ?_
            · rintro wx s1
              refine run_load_mid 49 (.tmp 186) ?_ g1 (k * 74) ?_ R _ (hR1 _ s1) Try.underlying49 ?_ ?_
              · rfl
              · rfl
              · rfl
              · exact hi1
            try simp only [List.getElem_toArray, List.getElem_cons_succ, List.getElem_cons_zero, Act.put, List.setIfInBounds_toArray, List.set_cons_zero, List.set_cons_succ]
            refine wpAnyE_take (i := 4) (v := ?_) [11, 10, 9, 7, 6, 5] rfl (by kernel_rfl) (fun _ _ _ h => h) (Or.inl ⟨by rfl, ?_⟩) hS ?_
            rotate_left
            · rintro wx s1
              go_simp
              with_reducible rfl
            try simp only [List.getElem_toArray, List.getElem_cons_succ, List.getElem_cons_zero, Act.put, List.setIfInBounds_toArray, List.set_cons_zero, List.set_cons_succ]
            refine wpAnyE_take (i := 5) (v := ?_) [11, 10, 9, 7, 6] rfl (by kernel_rfl) (fun _ _ _ h => h) (Or.inl ⟨by rfl, ?_⟩) hS ?_
            rotate_left
            · rintro wx s1
              go_simp
              with_reducible rfl
            try simp only [List.getElem_toArray, List.getElem_cons_succ, List.getElem_cons_zero, Act.put, List.setIfInBounds_toArray, List.set_cons_zero, List.set_cons_succ]
            refine wpAnyE_take (i := 6) (v := ?_) [11, 10, 9, 7] rfl (by kernel_rfl) (fun _ _ _ h => h) (Or.inl ⟨by rfl, ?_⟩) hS ?_
            rotate_left
            · rintro wx s1
              go_simp
              with_reducible rfl
            try simp only [List.getElem_toArray, List.getElem_cons_succ, List.getElem_cons_zero, Act.put, List.setIfInBounds_toArray, List.set_cons_zero, List.set_cons_succ]
            refine wpAnyE_take (i := 7) (v := ?_) [11, 10, 9] rfl (by kernel_rfl) (fun _ _ _ h => h) (Or.inl ⟨by rfl, ?_⟩) hS ?_
            rotate_left
            · rintro wx s1
              have c := hR3 wx s1
              go_simp
              with_reducible rfl
            try simp only [List.getElem_toArray, List.getElem_cons_succ, List.getElem_cons_zero, Act.put, List.setIfInBounds_toArray, List.set_cons_zero, List.set_cons_succ]
            refine wpAnyE_take (i := 8) (v := ?_) [11, 10, 9] rfl (by kernel_rfl) (fun _ _ _ h => h) (Or.inl ⟨by rfl, ?_⟩) hS ?_
            rotate_left
            · rintro wx s1
              go_simp
              with_reducible rfl
            try simp only [List.getElem_toArray, List.getElem_cons_succ, List.getElem_cons_zero, Act.put, List.setIfInBounds_toArray, List.set_cons_zero, List.set_cons_succ]
            refine wpAnyE_take (i := 9) (v := ?_) [11, 10] rfl (by kernel_rfl) (fun _ _ _ h => h) (Or.inl ⟨by rfl, ?_⟩) hS ?_
            rotate_left
            · rintro wx s1
              go_simp
              with_reducible rfl
            try simp only [List.getElem_toArray, List.getElem_cons_succ, List.getElem_cons_zero, Act.put, List.setIfInBounds_toArray, List.set_cons_zero, List.set_cons_succ]
            refine wpAnyE_take (i := 10) (v := (.agg R)) [11] rfl (by kernel_rfl) (fun _ _ _ h => h) (Or.inl ⟨by rfl, ?_⟩) hS ?_
            · rintro wx s1
              refine run_load_mid 56 (.tmp 193) ?_ g2 (k * 74) ?_ R _ (hR2 _ s1) Try.underlying56 ?_ ?_
              · rfl
              · rfl
              · rfl
              · exact hi2
            try simp only [List.getElem_toArray, List.getElem_cons_succ, List.getElem_cons_zero, Act.put, List.setIfInBounds_toArray, List.set_cons_zero, List.set_cons_succ]
            refine wpAnyE_one (i := 11) (by kernel_rfl) (by kernel_rfl) rfl (by rfl) fun K hK => ?_
            go_simp
            refine (hsame _).mono ?_
            rintro e w' ⟨rfl, hb⟩
            have hS : Upd nob W5 w' := hS.trans (Upd.of_below hb)
            refine hK _ _ hS ?_
            clear hK K
            try simp only [List.getElem_toArray, List.getElem_cons_succ, List.getElem_cons_zero, Act.put, List.setIfInBounds_toArray, List.set_cons_zero, List.set_cons_succ]
            refine wpAnyE_z (by kernel_rfl) rfl (by rfl) fun K hK => ?_
            go_simp
            refine hK _ _ ?_
            clear hK K
            try simp only [List.getElem_toArray, List.getElem_cons_succ, List.getElem_cons_zero, Act.put, List.setIfInBounds_toArray, List.set_cons_zero, List.set_cons_succ]
            refine wpAny_done (by kernel_rfl) ?_ _
            refine NoPanic.normal ?_
            go_wp2_with fail
            case roundEnd => exact ⟨⟨k + 1, by omega, by simp, hS⟩, by simp [intOf]; omega⟩
          · have e1 : decide ((k : Int) < ms.length) = false := by simp; omega
            have hjw := step_i64 i (by omega)
            go_wp2_with fail
            refine ⟨⟨_, _, _, _, _, _, _, _, _, _, _, _, _, _, _, _, _, _, _, _, _, _, _, _, _, _, _, _, _, _, _, _, _, _, _, _, _, _, _, _, _, _, _, _, _, _, _, _, _, _, _, _, _, _, _, _, _, _, _, _, _, _, _, _, _, _, _, _, _, _, _, _, _, _, _, _, _, _, _, _, _, _, _, _, _, _, _, _, _, _, _, _, _, _, _, _, _, _, _, _, _, _, _, _, _, _, _, _, _, _, _, _, _, _, _, _, _, _, _, _, _, _, _, _, _, _, _, _, _, _, _, _, _, _, _, _, _, _, _, _, _, _, _, _, _, _, _, _, _, _, _, _, _, _, _, _, _, _, _, _, _, _, _, _, _, _, _, _, _, _, _, _, _, _, _, _, _, _, _, _, _, ?rel, rfl⟩, ?measure⟩
            case rel => exact ⟨i + 1, ms, _, _, by omega, by go_num, hT6.upd huq, hM, hu6.trans huq⟩
            case measure => simp [intOf]; omega
      have HTAIL := Lib.hid @tail
      clear tail aT
      subst hV0
      obtain ⟨hc8a, hc8b⟩ := hT8.apart' b8 (by decide) (by decide) (by decide) (by decide)
      have k1 : W8.cell? ⟨cb, 1, none⟩ = some (.int .i64 cn) := b8.cell 1
      have k2 : W8.cell? ⟨cb, 2, none⟩ = some (.int .i64 ct) := b8.cell 2
      have k3 : W8.cell? ⟨cb, 3, none⟩ = some (.int .i64 cs) := b8.cell 3
      by_cases s0 : cd = 0
      · subst s0
        have hms1 : (#[Value.int .i64 ct] ++ msg 8 0 0 cs).size = 74 := by kernel_rfl
        obtain ⟨ct1, hct1⟩ : ∃ z, wrap64 (ct + 1) = z := ⟨_, rfl⟩
        have hct2 : IntKind.i64.wrap (ct + 1) = ct1 := by rw [← hct1, IntKind.wrap_i64]; unfold wrap64; rfl
        have hms2 : (#[Value.int .i64 ct1] ++ msg 8 1 0 cs).size = 74 := by kernel_rfl
        have hb1 := built_msg cs
        have hb2 := built_out ct (msg 8 0 0 cs) (msg_size _ _ _ _)
        have hb3 := built_msg2 cs
        have hb4 := built_out ct1 (msg 8 1 0 cs) (msg_size _ _ _ _)
        obtain ⟨C1, hC1⟩ : ∃ C1, #[Value.int .i64 ct] ++ msg 8 0 0 cs = C1 := ⟨_, rfl⟩
        obtain ⟨C2, hC2⟩ : ∃ C2, #[Value.int .i64 ct1] ++ msg 8 1 0 cs = C2 := ⟨_, rfl⟩
        rw [hC1] at hb2 hms1
        rw [hC2] at hb4 hms2
        have HC := Lib.hid (And.intro hC1 hC2)
        clear hC1 hC2
        go_wp2_with (first
          | (with_reducible refine wpList_at 101 ?_; refine wpList_b2 rfl 38 0 3 (.const (.int .i64 8)) (.tmp 100) rfl (.int .i64 8) (.int .i64 cs) rfl rfl (msg 8 0 0 cs) hb1 ?_)
          | (with_reducible refine wpList_at 102 ?_; refine wpList_b2 rfl 40 0 1 (.tmp 98) (.tmp 101) rfl (.int .i64 ct) (.agg (msg 8 0 0 cs)) rfl rfl C1 hb2 ?_)
          | (with_reducible refine wpList_at 108 ?_; refine wpList_b3 rfl 38 0 3 1 (.const (.int .i64 8)) (.tmp 107) (.const (.int .i64 1)) rfl (.int .i64 8) (.int .i64 cs) (.int .i64 1) rfl rfl rfl (msg 8 1 0 cs) hb3 ?_)
          | (with_reducible refine wpList_at 109 ?_; refine wpList_b2 rfl 40 0 1 (.tmp 105) (.tmp 108) rfl (.int .i64 ct1) (.agg (msg 8 1 0 cs)) rfl rfl C2 hb4 ?_)
          | (with_reducible refine wpList_at 110 ?_; refine wpList_bs2 rfl 41 40 (.tmp 102) (.tmp 109) rfl C1 C2 rfl rfl ie (.agg zout) Try.underlying41 hie hiz his hms1 hms2 ?_))
        have hOb := Blk.new W8 40 (C1 ++ C2)
        have hT9 := (hT8.upd ((Upd.refl nob W8).alloc (.cells (C1 ++ C2) 40))).upd (Upd.refl nob _).drew
        have hu9 := (hu8'.alloc (.cells (C1 ++ C2) 40)).drew
        have b9 := b8.alloc (.cells (C1 ++ C2) 40)
        obtain ⟨W9, hW9⟩ : ∃ W9, W8.alloc (.cells (C1 ++ C2) 40) = W9 := ⟨_, rfl⟩
        obtain ⟨ob, hob⟩ : ∃ ob, W8.heap.size = ob := ⟨_, rfl⟩
        rw [hW9] at hOb hT9 hu9 b9 ⊢
        rw [hob] at hOb ⊢
        clear hW9 hob k1 k2 k3
        have hOb9 : Blk W9.drew ob 40 ((#[Value.int .i64 ct] ++ msg 8 0 0 cs) ++ (#[Value.int .i64 ct1] ++ msg 8 1 0 cs)) := by rw [HC.out.1, HC.out.2]; exact hOb
        obtain ⟨hx1, hx2⟩ := hT9.apart hOb9
        have hP1 := (msg_is 8 0 0 cs).plain
        have hP2 := (msg_is 8 1 0 cs).plain
        refine wp_region_P (by kernel_rfl) ?_
        refine wpAny_of_E (fun X => Blk X cb 55 (callRow 0 cn ct cs)) 10 _ _ _ _ ?_
        have hS : Blk W9.drew cb 55 (callRow 0 cn ct cs) := b9
        refine wpAnyE_take (i := 0) (v := ?_) [4] rfl (by kernel_rfl) (fun _ _ _ h => h) (Or.inl ⟨by rfl, ?_⟩) hS ?_
        rotate_left
        · rintro wx s1
          go_simp
          with_reducible rfl
        try simp only [List.getElem_toArray, List.getElem_cons_succ, List.getElem_cons_zero, Act.put, List.setIfInBounds_toArray, List.set_cons_zero, List.set_cons_succ]
        refine wpAnyE_take (i := 1) (v := ?_) [4, 2] rfl (by kernel_rfl) (fun _ _ _ h => h) (Or.inl ⟨by rfl, ?_⟩) hS ?_
        rotate_left
        · rintro wx s1
          go_simp
          with_reducible rfl
        try simp only [List.getElem_toArray, List.getElem_cons_succ, List.getElem_cons_zero, Act.put, List.setIfInBounds_toArray, List.set_cons_zero, List.set_cons_succ]
        refine wpAnyE_take (i := 2) (v := ?_) [4] rfl (by kernel_rfl) (fun _ _ _ h => h) (Or.inl ⟨by rfl, ?_⟩) hS ?_
        rotate_left
        · rintro wx s1
          have c : wx.cell? ⟨cb, 1, none⟩ = some (.int .i64 cn) := s1.cell 1
          go_simp
          with_reducible rfl
        try simp only [List.getElem_toArray, List.getElem_cons_succ, List.getElem_cons_zero, Act.put, List.setIfInBounds_toArray, List.set_cons_zero, List.set_cons_succ]
        refine wpAnyE_take (i := 3) (v := ?_) [4] rfl (by kernel_rfl) (fun _ _ _ h => h) (Or.inl ⟨by rfl, ?_⟩) hS ?_
        rotate_left
        · rintro wx s1
          go_simp
          with_reducible rfl
        try simp only [List.getElem_toArray, List.getElem_cons_succ, List.getElem_cons_zero, Act.put, List.setIfInBounds_toArray, List.set_cons_zero, List.set_cons_succ]
        refine wpAnyE_take (i := 5) (v := ?_) [9] rfl (by kernel_rfl) (fun _ _ _ h => h) (Or.inl ⟨by rfl, ?_⟩) hS ?_
        rotate_left
        · rintro wx s1
          go_simp
          with_reducible rfl
        try simp only [List.getElem_toArray, List.getElem_cons_succ, List.getElem_cons_zero, Act.put, List.setIfInBounds_toArray, List.set_cons_zero, List.set_cons_succ]
        refine wpAnyE_take (i := 6) (v := ?_) [9, 7] rfl (by kernel_rfl) (fun _ _ _ h => h) (Or.inl ⟨by rfl, ?_⟩) hS ?_
        rotate_left
        · rintro wx s1
          go_simp
          with_reducible rfl
        try simp only [List.getElem_toArray, List.getElem_cons_succ, List.getElem_cons_zero, Act.put, List.setIfInBounds_toArray, List.set_cons_zero, List.set_cons_succ]
        refine wpAnyE_take (i := 7) (v := ?_) [9] rfl (by kernel_rfl) (fun _ _ _ h => h) (Or.inl ⟨by rfl, ?_⟩) hS ?_
        rotate_left
        · rintro wx s1
          have c : wx.cell? ⟨cb, 1, none⟩ = some (.int .i64 cn) := s1.cell 1
          go_simp
          with_reducible rfl
        try simp only [List.getElem_toArray, List.getElem_cons_succ, List.getElem_cons_zero, Act.put, List.setIfInBounds_toArray, List.set_cons_zero, List.set_cons_succ]
        refine wpAnyE_take (i := 8) (v := ?_) [9] rfl (by kernel_rfl) (fun _ _ _ h => h) (Or.inl ⟨by rfl, ?_⟩) hS ?_
        rotate_left
        · rintro wx s1
          go_simp
          with_reducible rfl
        try simp only [List.getElem_toArray, List.getElem_cons_succ, List.getElem_cons_zero, Act.put, List.setIfInBounds_toArray, List.set_cons_zero, List.set_cons_succ]
        refine wpAnyE_one (i := 4) (by kernel_rfl) (by kernel_rfl) rfl (by rfl) fun K hK => ?_
        go_simp
        refine (send2m w.heap.size n cn ct ct1 sv ms (msg 8 0 0 cs) (msg 8 1 0 cs) ob 2 _ (by omega) hT9.le hT9.N hP1 hP2 hOb9 hx1).mono ?_
        rintro e wA ⟨svA, rfl, h1, g1, u1⟩
        have hS : Blk wA cb 55 (callRow 0 cn ct cs) := hS.upd u1 hc8a
        refine hK _ _ hS ?_
        clear hK K
        try simp only [List.getElem_toArray, List.getElem_cons_succ, List.getElem_cons_zero, Act.put, List.setIfInBounds_toArray, List.set_cons_zero, List.set_cons_succ]
        refine wpAnyE_one (i := 9) (by kernel_rfl) (by kernel_rfl) rfl (by rfl) fun K hK => ?_
        go_simp
        refine (rsend2m rb n cn ct ct1 rv ms (msg 8 0 0 cs) (msg 8 1 0 cs) ob 2 _ (by omega) hT9.le (hT9.mid u1) hP1 hP2 (hOb9.upd u1 hx1) hx2).mono ?_
        rintro e wB ⟨rvB, rfl, h2, g2, u2⟩
        have hS : Blk wB cb 55 (callRow 0 cn ct cs) := hS.upd u2 hc8b
        refine hK _ _ hS ?_
        clear hK K
        try simp only [List.getElem_toArray, List.getElem_cons_succ, List.getElem_cons_zero, Act.put, List.setIfInBounds_toArray, List.set_cons_zero, List.set_cons_succ]
        refine wpAnyE_z (by kernel_rfl) rfl (by rfl) fun K hK => ?_
        go_simp
        refine hK _ _ ?_
        clear hK K
        try simp only [List.getElem_toArray, List.getElem_cons_succ, List.getElem_cons_zero, Act.put, List.setIfInBounds_toArray, List.set_cons_zero, List.set_cons_succ]
        refine wpAny_done (by kernel_rfl) ?_ _
        refine NoPanic.normal ?_
        have hT10 := hT9.step h1 g1 u1 h2 g2 u2 (sendM_plain (sendM_plain hT9.pl hP1) hP2) (sendM_le _ _ _ _ _ (sendM_le _ _ _ _ _ hT9.le))
        have hu10 := hT9.below hu9 u1 u2
        have hM10 := (hM.send (n := n) (src := cn) (to := ct) ⟨8, 0, 0, cs, msg_is 8 0 0 cs⟩).send (n := n) (src := cn) (to := ct1) ⟨8, 1, 0, cs, msg_is 8 1 0 cs⟩
        go_wp2_with fail
        exact HTAIL.out _ _ _ _ _ _ _ _ _ _ _ _ _ _ _ _ _ _ _ _ _ _ _ _ _ _ _ _ _ _ _ _ _ _ _ _ _ _ _ _ _ _ _ _ _ _ _ _ _ _ _ _ _ _ _ _ _ _ _ _ _ _ _ _ _ _ _ _ _ _ _ _ _ _ _ _ _ _ _ _ _ _ _ _ _ _ _ _ _ _ _ _ _ _ _ _ _ _ _ _ _ _ _ _ _ _ _ _ _ _ _ _ _ _ _ _ _ _ _ _  _ _ _ _ hT10 hM10 hu10
      · have q0 : (cd == 0) = false := by simpa using s0
        by_cases s1 : cd = 1
        · subst s1
          obtain ⟨hr1, hr2⟩ := atR_row hT8.pl cn
          have hsame := same_row hM cn
          have dne : (inR ms cn != inR ms cn) = false := by simp
          have d10 : decide ((1 : Int) = 0) = false := by decide
          go_wp2_with fail
          refine (takeM w.heap.size n sv ms cn _ hT8.N hT8.pl hT8.le).mono ?_
          rintro e wA ⟨svA, rfl, h1, g1, u1⟩
          obtain ⟨R, hR⟩ : ∃ R, atR ms cn = R := ⟨_, rfl⟩
          rw [hR] at hr1 hr2 hsame ⊢
          have hri1 : (Try.prog.info? 49).map (·.size) = some R.size := by rw [hr1]; exact info_mails pmail_info
          have hri2 := rmail_size' hr1
          have hrz : zout.size = R.size := by rw [hr1]; exact zout_size
          have hblk1 := Blk.new wA 49 zout
          have b10 := hblk1.row R
          have uA : Upd (netB w.heap.size sv) W8 ((wA.alloc (.cells zout 49)).setRow wA.heap.size R) := (u1.alloc _).setRow (.inr u1.size) R
          have uA0 : Upd nob wA ((wA.alloc (.cells zout 49)).setRow wA.heap.size R) := ((Upd.refl nob wA).alloc _).setRow (.inr (Nat.le_refl _)) R
          have h1A := h1.upd uA0 (fun _ _ f => f)
          have b8A := b8.upd uA hc8a
          have hs1 := u1.size
          have m1 : ((wA.alloc (.cells zout 49)).setRow wA.heap.size R).cell? ⟨cb, 1, none⟩ = some (.int .i64 cn) := b8A.cell 1
          go_wp2_with (first
            | (refine wpList_store_row rfl 49 (.tmp 10) (.tmp 129) rfl wA.heap.size R rfl rfl 49 zout hblk1 hri1 hrz hr2 ?_))
          obtain ⟨wA2, hA2⟩ : ∃ x, (wA.alloc (.cells zout 49)).setRow wA.heap.size R = x := ⟨_, rfl⟩
          obtain ⟨g10, hg10⟩ : ∃ g, wA.heap.size = g := ⟨_, rfl⟩
          rw [hA2] at b10 uA h1A ⊢
          rw [hg10] at b10 ⊢
          clear m1 uA0 hblk1 b8A k1 k2 k3
          refine (rtakeM rb n rv ms cn _ (hT8.mid uA) hT8.pl hT8.le).mono ?_
          rintro e wB ⟨rvB, rfl, h2, g2, u2⟩
          rw [hR]
          have hT10 := hT8.step2 h1A (Grew.two g1) uA h2 g2 u2 (tk_plain hT8.pl cn) (Nat.le_trans (tk_le cn) hT8.le)
          have hu10 := hT8.below hu8' uA u2
          have b10B : Blk wB g10 49 R := b10.upd u2 (by
            rintro (h | h)
            · have := hT8.R.blk.lt; omega
            · have := (hT8.R.row.lt _ h).2; omega)
          have hblk2 := Blk.new wB 56 zout
          have b12 := hblk2.row R
          have uB0 : Upd nob wB ((wB.alloc (.cells zout 56)).setRow wB.heap.size R) := ((Upd.refl nob wB).alloc _).setRow (.inr (Nat.le_refl _)) R
          have b10C := b10B.upd uB0 (fun f => f)
          have hT11 := hT10.upd uB0
          have hu11 := hu10.trans uB0
          go_wp2_with (first
            | (refine wpList_store_row rfl 56 (.tmp 12) (.tmp 136) rfl wB.heap.size R rfl rfl 56 zout hblk2 hri2 hrz hr2 ?_)
            | (go_big_want; refine owp_load_row 49 (.tmp 10) rfl g10 rfl 49 R _ b10C Try.underlying49 rfl hri1 ?_)
            | (go_big_want; refine owp_load_row 56 (.tmp 12) rfl wB.heap.size rfl 56 R _ b12 Try.underlying56 rfl hri2 ?_))
          refine (hsame _).mono ?_
          rintro e wC ⟨rfl, hbC⟩
          go_wp2_with fail
          exact HTAIL.out _ _ _ _ _ _ _ _ _ _ _ _ _ _ _ _ _ _ _ _ _ _ _ _ _ _ _ _ _ _ _ _ _ _ _ _ _ _ _ _ _ _ _ _ _ _ _ _ _ _ _ _ _ _ _ _ _ _ _ _ _ _ _ _ _ _ _ _ _ _ _ _ _ _ _ _ _ _ _ _ _ _ _ _ _ _ _ _ _ _ _ _ _ _ _ _ _ _ _ _ _ _ _ _ _ _ _ _ _ _ _ _ _ _ _ _ _ _ _ _  _ _ _ _ (hT11.upd (Upd.of_below hbC)) (hM.tk cn) (hu11.trans (Upd.of_below hbC))
        · have q1 : (cd == 1) = false := by simpa using s1
          by_cases s2 : cd = 2
          · subst s2
            have dd : (dblOk ms cn != dblOk ms cn) = false := by simp
            go_wp2_with fail
            have hT9 := hT8.upd (Upd.refl nob W8).drew
            have hu9 := hu8'.drew
            have b9 : Blk W8.drew cb 55 (callRow 2 cn ct cs) := b8
            clear k1 k2 k3
            refine wp_region_P (by kernel_rfl) ?_
            refine wpAny_of_E (fun X => Blk X cb 55 (callRow 2 cn ct cs)) 8 _ _ _ _ ?_
            have hS := b9
            refine wpAnyE_take (i := 0) (v := ?_) [3] rfl (by kernel_rfl) (fun _ _ _ h => h) (Or.inl ⟨by rfl, ?_⟩) hS ?_
            rotate_left
            · rintro wx s1
              go_simp
              with_reducible rfl
            try simp only [List.getElem_toArray, List.getElem_cons_succ, List.getElem_cons_zero, Act.put, List.setIfInBounds_toArray, List.set_cons_zero, List.set_cons_succ]
            refine wpAnyE_take (i := 1) (v := ?_) [3, 2] rfl (by kernel_rfl) (fun _ _ _ h => h) (Or.inl ⟨by rfl, ?_⟩) hS ?_
            rotate_left
            · rintro wx s1
              go_simp
              with_reducible rfl
            try simp only [List.getElem_toArray, List.getElem_cons_succ, List.getElem_cons_zero, Act.put, List.setIfInBounds_toArray, List.set_cons_zero, List.set_cons_succ]
            refine wpAnyE_take (i := 2) (v := ?_) [3] rfl (by kernel_rfl) (fun _ _ _ h => h) (Or.inl ⟨by rfl, ?_⟩) hS ?_
            rotate_left
            · rintro wx s1
              have c : wx.cell? ⟨cb, 1, none⟩ = some (.int .i64 cn) := s1.cell 1
              go_simp
              with_reducible rfl
            try simp only [List.getElem_toArray, List.getElem_cons_succ, List.getElem_cons_zero, Act.put, List.setIfInBounds_toArray, List.set_cons_zero, List.set_cons_succ]
            refine wpAnyE_take (i := 4) (v := ?_) [7] rfl (by kernel_rfl) (fun _ _ _ h => h) (Or.inl ⟨by rfl, ?_⟩) hS ?_
            rotate_left
            · rintro wx s1
              go_simp
              with_reducible rfl
            try simp only [List.getElem_toArray, List.getElem_cons_succ, List.getElem_cons_zero, Act.put, List.setIfInBounds_toArray, List.set_cons_zero, List.set_cons_succ]
            refine wpAnyE_take (i := 5) (v := ?_) [7, 6] rfl (by kernel_rfl) (fun _ _ _ h => h) (Or.inl ⟨by rfl, ?_⟩) hS ?_
            rotate_left
            · rintro wx s1
              go_simp
              with_reducible rfl
            try simp only [List.getElem_toArray, List.getElem_cons_succ, List.getElem_cons_zero, Act.put, List.setIfInBounds_toArray, List.set_cons_zero, List.set_cons_succ]
            refine wpAnyE_take (i := 6) (v := ?_) [7] rfl (by kernel_rfl) (fun _ _ _ h => h) (Or.inl ⟨by rfl, ?_⟩) hS ?_
            rotate_left
            · rintro wx s1
              have c : wx.cell? ⟨cb, 1, none⟩ = some (.int .i64 cn) := s1.cell 1
              go_simp
              with_reducible rfl
            try simp only [List.getElem_toArray, List.getElem_cons_succ, List.getElem_cons_zero, Act.put, List.setIfInBounds_toArray, List.set_cons_zero, List.set_cons_succ]
            refine wpAnyE_one (i := 3) (by kernel_rfl) (by kernel_rfl) rfl (by rfl) fun K hK => ?_
            go_simp
            refine (double_any w.heap.size n sv ms cn _ hT9.N hT9.pl).mono ?_
            rintro e wA ⟨svA, rfl, h1, g1, u1⟩
            have hS : Blk wA cb 55 (callRow 2 cn ct cs) := hS.upd u1 hc8a
            refine hK _ _ hS ?_
            clear hK K
            try simp only [List.getElem_toArray, List.getElem_cons_succ, List.getElem_cons_zero, Act.put, List.setIfInBounds_toArray, List.set_cons_zero, List.set_cons_succ]
            refine wpAnyE_one (i := 7) (by kernel_rfl) (by kernel_rfl) rfl (by rfl) fun K hK => ?_
            go_simp
            refine (rdouble_any rb n rv ms cn _ (hT9.mid u1) hT9.pl).mono ?_
            rintro e wB ⟨rvB, rfl, h2, g2, u2⟩
            have hS : Blk wB cb 55 (callRow 2 cn ct cs) := hS.upd u2 hc8b
            refine hK _ _ hS ?_
            clear hK K
            try simp only [List.getElem_toArray, List.getElem_cons_succ, List.getElem_cons_zero, Act.put, List.setIfInBounds_toArray, List.set_cons_zero, List.set_cons_succ]
            refine wpAnyE_z (by kernel_rfl) rfl (by rfl) fun K hK => ?_
            go_simp
            refine hK _ _ ?_
            clear hK K
            try simp only [List.getElem_toArray, List.getElem_cons_succ, List.getElem_cons_zero, Act.put, List.setIfInBounds_toArray, List.set_cons_zero, List.set_cons_succ]
            refine wpAny_done (by kernel_rfl) ?_ _
            refine NoPanic.normal ?_
            have hT10 := hT9.step h1 g1 u1 h2 g2 u2 (dbl_plain hT9.pl cn) (dbl_le hT9.le cn)
            have hu10 := hT9.below hu9 u1 u2
            go_wp2_with fail
            exact HTAIL.out _ _ _ _ _ _ _ _ _ _ _ _ _ _ _ _ _ _ _ _ _ _ _ _ _ _ _ _ _ _ _ _ _ _ _ _ _ _ _ _ _ _ _ _ _ _ _ _ _ _ _ _ _ _ _ _ _ _ _ _ _ _ _ _ _ _ _ _ _ _ _ _ _ _ _ _ _ _ _ _ _ _ _ _ _ _ _ _ _ _ _ _ _ _ _ _ _ _ _ _ _ _ _ _ _ _ _ _ _ _ _ _ _ _ _ _ _ _ _ _  _ _ _ _ hT10 (hM.dbl cn) hu10
          · have q2 : (cd == 2) = false := by simpa using s2
            obtain ⟨hr1, hr2⟩ := atR_row hT8.pl cn
            have hsame := same_row hM cn
            have hsame0 : ∀ w, Calls Try.prog 16 #[.agg zout, .agg zout] w fun e w' => e = .returned (.bool true) ∧ Below w.heap.size w w' := fun w => by rw [zout_msg]; exact law_same 0 _ 0 0 0 0 (msg_is 0 0 0 0) w
            have hbz : Try.prog.built 56 [] = some zout := by kernel_rfl
            obtain ⟨ra, rc, rfl⟩ := hT8.R.form
            go_wp2_with fail
            refine (at_any w.heap.size n sv ms cn _ hT8.N hT8.pl).mono ?_
            rintro e wA ⟨rfl, hbA⟩
            obtain ⟨R, hR⟩ : ∃ R, atR ms cn = R := ⟨_, rfl⟩
            rw [hR] at hr1 hr2 hsame ⊢
            have hri1 : (Try.prog.info? 49).map (·.size) = some R.size := by rw [hr1]; exact info_mails pmail_info
            have hri2 := rmail_size' hr1
            have hrz : zout.size = R.size := by rw [hr1]; exact zout_size
            have hblk1 := Blk.new wA 49 zout
            have b14 := hblk1.row R
            have uA : Upd nob W8 ((wA.alloc (.cells zout 49)).setRow wA.heap.size R) := ((Upd.of_below (S := nob) hbA).alloc _).setRow (.inr hbA.size) R
            have b8A := b8.upd uA (fun f => f)
            have hT9 := hT8.upd uA
            have hu9 := hu8'.trans uA
            have m1 : ((wA.alloc (.cells zout 49)).setRow wA.heap.size R).cell? ⟨cb, 1, none⟩ = some (.int .i64 cn) := b8A.cell 1
            obtain ⟨inb, hinb⟩ : ∃ b, inR ms cn = b := ⟨_, rfl⟩
            rw [hinb]
            go_wp2_with (first
              | (refine wpList_store_row rfl 49 (.tmp 14) (.tmp 51) rfl wA.heap.size R rfl rfl 49 zout hblk1 hri1 hrz hr2 ?_))
            obtain ⟨Wd, hWd⟩ : ∃ x, (wA.alloc (.cells zout 49)).setRow wA.heap.size R = x := ⟨_, rfl⟩
            obtain ⟨g14, hg14⟩ : ∃ g, wA.heap.size = g := ⟨_, rfl⟩
            rw [hWd] at b14 b8A hT9 hu9 ⊢
            rw [hg14] at b14 ⊢
            clear m1 uA hblk1 k1 k2 k3 hWd hg14
            have X1 : ∀ X, Upd nob Wd X → X.cell? ⟨cb, 1, none⟩ = some (.int .i64 cn) := fun X h => (b8A.upd h (fun f => f)).cell 1
            have X2 : ∀ X, Upd nob Wd X → X.cell? ⟨rb, 1, none⟩ = some (.slice ra ms.length rc) := fun X h => (hT9.upd h).R.blk.cell 1
            have X3 : ∀ X, Upd nob Wd X → Blk X g14 49 R := fun X h => b14.upd h (fun f => f)
            have fin : ∀ X, Upd nob Wd X → Two X w.heap.size w.heap.size rb n sv (.slice ra ms.length rc) ms ∧ Upd nob w X := fun X h => ⟨hT9.upd h, hu9.trans h⟩
            clear b8A hT9 hu9 b14
            by_cases n0 : 0 ≤ cn
            · have e0 : decide (0 ≤ cn) = true := by simp [n0]
              by_cases n1 : cn < ms.length
              · have e1 : decide (cn < (ms.length : Int)) = true := by simp [n1]
                obtain rfl : inb = true := by rw [← hinb]; simp [inR, n0, n1]
                clear hinb
                obtain ⟨kk, hkk⟩ : ∃ kk : Nat, cn = kk := ⟨cn.toNat, by omega⟩
                subst hkk
                have hkl : kk < ms.length := by omega
                obtain ⟨gr, gcap, hgv, _, hgr⟩ := own_range (fin Wd (Upd.refl _ _)).1.R.row (by omega)
                injection hgv with z1 z2 z3
                subst z1
                subst z3
                have X4 : ∀ X, Upd nob Wd X → X.rangeAt gr (kk * 74) R.toList := fun X h => by
                  have hh := range_sub hT8.pl hgr hkl
                  rw [← hR, atR_in (by omega) (by simpa using hkl)]
                  exact fun i x hx => (h.cell (block_lt_of_cell (hh i x hx)) (fun f => f)).trans (hh i x hx)
                refine wp_region_P (by kernel_rfl) ?_
                refine wpAny_of_E (fun X => Upd nob Wd X) 13 _ _ _ _ ?_
                have hS : Upd nob Wd Wd.drew := (Upd.refl nob Wd).drew
                refine wpAnyE_take (i := 0) (v := ?_) [] rfl (by kernel_rfl) (fun _ _ _ h => h) (Or.inl ⟨by rfl, ?_⟩) hS ?_
                rotate_left
                · rintro wx s1
                  go_simp
                  with_reducible rfl
                try simp only [List.getElem_toArray, List.getElem_cons_succ, List.getElem_cons_zero, Act.put, List.setIfInBounds_toArray, List.set_cons_zero, List.set_cons_succ]
                refine wpAnyE_take (i := 1) (v := ?_) [] rfl (by kernel_rfl) (fun _ _ _ h => h) (Or.inl ⟨by rfl, ?_⟩) hS ?_
                rotate_left
                · rintro wx s1
                  have c := X1 wx s1
                  go_simp
                  with_reducible rfl
                try simp only [List.getElem_toArray, List.getElem_cons_succ, List.getElem_cons_zero, Act.put, List.setIfInBounds_toArray, List.set_cons_zero, List.set_cons_succ]
                refine wpAnyE_take (i := 2) (v := ?_) [] rfl (by kernel_rfl) (fun _ _ _ h => h) (Or.inl ⟨by rfl, ?_⟩) hS ?_
                rotate_left
                · rintro wx s1
                  go_simp
                  with_reducible rfl
                try simp only [List.getElem_toArray, List.getElem_cons_succ, List.getElem_cons_zero, Act.put, List.setIfInBounds_toArray, List.set_cons_zero, List.set_cons_succ]
                refine wpAnyE_take (i := 3) (v := ?_) [] rfl (by kernel_rfl) (fun _ _ _ h => h) (Or.inl ⟨by rfl, ?_⟩) hS ?_
                rotate_left
                · rintro wx s1
                  go_simp
                  with_reducible rfl
                try simp only [List.getElem_toArray, List.getElem_cons_succ, List.getElem_cons_zero, Act.put, List.setIfInBounds_toArray, List.set_cons_zero, List.set_cons_succ]
                refine wpAnyE_take (i := 4) (v := ?_) [] rfl (by kernel_rfl) (fun _ _ _ h => h) (Or.inl ⟨by rfl, ?_⟩) hS ?_
                rotate_left
                · rintro wx s1
                  go_simp
                  with_reducible rfl
                try simp only [List.getElem_toArray, List.getElem_cons_succ, List.getElem_cons_zero, Act.put, List.setIfInBounds_toArray, List.set_cons_zero, List.set_cons_succ]
                refine wpAnyE_take (i := 5) (v := ?_) [] rfl (by kernel_rfl) (fun _ _ _ h => h) (Or.inl ⟨by rfl, ?_⟩) hS ?_
                rotate_left
                · rintro wx s1
                  have c := X1 wx s1
                  go_simp
                  with_reducible rfl
                try simp only [List.getElem_toArray, List.getElem_cons_succ, List.getElem_cons_zero, Act.put, List.setIfInBounds_toArray, List.set_cons_zero, List.set_cons_succ]
                refine wpAnyE_take (i := 6) (v := ?_) [] rfl (by kernel_rfl) (fun _ _ _ h => h) (Or.inl ⟨by rfl, ?_⟩) hS ?_
                rotate_left
                · rintro wx s1
                  go_simp
                  with_reducible rfl
                try simp only [List.getElem_toArray, List.getElem_cons_succ, List.getElem_cons_zero, Act.put, List.setIfInBounds_toArray, List.set_cons_zero, List.set_cons_succ]
                refine wpAnyE_take (i := 7) (v := ?_) [] rfl (by kernel_rfl) (fun _ _ _ h => h) (Or.inl ⟨by rfl, ?_⟩) hS ?_
                rotate_left
                · rintro wx s1
                  go_simp
                  with_reducible rfl
                try simp only [List.getElem_toArray, List.getElem_cons_succ, List.getElem_cons_zero, Act.put, List.setIfInBounds_toArray, List.set_cons_zero, List.set_cons_succ]
                refine wpAnyE_take (i := 8) (v := ?_) [] rfl (by kernel_rfl) (fun _ _ _ h => h) (Or.inl ⟨by rfl, ?_⟩) hS ?_
                rotate_left
                · rintro wx s1
                  go_simp
                  with_reducible rfl
                try simp only [List.getElem_toArray, List.getElem_cons_succ, List.getElem_cons_zero, Act.put, List.setIfInBounds_toArray, List.set_cons_zero, List.set_cons_succ]
                refine wpAnyE_take (i := 9) (v := ?_) [] rfl (by kernel_rfl) (fun _ _ _ h => h) (Or.inl ⟨by rfl, ?_⟩) hS ?_
                rotate_left
                · rintro wx s1
                  have c := X2 wx s1
                  go_simp
                  with_reducible rfl
                try simp only [List.getElem_toArray, List.getElem_cons_succ, List.getElem_cons_zero, Act.put, List.setIfInBounds_toArray, List.set_cons_zero, List.set_cons_succ]
                refine wpAnyE_take (i := 10) (v := ?_) [] rfl (by kernel_rfl) (fun _ _ _ h => h) (Or.inl ⟨by rfl, ?_⟩) hS ?_
                rotate_left
                · rintro wx s1
                  go_simp
                  with_reducible rfl
                try simp only [List.getElem_toArray, List.getElem_cons_succ, List.getElem_cons_zero, Act.put, List.setIfInBounds_toArray, List.set_cons_zero, List.set_cons_succ]
                refine wpAnyE_take (i := 11) (v := ?_) [] rfl (by kernel_rfl) (fun _ _ _ h => h) (Or.inl ⟨by rfl, ?_⟩) hS ?_
                rotate_left
                · rintro wx s1
                  go_simp
                  with_reducible rfl
                try simp only [List.getElem_toArray, List.getElem_cons_succ, List.getElem_cons_zero, Act.put, List.setIfInBounds_toArray, List.set_cons_zero, List.set_cons_succ]
                refine wpAnyE_take (i := 12) (v := ?_) [] rfl (by kernel_rfl) (fun _ _ _ h => h) (Or.inl ⟨by rfl, ?_⟩) hS ?_
                rotate_left
                · rintro wx s1
                  go_simp
                  with_reducible rfl
                try simp only [List.getElem_toArray, List.getElem_cons_succ, List.getElem_cons_zero, Act.put, List.setIfInBounds_toArray, List.set_cons_zero, List.set_cons_succ]
                refine wpAnyE_z (by kernel_rfl) rfl (by rfl) fun K hK => ?_
                go_simp
                refine hK _ _ ?_
                clear hK K
                try simp only [List.getElem_toArray, List.getElem_cons_succ, List.getElem_cons_zero, Act.put, List.setIfInBounds_toArray, List.set_cons_zero, List.set_cons_succ]
                refine wpAny_done (by kernel_rfl) ?_ _
                refine NoPanic.normal ?_
                go_wp2_with fail
                have hS0 := hS
                clear hS
                refine wp_region_P (by kernel_rfl) ?_
                refine wpAny_of_E (fun X => Upd nob Wd X) 28 _ _ _ _ ?_
                have hS : Upd nob Wd Wd.drew.drew := hS0.drew
                refine wpAnyE_take (i := 0) (v := ?_) [19, 18, 3, 2] rfl (by kernel_rfl) (fun _ _ _ h => h) (Or.inl ⟨by rfl, ?_⟩) hS ?_
                rotate_left
                · rintro wx s1
                  go_simp
                  with_reducible rfl
                try simp only [List.getElem_toArray, List.getElem_cons_succ, List.getElem_cons_zero, Act.put, List.setIfInBounds_toArray, List.set_cons_zero, List.set_cons_succ]
                refine wpAnyE_take (i := 1) (v := ?_) [19, 18, 3, 2] rfl (by kernel_rfl) (fun _ _ _ h => h) (Or.inl ⟨by rfl, ?_⟩) hS ?_
                rotate_left
                · rintro wx s1
                  go_simp
                  with_reducible rfl
                try simp only [List.getElem_toArray, List.getElem_cons_succ, List.getElem_cons_zero, Act.put, List.setIfInBounds_toArray, List.set_cons_zero, List.set_cons_succ]
                refine wpAnyE_take (i := 2) (v := ?_) [19, 18, 3] rfl (by kernel_rfl) (fun _ _ _ h => h) (Or.inl ⟨by rfl, ?_⟩) hS ?_
                rotate_left
                · rintro wx s1
                  go_simp
                  with_reducible rfl
                try simp only [List.getElem_toArray, List.getElem_cons_succ, List.getElem_cons_zero, Act.put, List.setIfInBounds_toArray, List.set_cons_zero, List.set_cons_succ]
                refine wpAnyE_take (i := 3) (v := ?_) [19, 18] rfl (by kernel_rfl) (fun _ _ _ h => h) (Or.inl ⟨by rfl, ?_⟩) hS ?_
                rotate_left
                · rintro wx s1
                  go_simp
                  with_reducible rfl
                try simp only [List.getElem_toArray, List.getElem_cons_succ, List.getElem_cons_zero, Act.put, List.setIfInBounds_toArray, List.set_cons_zero, List.set_cons_succ]
                refine wpAnyE_take (i := 4) (v := ?_) [19, 15, 5] rfl (by kernel_rfl) (fun _ _ _ h => h) (Or.inl ⟨by rfl, ?_⟩) hS ?_
                rotate_left
                · rintro wx s1
                  go_simp
                  with_reducible rfl
                try simp only [List.getElem_toArray, List.getElem_cons_succ, List.getElem_cons_zero, Act.put, List.setIfInBounds_toArray, List.set_cons_zero, List.set_cons_succ]
                refine wpAnyE_take (i := 5) (v := ?_) [19, 15] rfl (by kernel_rfl) (fun _ _ _ h => h) (Or.inl ⟨by rfl, ?_⟩) hS ?_
                rotate_left
                · rintro wx s1
                  go_simp
                  with_reducible rfl
                try simp only [List.getElem_toArray, List.getElem_cons_succ, List.getElem_cons_zero, Act.put, List.setIfInBounds_toArray, List.set_cons_zero, List.set_cons_succ]
                refine wpAnyE_take (i := 6) (v := (.agg R)) [19, 15] rfl (by kernel_rfl) (fun _ _ _ h => h) (Or.inl ⟨by rfl, ?_⟩) hS ?_
                · rintro wx s1
                  refine run_load_blk 49 (.tmp 14) ?_ g14 ?_ 49 _ _ (X3 _ s1) Try.underlying49 ?_ ?_
                  · rfl
                  · rfl
                  · rfl
                  · exact hri1
                try simp only [List.getElem_toArray, List.getElem_cons_succ, List.getElem_cons_zero, Act.put, List.setIfInBounds_toArray, List.set_cons_zero, List.set_cons_succ]
                refine wpAnyE_take (i := 7) (v := ?_) [19, 15, 14, 13, 10, 9, 8] rfl (by kernel_rfl) (fun _ _ _ h => h) (Or.inl ⟨by rfl, ?_⟩) hS ?_
                rotate_left
                · rintro wx s1
                  go_simp
                  with_reducible rfl
                try simp only [List.getElem_toArray, List.getElem_cons_succ, List.getElem_cons_zero, Act.put, List.setIfInBounds_toArray, List.set_cons_zero, List.set_cons_succ]
                refine wpAnyE_take (i := 8) (v := ?_) [19, 15, 14, 13, 10, 9] rfl (by kernel_rfl) (fun _ _ _ h => h) (Or.inl ⟨by rfl, ?_⟩) hS ?_
                rotate_left
                · rintro wx s1
                  go_simp
                  with_reducible rfl
                try simp only [List.getElem_toArray, List.getElem_cons_succ, List.getElem_cons_zero, Act.put, List.setIfInBounds_toArray, List.set_cons_zero, List.set_cons_succ]
                refine wpAnyE_take (i := 9) (v := ?_) [19, 15, 14, 13, 10] rfl (by kernel_rfl) (fun _ _ _ h => h) (Or.inl ⟨by rfl, ?_⟩) hS ?_
                rotate_left
                · rintro wx s1
                  go_simp
                  with_reducible rfl
                try simp only [List.getElem_toArray, List.getElem_cons_succ, List.getElem_cons_zero, Act.put, List.setIfInBounds_toArray, List.set_cons_zero, List.set_cons_succ]
                refine wpAnyE_take (i := 10) (v := ?_) [19, 15, 14, 13] rfl (by kernel_rfl) (fun _ _ _ h => h) (Or.inl ⟨by rfl, ?_⟩) hS ?_
                rotate_left
                · rintro wx s1
                  have c := X2 wx s1
                  go_simp
                  with_reducible rfl
                try simp only [List.getElem_toArray, List.getElem_cons_succ, List.getElem_cons_zero, Act.put, List.setIfInBounds_toArray, List.set_cons_zero, List.set_cons_succ]
                refine wpAnyE_take (i := 11) (v := ?_) [19, 15, 14, 13, 12] rfl (by kernel_rfl) (fun _ _ _ h => h) (Or.inl ⟨by rfl, ?_⟩) hS ?_
                rotate_left
                · rintro wx s1
                  go_simp
                  with_reducible rfl
                try simp only [List.getElem_toArray, List.getElem_cons_succ, List.getElem_cons_zero, Act.put, List.setIfInBounds_toArray, List.set_cons_zero, List.set_cons_succ]
                refine wpAnyE_take (i := 12) (v := ?_) [19, 15, 14, 13] rfl (by kernel_rfl) (fun _ _ _ h => h) (Or.inl ⟨by rfl, ?_⟩) hS ?_
                rotate_left
                · rintro wx s1
                  have c := X1 wx s1
                  go_simp
                  with_reducible rfl
                try simp only [List.getElem_toArray, List.getElem_cons_succ, List.getElem_cons_zero, Act.put, List.setIfInBounds_toArray, List.set_cons_zero, List.set_cons_succ]
                refine wpAnyE_take (i := 13) (v := ?_) [19, 15, 14] rfl (by kernel_rfl) (fun _ _ _ h => h) (Or.inl ⟨by rfl, ?_⟩) hS ?_
                rotate_left
                · rintro wx s1
                  go_simp
                  with_reducible rfl
                try simp only [List.getElem_toArray, List.getElem_cons_succ, List.getElem_cons_zero, Act.put, List.setIfInBounds_toArray, List.set_cons_zero, List.set_cons_succ]
                refine wpAnyE_take (i := 14) (v := (.agg R)) [19, 15] rfl (by kernel_rfl) (fun _ _ _ h => h) (Or.inl ⟨by rfl, ?_⟩) hS ?_
                · rintro wx s1
                  refine run_load_mid 56 (.tmp 79) ?_ gr (kk * 74) ?_ R _ (X4 _ s1) Try.underlying56 ?_ ?_
                  · rfl
                  · rfl
                  · rfl
                  · exact hri2
                try simp only [List.getElem_toArray, List.getElem_cons_succ, List.getElem_cons_zero, Act.put, List.setIfInBounds_toArray, List.set_cons_zero, List.set_cons_succ]
                refine wpAnyE_one (i := 15) (by kernel_rfl) (by kernel_rfl) rfl (by rfl) fun K hK => ?_
                go_simp
                refine (hsame _).mono ?_
                rintro e wC ⟨rfl, hbC⟩
                have hS : Upd nob Wd wC := hS.trans (Upd.of_below hbC)
                refine hK _ _ hS ?_
                clear hK K
                try simp only [List.getElem_toArray, List.getElem_cons_succ, List.getElem_cons_zero, Act.put, List.setIfInBounds_toArray, List.set_cons_zero, List.set_cons_succ]
                refine wpAnyE_take (i := 16) (v := ?_) [19, 18, 17] rfl (by kernel_rfl) (fun _ _ _ h => h) (Or.inl ⟨by rfl, ?_⟩) hS ?_
                rotate_left
                · rintro wx s1
                  go_simp
                  with_reducible rfl
                try simp only [List.getElem_toArray, List.getElem_cons_succ, List.getElem_cons_zero, Act.put, List.setIfInBounds_toArray, List.set_cons_zero, List.set_cons_succ]
                refine wpAnyE_take (i := 17) (v := ?_) [19, 18] rfl (by kernel_rfl) (fun _ _ _ h => h) (Or.inl ⟨by rfl, ?_⟩) hS ?_
                rotate_left
                · rintro wx s1
                  go_simp
                  with_reducible rfl
                try simp only [List.getElem_toArray, List.getElem_cons_succ, List.getElem_cons_zero, Act.put, List.setIfInBounds_toArray, List.set_cons_zero, List.set_cons_succ]
                refine wpAnyE_take (i := 18) (v := ?_) [19] rfl (by kernel_rfl) (fun _ _ _ h => h) (Or.inl ⟨by rfl, ?_⟩) hS ?_
                rotate_left
                · rintro wx s1
                  go_simp
                  with_reducible rfl
                try simp only [List.getElem_toArray, List.getElem_cons_succ, List.getElem_cons_zero, Act.put, List.setIfInBounds_toArray, List.set_cons_zero, List.set_cons_succ]
                refine wpAnyE_take (i := 19) (v := ?_) [] rfl (by kernel_rfl) (fun _ _ _ h => h) (Or.inl ⟨by rfl, ?_⟩) hS ?_
                rotate_left
                · rintro wx s1
                  go_simp
                  with_reducible rfl
                try simp only [List.getElem_toArray, List.getElem_cons_succ, List.getElem_cons_zero, Act.put, List.setIfInBounds_toArray, List.set_cons_zero, List.set_cons_succ]
                refine wpAnyE_take (i := 20) (v := ?_) [27, 22, 21] rfl (by kernel_rfl) (fun _ _ _ h => h) (Or.inl ⟨by rfl, ?_⟩) hS ?_
                rotate_left
                · rintro wx s1
                  go_simp
                  with_reducible rfl
                try simp only [List.getElem_toArray, List.getElem_cons_succ, List.getElem_cons_zero, Act.put, List.setIfInBounds_toArray, List.set_cons_zero, List.set_cons_succ]
                refine wpAnyE_take (i := 21) (v := ?_) [27, 22] rfl (by kernel_rfl) (fun _ _ _ h => h) (Or.inl ⟨by rfl, ?_⟩) hS ?_
                rotate_left
                · rintro wx s1
                  go_simp
                  with_reducible rfl
                try simp only [List.getElem_toArray, List.getElem_cons_succ, List.getElem_cons_zero, Act.put, List.setIfInBounds_toArray, List.set_cons_zero, List.set_cons_succ]
                refine wpAnyE_take (i := 22) (v := ?_) [27] rfl (by kernel_rfl) (fun _ _ _ h => h) (Or.inl ⟨by rfl, ?_⟩) hS ?_
                rotate_left
                · rintro wx s1
                  go_simp
                  with_reducible rfl
                try simp only [List.getElem_toArray, List.getElem_cons_succ, List.getElem_cons_zero, Act.put, List.setIfInBounds_toArray, List.set_cons_zero, List.set_cons_succ]
                refine wpAnyE_take (i := 23) (v := undef) [27, 26, 25] rfl (by kernel_rfl) (fun _ _ _ h => h) (Or.inr ⟨by rfl, rfl⟩) hS ?_
                try simp only [List.getElem_toArray, List.getElem_cons_succ, List.getElem_cons_zero, Act.put, List.setIfInBounds_toArray, List.set_cons_zero, List.set_cons_succ]
                refine wpAnyE_take (i := 24) (v := undef) [27, 26, 25] rfl (by kernel_rfl) (fun _ _ _ h => h) (Or.inr ⟨by rfl, rfl⟩) hS ?_
                try simp only [List.getElem_toArray, List.getElem_cons_succ, List.getElem_cons_zero, Act.put, List.setIfInBounds_toArray, List.set_cons_zero, List.set_cons_succ]
                refine wpAnyE_take (i := 25) (v := undef) [27, 26] rfl (by kernel_rfl) (fun _ _ _ h => h) (Or.inr ⟨by rfl, rfl⟩) hS ?_
                try simp only [List.getElem_toArray, List.getElem_cons_succ, List.getElem_cons_zero, Act.put, List.setIfInBounds_toArray, List.set_cons_zero, List.set_cons_succ]
                refine wpAnyE_take (i := 26) (v := undef) [27] rfl (by kernel_rfl) (fun _ _ _ h => h) (Or.inr ⟨by rfl, rfl⟩) hS ?_
                try simp only [List.getElem_toArray, List.getElem_cons_succ, List.getElem_cons_zero, Act.put, List.setIfInBounds_toArray, List.set_cons_zero, List.set_cons_succ]
                refine wpAnyE_take (i := 27) (v := ?_) [] rfl (by kernel_rfl) (fun _ _ _ h => h) (Or.inl ⟨by rfl, ?_⟩) hS ?_
                rotate_left
                · rintro wx s1
                  go_simp
                  with_reducible rfl
                try simp only [List.getElem_toArray, List.getElem_cons_succ, List.getElem_cons_zero, Act.put, List.setIfInBounds_toArray, List.set_cons_zero, List.set_cons_succ]
                refine wpAnyE_z (by kernel_rfl) rfl (by rfl) fun K hK => ?_
                go_simp
                refine hK _ _ ?_
                clear hK K
                try simp only [List.getElem_toArray, List.getElem_cons_succ, List.getElem_cons_zero, Act.put, List.setIfInBounds_toArray, List.set_cons_zero, List.set_cons_succ]
                refine wpAny_done (by kernel_rfl) ?_ _
                refine NoPanic.normal ?_
                go_wp2_with fail
                exact HTAIL.out _ _ _ _ _ _ _ _ _ _ _ _ _ _ _ _ _ _ _ _ _ _ _ _ _ _ _ _ _ _ _ _ _ _ _ _ _ _ _ _ _ _ _ _ _ _ _ _ _ _ _ _ _ _ _ _ _ _ _ _ _ _ _ _ _ _ _ _ _ _ _ _ _ _ _ _ _ _ _ _ _ _ _ _ _ _ _ _ _ _ _ _ _ _ _ _ _ _ _ _ _ _ _ _ _ _ _ _ _ _ _ _ _ _ _ _ _ _ _ _  _ _ _ _ (fin _ hS).1 hM (fin _ hS).2
              · have e1 : decide (cn < (ms.length : Int)) = false := by simpa using n1
                have hin : inR ms cn = false := by simp [inR]; omega
                obtain rfl : inb = false := by rw [← hinb]; exact hin
                obtain rfl : zout = R := by rw [← hR, atR_out hin]
                clear hinb
                refine wp_region_P (by kernel_rfl) ?_
                refine wpAny_of_E (fun X => Upd nob Wd X) 13 _ _ _ _ ?_
                have hS : Upd nob Wd Wd.drew := (Upd.refl nob Wd).drew
                refine wpAnyE_take (i := 0) (v := ?_) [] rfl (by kernel_rfl) (fun _ _ _ h => h) (Or.inl ⟨by rfl, ?_⟩) hS ?_
                rotate_left
                · rintro wx s1
                  go_simp
                  with_reducible rfl
                try simp only [List.getElem_toArray, List.getElem_cons_succ, List.getElem_cons_zero, Act.put, List.setIfInBounds_toArray, List.set_cons_zero, List.set_cons_succ]
                refine wpAnyE_take (i := 1) (v := ?_) [] rfl (by kernel_rfl) (fun _ _ _ h => h) (Or.inl ⟨by rfl, ?_⟩) hS ?_
                rotate_left
                · rintro wx s1
                  have c := X1 wx s1
                  go_simp
                  with_reducible rfl
                try simp only [List.getElem_toArray, List.getElem_cons_succ, List.getElem_cons_zero, Act.put, List.setIfInBounds_toArray, List.set_cons_zero, List.set_cons_succ]
                refine wpAnyE_take (i := 2) (v := ?_) [] rfl (by kernel_rfl) (fun _ _ _ h => h) (Or.inl ⟨by rfl, ?_⟩) hS ?_
                rotate_left
                · rintro wx s1
                  go_simp
                  with_reducible rfl
                try simp only [List.getElem_toArray, List.getElem_cons_succ, List.getElem_cons_zero, Act.put, List.setIfInBounds_toArray, List.set_cons_zero, List.set_cons_succ]
                refine wpAnyE_take (i := 3) (v := ?_) [] rfl (by kernel_rfl) (fun _ _ _ h => h) (Or.inl ⟨by rfl, ?_⟩) hS ?_
                rotate_left
                · rintro wx s1
                  go_simp
                  with_reducible rfl
                try simp only [List.getElem_toArray, List.getElem_cons_succ, List.getElem_cons_zero, Act.put, List.setIfInBounds_toArray, List.set_cons_zero, List.set_cons_succ]
                refine wpAnyE_take (i := 4) (v := ?_) [] rfl (by kernel_rfl) (fun _ _ _ h => h) (Or.inl ⟨by rfl, ?_⟩) hS ?_
                rotate_left
                · rintro wx s1
                  go_simp
                  with_reducible rfl
                try simp only [List.getElem_toArray, List.getElem_cons_succ, List.getElem_cons_zero, Act.put, List.setIfInBounds_toArray, List.set_cons_zero, List.set_cons_succ]
                refine wpAnyE_take (i := 5) (v := ?_) [] rfl (by kernel_rfl) (fun _ _ _ h => h) (Or.inl ⟨by rfl, ?_⟩) hS ?_
                rotate_left
                · rintro wx s1
                  have c := X1 wx s1
                  go_simp
                  with_reducible rfl
                try simp only [List.getElem_toArray, List.getElem_cons_succ, List.getElem_cons_zero, Act.put, List.setIfInBounds_toArray, List.set_cons_zero, List.set_cons_succ]
                refine wpAnyE_take (i := 6) (v := ?_) [] rfl (by kernel_rfl) (fun _ _ _ h => h) (Or.inl ⟨by rfl, ?_⟩) hS ?_
                rotate_left
                · rintro wx s1
                  go_simp
                  with_reducible rfl
                try simp only [List.getElem_toArray, List.getElem_cons_succ, List.getElem_cons_zero, Act.put, List.setIfInBounds_toArray, List.set_cons_zero, List.set_cons_succ]
                refine wpAnyE_take (i := 7) (v := ?_) [] rfl (by kernel_rfl) (fun _ _ _ h => h) (Or.inl ⟨by rfl, ?_⟩) hS ?_
                rotate_left
                · rintro wx s1
                  go_simp
                  with_reducible rfl
                try simp only [List.getElem_toArray, List.getElem_cons_succ, List.getElem_cons_zero, Act.put, List.setIfInBounds_toArray, List.set_cons_zero, List.set_cons_succ]
                refine wpAnyE_take (i := 8) (v := ?_) [] rfl (by kernel_rfl) (fun _ _ _ h => h) (Or.inl ⟨by rfl, ?_⟩) hS ?_
                rotate_left
                · rintro wx s1
                  go_simp
                  with_reducible rfl
                try simp only [List.getElem_toArray, List.getElem_cons_succ, List.getElem_cons_zero, Act.put, List.setIfInBounds_toArray, List.set_cons_zero, List.set_cons_succ]
                refine wpAnyE_take (i := 9) (v := ?_) [] rfl (by kernel_rfl) (fun _ _ _ h => h) (Or.inl ⟨by rfl, ?_⟩) hS ?_
                rotate_left
                · rintro wx s1
                  have c := X2 wx s1
                  go_simp
                  with_reducible rfl
                try simp only [List.getElem_toArray, List.getElem_cons_succ, List.getElem_cons_zero, Act.put, List.setIfInBounds_toArray, List.set_cons_zero, List.set_cons_succ]
                refine wpAnyE_take (i := 10) (v := ?_) [] rfl (by kernel_rfl) (fun _ _ _ h => h) (Or.inl ⟨by rfl, ?_⟩) hS ?_
                rotate_left
                · rintro wx s1
                  go_simp
                  with_reducible rfl
                try simp only [List.getElem_toArray, List.getElem_cons_succ, List.getElem_cons_zero, Act.put, List.setIfInBounds_toArray, List.set_cons_zero, List.set_cons_succ]
                refine wpAnyE_take (i := 11) (v := ?_) [] rfl (by kernel_rfl) (fun _ _ _ h => h) (Or.inl ⟨by rfl, ?_⟩) hS ?_
                rotate_left
                · rintro wx s1
                  go_simp
                  with_reducible rfl
                try simp only [List.getElem_toArray, List.getElem_cons_succ, List.getElem_cons_zero, Act.put, List.setIfInBounds_toArray, List.set_cons_zero, List.set_cons_succ]
                refine wpAnyE_take (i := 12) (v := ?_) [] rfl (by kernel_rfl) (fun _ _ _ h => h) (Or.inl ⟨by rfl, ?_⟩) hS ?_
                rotate_left
                · rintro wx s1
                  go_simp
                  with_reducible rfl
                try simp only [List.getElem_toArray, List.getElem_cons_succ, List.getElem_cons_zero, Act.put, List.setIfInBounds_toArray, List.set_cons_zero, List.set_cons_succ]
                refine wpAnyE_z (by kernel_rfl) rfl (by rfl) fun K hK => ?_
                go_simp
                refine hK _ _ ?_
                clear hK K
                try simp only [List.getElem_toArray, List.getElem_cons_succ, List.getElem_cons_zero, Act.put, List.setIfInBounds_toArray, List.set_cons_zero, List.set_cons_succ]
                refine wpAny_done (by kernel_rfl) ?_ _
                refine NoPanic.normal ?_
                go_wp2_with fail
                have hS0 := hS
                clear hS
                refine wp_region_P (by kernel_rfl) ?_
                refine wpAny_of_E (fun X => Upd nob Wd X) 28 _ _ _ _ ?_
                have hS : Upd nob Wd Wd.drew.drew := hS0.drew
                refine wpAnyE_take (i := 0) (v := ?_) [19, 18, 3, 2] rfl (by kernel_rfl) (fun _ _ _ h => h) (Or.inl ⟨by rfl, ?_⟩) hS ?_
                rotate_left
                · rintro wx s1
                  go_simp
                  with_reducible rfl
                try simp only [List.getElem_toArray, List.getElem_cons_succ, List.getElem_cons_zero, Act.put, List.setIfInBounds_toArray, List.set_cons_zero, List.set_cons_succ]
                refine wpAnyE_take (i := 1) (v := ?_) [19, 18, 3, 2] rfl (by kernel_rfl) (fun _ _ _ h => h) (Or.inl ⟨by rfl, ?_⟩) hS ?_
                rotate_left
                · rintro wx s1
                  go_simp
                  with_reducible rfl
                try simp only [List.getElem_toArray, List.getElem_cons_succ, List.getElem_cons_zero, Act.put, List.setIfInBounds_toArray, List.set_cons_zero, List.set_cons_succ]
                refine wpAnyE_take (i := 2) (v := ?_) [19, 18, 3] rfl (by kernel_rfl) (fun _ _ _ h => h) (Or.inl ⟨by rfl, ?_⟩) hS ?_
                rotate_left
                · rintro wx s1
                  go_simp
                  with_reducible rfl
                try simp only [List.getElem_toArray, List.getElem_cons_succ, List.getElem_cons_zero, Act.put, List.setIfInBounds_toArray, List.set_cons_zero, List.set_cons_succ]
                refine wpAnyE_take (i := 3) (v := ?_) [19, 18] rfl (by kernel_rfl) (fun _ _ _ h => h) (Or.inl ⟨by rfl, ?_⟩) hS ?_
                rotate_left
                · rintro wx s1
                  go_simp
                  with_reducible rfl
                try simp only [List.getElem_toArray, List.getElem_cons_succ, List.getElem_cons_zero, Act.put, List.setIfInBounds_toArray, List.set_cons_zero, List.set_cons_succ]
                refine wpAnyE_take (i := 4) (v := ?_) [19, 15, 5] rfl (by kernel_rfl) (fun _ _ _ h => h) (Or.inl ⟨by rfl, ?_⟩) hS ?_
                rotate_left
                · rintro wx s1
                  go_simp
                  with_reducible rfl
                try simp only [List.getElem_toArray, List.getElem_cons_succ, List.getElem_cons_zero, Act.put, List.setIfInBounds_toArray, List.set_cons_zero, List.set_cons_succ]
                refine wpAnyE_take (i := 5) (v := ?_) [19, 15] rfl (by kernel_rfl) (fun _ _ _ h => h) (Or.inl ⟨by rfl, ?_⟩) hS ?_
                rotate_left
                · rintro wx s1
                  go_simp
                  with_reducible rfl
                try simp only [List.getElem_toArray, List.getElem_cons_succ, List.getElem_cons_zero, Act.put, List.setIfInBounds_toArray, List.set_cons_zero, List.set_cons_succ]
                refine wpAnyE_take (i := 6) (v := undef) [19, 15] rfl (by kernel_rfl) (fun _ _ _ h => h) (Or.inr ⟨by rfl, rfl⟩) hS ?_
                try simp only [List.getElem_toArray, List.getElem_cons_succ, List.getElem_cons_zero, Act.put, List.setIfInBounds_toArray, List.set_cons_zero, List.set_cons_succ]
                refine wpAnyE_take (i := 7) (v := undef) [19, 15, 14, 13, 10, 9, 8] rfl (by kernel_rfl) (fun _ _ _ h => h) (Or.inr ⟨by rfl, rfl⟩) hS ?_
                try simp only [List.getElem_toArray, List.getElem_cons_succ, List.getElem_cons_zero, Act.put, List.setIfInBounds_toArray, List.set_cons_zero, List.set_cons_succ]
                refine wpAnyE_take (i := 8) (v := undef) [19, 15, 14, 13, 10, 9] rfl (by kernel_rfl) (fun _ _ _ h => h) (Or.inr ⟨by rfl, rfl⟩) hS ?_
                try simp only [List.getElem_toArray, List.getElem_cons_succ, List.getElem_cons_zero, Act.put, List.setIfInBounds_toArray, List.set_cons_zero, List.set_cons_succ]
                refine wpAnyE_take (i := 9) (v := undef) [19, 15, 14, 13, 10] rfl (by kernel_rfl) (fun _ _ _ h => h) (Or.inr ⟨by rfl, rfl⟩) hS ?_
                try simp only [List.getElem_toArray, List.getElem_cons_succ, List.getElem_cons_zero, Act.put, List.setIfInBounds_toArray, List.set_cons_zero, List.set_cons_succ]
                refine wpAnyE_take (i := 10) (v := undef) [19, 15, 14, 13] rfl (by kernel_rfl) (fun _ _ _ h => h) (Or.inr ⟨by rfl, rfl⟩) hS ?_
                try simp only [List.getElem_toArray, List.getElem_cons_succ, List.getElem_cons_zero, Act.put, List.setIfInBounds_toArray, List.set_cons_zero, List.set_cons_succ]
                refine wpAnyE_take (i := 11) (v := undef) [19, 15, 14, 13, 12] rfl (by kernel_rfl) (fun _ _ _ h => h) (Or.inr ⟨by rfl, rfl⟩) hS ?_
                try simp only [List.getElem_toArray, List.getElem_cons_succ, List.getElem_cons_zero, Act.put, List.setIfInBounds_toArray, List.set_cons_zero, List.set_cons_succ]
                refine wpAnyE_take (i := 12) (v := undef) [19, 15, 14, 13] rfl (by kernel_rfl) (fun _ _ _ h => h) (Or.inr ⟨by rfl, rfl⟩) hS ?_
                try simp only [List.getElem_toArray, List.getElem_cons_succ, List.getElem_cons_zero, Act.put, List.setIfInBounds_toArray, List.set_cons_zero, List.set_cons_succ]
                refine wpAnyE_take (i := 13) (v := undef) [19, 15, 14] rfl (by kernel_rfl) (fun _ _ _ h => h) (Or.inr ⟨by rfl, rfl⟩) hS ?_
                try simp only [List.getElem_toArray, List.getElem_cons_succ, List.getElem_cons_zero, Act.put, List.setIfInBounds_toArray, List.set_cons_zero, List.set_cons_succ]
                refine wpAnyE_take (i := 14) (v := undef) [19, 15] rfl (by kernel_rfl) (fun _ _ _ h => h) (Or.inr ⟨by rfl, rfl⟩) hS ?_
                try simp only [List.getElem_toArray, List.getElem_cons_succ, List.getElem_cons_zero, Act.put, List.setIfInBounds_toArray, List.set_cons_zero, List.set_cons_succ]
                refine wpAnyE_take (i := 15) (v := undef) [19] rfl (by kernel_rfl) (fun _ _ _ h => h) (Or.inr ⟨by rfl, rfl⟩) hS ?_
                try simp only [List.getElem_toArray, List.getElem_cons_succ, List.getElem_cons_zero, Act.put, List.setIfInBounds_toArray, List.set_cons_zero, List.set_cons_succ]
                refine wpAnyE_take (i := 16) (v := undef) [19, 18, 17] rfl (by kernel_rfl) (fun _ _ _ h => h) (Or.inr ⟨by rfl, rfl⟩) hS ?_
                try simp only [List.getElem_toArray, List.getElem_cons_succ, List.getElem_cons_zero, Act.put, List.setIfInBounds_toArray, List.set_cons_zero, List.set_cons_succ]
                refine wpAnyE_take (i := 17) (v := ?_) [19, 18] rfl (by kernel_rfl) (fun _ _ _ h => h) (Or.inl ⟨by rfl, ?_⟩) hS ?_
                rotate_left
                · rintro wx s1
                  go_simp
                  with_reducible rfl
                try simp only [List.getElem_toArray, List.getElem_cons_succ, List.getElem_cons_zero, Act.put, List.setIfInBounds_toArray, List.set_cons_zero, List.set_cons_succ]
                refine wpAnyE_take (i := 18) (v := ?_) [19] rfl (by kernel_rfl) (fun _ _ _ h => h) (Or.inl ⟨by rfl, ?_⟩) hS ?_
                rotate_left
                · rintro wx s1
                  go_simp
                  with_reducible rfl
                try simp only [List.getElem_toArray, List.getElem_cons_succ, List.getElem_cons_zero, Act.put, List.setIfInBounds_toArray, List.set_cons_zero, List.set_cons_succ]
                refine wpAnyE_take (i := 19) (v := ?_) [] rfl (by kernel_rfl) (fun _ _ _ h => h) (Or.inl ⟨by rfl, ?_⟩) hS ?_
                rotate_left
                · rintro wx s1
                  go_simp
                  with_reducible rfl
                try simp only [List.getElem_toArray, List.getElem_cons_succ, List.getElem_cons_zero, Act.put, List.setIfInBounds_toArray, List.set_cons_zero, List.set_cons_succ]
                refine wpAnyE_take (i := 20) (v := ?_) [27, 22, 21] rfl (by kernel_rfl) (fun _ _ _ h => h) (Or.inl ⟨by rfl, ?_⟩) hS ?_
                rotate_left
                · rintro wx s1
                  go_simp
                  with_reducible rfl
                try simp only [List.getElem_toArray, List.getElem_cons_succ, List.getElem_cons_zero, Act.put, List.setIfInBounds_toArray, List.set_cons_zero, List.set_cons_succ]
                refine wpAnyE_take (i := 21) (v := ?_) [27, 22] rfl (by kernel_rfl) (fun _ _ _ h => h) (Or.inl ⟨by rfl, ?_⟩) hS ?_
                rotate_left
                · rintro wx s1
                  go_simp
                  with_reducible rfl
                try simp only [List.getElem_toArray, List.getElem_cons_succ, List.getElem_cons_zero, Act.put, List.setIfInBounds_toArray, List.set_cons_zero, List.set_cons_succ]
                refine wpAnyE_take (i := 22) (v := ?_) [27] rfl (by kernel_rfl) (fun _ _ _ h => h) (Or.inl ⟨by rfl, ?_⟩) hS ?_
                rotate_left
                · rintro wx s1
                  go_simp
                  with_reducible rfl
                try simp only [List.getElem_toArray, List.getElem_cons_succ, List.getElem_cons_zero, Act.put, List.setIfInBounds_toArray, List.set_cons_zero, List.set_cons_succ]
                refine wpAnyE_take (i := 23) (v := (.agg zout)) [27, 26, 25] rfl (by kernel_rfl) (fun _ _ _ h => h) (Or.inl ⟨by rfl, ?_⟩) hS ?_
                · rintro wx s1
                  refine run_load_blk 49 (.tmp 14) ?_ g14 ?_ 49 _ _ (X3 _ s1) Try.underlying49 ?_ ?_
                  · rfl
                  · rfl
                  · rfl
                  · exact hri1
                try simp only [List.getElem_toArray, List.getElem_cons_succ, List.getElem_cons_zero, Act.put, List.setIfInBounds_toArray, List.set_cons_zero, List.set_cons_succ]
                refine wpAnyE_take (i := 24) (v := (.agg zout)) [27, 26, 25] rfl (by kernel_rfl) (fun _ _ _ h => h) (Or.inl ⟨by rfl, ?_⟩) hS ?_
                · rintro wx s1
                  refine run_build_op 56 #[] ?_ _ ?_
                  · rfl
                  · simpa using hbz
                try simp only [List.getElem_toArray, List.getElem_cons_succ, List.getElem_cons_zero, Act.put, List.setIfInBounds_toArray, List.set_cons_zero, List.set_cons_succ]
                refine wpAnyE_one (i := 25) (by kernel_rfl) (by kernel_rfl) rfl (by rfl) fun K hK => ?_
                go_simp
                refine (hsame0 _).mono ?_
                rintro e wC ⟨rfl, hbC⟩
                have hS : Upd nob Wd wC := hS.trans (Upd.of_below hbC)
                refine hK _ _ hS ?_
                clear hK K
                try simp only [List.getElem_toArray, List.getElem_cons_succ, List.getElem_cons_zero, Act.put, List.setIfInBounds_toArray, List.set_cons_zero, List.set_cons_succ]
                refine wpAnyE_take (i := 26) (v := ?_) [27] rfl (by kernel_rfl) (fun _ _ _ h => h) (Or.inl ⟨by rfl, ?_⟩) hS ?_
                rotate_left
                · rintro wx s1
                  go_simp
                  with_reducible rfl
                try simp only [List.getElem_toArray, List.getElem_cons_succ, List.getElem_cons_zero, Act.put, List.setIfInBounds_toArray, List.set_cons_zero, List.set_cons_succ]
                refine wpAnyE_take (i := 27) (v := ?_) [] rfl (by kernel_rfl) (fun _ _ _ h => h) (Or.inl ⟨by rfl, ?_⟩) hS ?_
                rotate_left
                · rintro wx s1
                  go_simp
                  with_reducible rfl
                try simp only [List.getElem_toArray, List.getElem_cons_succ, List.getElem_cons_zero, Act.put, List.setIfInBounds_toArray, List.set_cons_zero, List.set_cons_succ]
                refine wpAnyE_z (by kernel_rfl) rfl (by rfl) fun K hK => ?_
                go_simp
                refine hK _ _ ?_
                clear hK K
                try simp only [List.getElem_toArray, List.getElem_cons_succ, List.getElem_cons_zero, Act.put, List.setIfInBounds_toArray, List.set_cons_zero, List.set_cons_succ]
                refine wpAny_done (by kernel_rfl) ?_ _
                refine NoPanic.normal ?_
                go_wp2_with fail
                exact HTAIL.out _ _ _ _ _ _ _ _ _ _ _ _ _ _ _ _ _ _ _ _ _ _ _ _ _ _ _ _ _ _ _ _ _ _ _ _ _ _ _ _ _ _ _ _ _ _ _ _ _ _ _ _ _ _ _ _ _ _ _ _ _ _ _ _ _ _ _ _ _ _ _ _ _ _ _ _ _ _ _ _ _ _ _ _ _ _ _ _ _ _ _ _ _ _ _ _ _ _ _ _ _ _ _ _ _ _ _ _ _ _ _ _ _ _ _ _ _ _ _ _  _ _ _ _ (fin _ hS).1 hM (fin _ hS).2
            · have e0 : decide (0 ≤ cn) = false := by simpa using n0
              have hin : inR ms cn = false := by simp [inR]; omega
              obtain rfl : inb = false := by rw [← hinb]; exact hin
              obtain rfl : zout = R := by rw [← hR, atR_out hin]
              clear hinb
              refine wp_region_P (by kernel_rfl) ?_
              refine wpAny_of_E (fun X => Upd nob Wd X) 13 _ _ _ _ ?_
              have hS : Upd nob Wd Wd.drew := (Upd.refl nob Wd).drew
              refine wpAnyE_take (i := 0) (v := ?_) [] rfl (by kernel_rfl) (fun _ _ _ h => h) (Or.inl ⟨by rfl, ?_⟩) hS ?_
              rotate_left
              · rintro wx s1
                go_simp
                with_reducible rfl
              try simp only [List.getElem_toArray, List.getElem_cons_succ, List.getElem_cons_zero, Act.put, List.setIfInBounds_toArray, List.set_cons_zero, List.set_cons_succ]
              refine wpAnyE_take (i := 1) (v := ?_) [] rfl (by kernel_rfl) (fun _ _ _ h => h) (Or.inl ⟨by rfl, ?_⟩) hS ?_
              rotate_left
              · rintro wx s1
                have c := X1 wx s1
                go_simp
                with_reducible rfl
              try simp only [List.getElem_toArray, List.getElem_cons_succ, List.getElem_cons_zero, Act.put, List.setIfInBounds_toArray, List.set_cons_zero, List.set_cons_succ]
              refine wpAnyE_take (i := 2) (v := ?_) [] rfl (by kernel_rfl) (fun _ _ _ h => h) (Or.inl ⟨by rfl, ?_⟩) hS ?_
              rotate_left
              · rintro wx s1
                go_simp
                with_reducible rfl
              try simp only [List.getElem_toArray, List.getElem_cons_succ, List.getElem_cons_zero, Act.put, List.setIfInBounds_toArray, List.set_cons_zero, List.set_cons_succ]
              refine wpAnyE_take (i := 3) (v := ?_) [] rfl (by kernel_rfl) (fun _ _ _ h => h) (Or.inl ⟨by rfl, ?_⟩) hS ?_
              rotate_left
              · rintro wx s1
                go_simp
                with_reducible rfl
              try simp only [List.getElem_toArray, List.getElem_cons_succ, List.getElem_cons_zero, Act.put, List.setIfInBounds_toArray, List.set_cons_zero, List.set_cons_succ]
              refine wpAnyE_take (i := 4) (v := undef) [] rfl (by kernel_rfl) (fun _ _ _ h => h) (Or.inr ⟨by rfl, rfl⟩) hS ?_
              try simp only [List.getElem_toArray, List.getElem_cons_succ, List.getElem_cons_zero, Act.put, List.setIfInBounds_toArray, List.set_cons_zero, List.set_cons_succ]
              refine wpAnyE_take (i := 5) (v := undef) [] rfl (by kernel_rfl) (fun _ _ _ h => h) (Or.inr ⟨by rfl, rfl⟩) hS ?_
              try simp only [List.getElem_toArray, List.getElem_cons_succ, List.getElem_cons_zero, Act.put, List.setIfInBounds_toArray, List.set_cons_zero, List.set_cons_succ]
              refine wpAnyE_take (i := 6) (v := undef) [] rfl (by kernel_rfl) (fun _ _ _ h => h) (Or.inr ⟨by rfl, rfl⟩) hS ?_
              try simp only [List.getElem_toArray, List.getElem_cons_succ, List.getElem_cons_zero, Act.put, List.setIfInBounds_toArray, List.set_cons_zero, List.set_cons_succ]
              refine wpAnyE_take (i := 7) (v := undef) [] rfl (by kernel_rfl) (fun _ _ _ h => h) (Or.inr ⟨by rfl, rfl⟩) hS ?_
              try simp only [List.getElem_toArray, List.getElem_cons_succ, List.getElem_cons_zero, Act.put, List.setIfInBounds_toArray, List.set_cons_zero, List.set_cons_succ]
              refine wpAnyE_take (i := 8) (v := undef) [] rfl (by kernel_rfl) (fun _ _ _ h => h) (Or.inr ⟨by rfl, rfl⟩) hS ?_
              try simp only [List.getElem_toArray, List.getElem_cons_succ, List.getElem_cons_zero, Act.put, List.setIfInBounds_toArray, List.set_cons_zero, List.set_cons_succ]
              refine wpAnyE_take (i := 9) (v := undef) [] rfl (by kernel_rfl) (fun _ _ _ h => h) (Or.inr ⟨by rfl, rfl⟩) hS ?_
              try simp only [List.getElem_toArray, List.getElem_cons_succ, List.getElem_cons_zero, Act.put, List.setIfInBounds_toArray, List.set_cons_zero, List.set_cons_succ]
              refine wpAnyE_take (i := 10) (v := undef) [] rfl (by kernel_rfl) (fun _ _ _ h => h) (Or.inr ⟨by rfl, rfl⟩) hS ?_
              try simp only [List.getElem_toArray, List.getElem_cons_succ, List.getElem_cons_zero, Act.put, List.setIfInBounds_toArray, List.set_cons_zero, List.set_cons_succ]
              refine wpAnyE_take (i := 11) (v := undef) [] rfl (by kernel_rfl) (fun _ _ _ h => h) (Or.inr ⟨by rfl, rfl⟩) hS ?_
              try simp only [List.getElem_toArray, List.getElem_cons_succ, List.getElem_cons_zero, Act.put, List.setIfInBounds_toArray, List.set_cons_zero, List.set_cons_succ]
              refine wpAnyE_take (i := 12) (v := ?_) [] rfl (by kernel_rfl) (fun _ _ _ h => h) (Or.inl ⟨by rfl, ?_⟩) hS ?_
              rotate_left
              · rintro wx s1
                go_simp
                with_reducible rfl
              try simp only [List.getElem_toArray, List.getElem_cons_succ, List.getElem_cons_zero, Act.put, List.setIfInBounds_toArray, List.set_cons_zero, List.set_cons_succ]
              refine wpAnyE_z (by kernel_rfl) rfl (by rfl) fun K hK => ?_
              go_simp
              refine hK _ _ ?_
              clear hK K
              try simp only [List.getElem_toArray, List.getElem_cons_succ, List.getElem_cons_zero, Act.put, List.setIfInBounds_toArray, List.set_cons_zero, List.set_cons_succ]
              refine wpAny_done (by kernel_rfl) ?_ _
              refine NoPanic.normal ?_
              go_wp2_with fail
              have hS0 := hS
              clear hS
              refine wp_region_P (by kernel_rfl) ?_
              refine wpAny_of_E (fun X => Upd nob Wd X) 28 _ _ _ _ ?_
              have hS : Upd nob Wd Wd.drew.drew := hS0.drew
              refine wpAnyE_take (i := 0) (v := ?_) [19, 18, 3, 2] rfl (by kernel_rfl) (fun _ _ _ h => h) (Or.inl ⟨by rfl, ?_⟩) hS ?_
              rotate_left
              · rintro wx s1
                go_simp
                with_reducible rfl
              try simp only [List.getElem_toArray, List.getElem_cons_succ, List.getElem_cons_zero, Act.put, List.setIfInBounds_toArray, List.set_cons_zero, List.set_cons_succ]
              refine wpAnyE_take (i := 1) (v := ?_) [19, 18, 3, 2] rfl (by kernel_rfl) (fun _ _ _ h => h) (Or.inl ⟨by rfl, ?_⟩) hS ?_
              rotate_left
              · rintro wx s1
                go_simp
                with_reducible rfl
              try simp only [List.getElem_toArray, List.getElem_cons_succ, List.getElem_cons_zero, Act.put, List.setIfInBounds_toArray, List.set_cons_zero, List.set_cons_succ]
              refine wpAnyE_take (i := 2) (v := ?_) [19, 18, 3] rfl (by kernel_rfl) (fun _ _ _ h => h) (Or.inl ⟨by rfl, ?_⟩) hS ?_
              rotate_left
              · rintro wx s1
                go_simp
                with_reducible rfl
              try simp only [List.getElem_toArray, List.getElem_cons_succ, List.getElem_cons_zero, Act.put, List.setIfInBounds_toArray, List.set_cons_zero, List.set_cons_succ]
              refine wpAnyE_take (i := 3) (v := ?_) [19, 18] rfl (by kernel_rfl) (fun _ _ _ h => h) (Or.inl ⟨by rfl, ?_⟩) hS ?_
              rotate_left
              · rintro wx s1
                go_simp
                with_reducible rfl
              try simp only [List.getElem_toArray, List.getElem_cons_succ, List.getElem_cons_zero, Act.put, List.setIfInBounds_toArray, List.set_cons_zero, List.set_cons_succ]
              refine wpAnyE_take (i := 4) (v := ?_) [19, 15, 5] rfl (by kernel_rfl) (fun _ _ _ h => h) (Or.inl ⟨by rfl, ?_⟩) hS ?_
              rotate_left
              · rintro wx s1
                go_simp
                with_reducible rfl
              try simp only [List.getElem_toArray, List.getElem_cons_succ, List.getElem_cons_zero, Act.put, List.setIfInBounds_toArray, List.set_cons_zero, List.set_cons_succ]
              refine wpAnyE_take (i := 5) (v := ?_) [19, 15] rfl (by kernel_rfl) (fun _ _ _ h => h) (Or.inl ⟨by rfl, ?_⟩) hS ?_
              rotate_left
              · rintro wx s1
                go_simp
                with_reducible rfl
              try simp only [List.getElem_toArray, List.getElem_cons_succ, List.getElem_cons_zero, Act.put, List.setIfInBounds_toArray, List.set_cons_zero, List.set_cons_succ]
              refine wpAnyE_take (i := 6) (v := undef) [19, 15] rfl (by kernel_rfl) (fun _ _ _ h => h) (Or.inr ⟨by rfl, rfl⟩) hS ?_
              try simp only [List.getElem_toArray, List.getElem_cons_succ, List.getElem_cons_zero, Act.put, List.setIfInBounds_toArray, List.set_cons_zero, List.set_cons_succ]
              refine wpAnyE_take (i := 7) (v := undef) [19, 15, 14, 13, 10, 9, 8] rfl (by kernel_rfl) (fun _ _ _ h => h) (Or.inr ⟨by rfl, rfl⟩) hS ?_
              try simp only [List.getElem_toArray, List.getElem_cons_succ, List.getElem_cons_zero, Act.put, List.setIfInBounds_toArray, List.set_cons_zero, List.set_cons_succ]
              refine wpAnyE_take (i := 8) (v := undef) [19, 15, 14, 13, 10, 9] rfl (by kernel_rfl) (fun _ _ _ h => h) (Or.inr ⟨by rfl, rfl⟩) hS ?_
              try simp only [List.getElem_toArray, List.getElem_cons_succ, List.getElem_cons_zero, Act.put, List.setIfInBounds_toArray, List.set_cons_zero, List.set_cons_succ]
              refine wpAnyE_take (i := 9) (v := undef) [19, 15, 14, 13, 10] rfl (by kernel_rfl) (fun _ _ _ h => h) (Or.inr ⟨by rfl, rfl⟩) hS ?_
              try simp only [List.getElem_toArray, List.getElem_cons_succ, List.getElem_cons_zero, Act.put, List.setIfInBounds_toArray, List.set_cons_zero, List.set_cons_succ]
              refine wpAnyE_take (i := 10) (v := undef) [19, 15, 14, 13] rfl (by kernel_rfl) (fun _ _ _ h => h) (Or.inr ⟨by rfl, rfl⟩) hS ?_
              try simp only [List.getElem_toArray, List.getElem_cons_succ, List.getElem_cons_zero, Act.put, List.setIfInBounds_toArray, List.set_cons_zero, List.set_cons_succ]
              refine wpAnyE_take (i := 11) (v := undef) [19, 15, 14, 13, 12] rfl (by kernel_rfl) (fun _ _ _ h => h) (Or.inr ⟨by rfl, rfl⟩) hS ?_
              try simp only [List.getElem_toArray, List.getElem_cons_succ, List.getElem_cons_zero, Act.put, List.setIfInBounds_toArray, List.set_cons_zero, List.set_cons_succ]
              refine wpAnyE_take (i := 12) (v := undef) [19, 15, 14, 13] rfl (by kernel_rfl) (fun _ _ _ h => h) (Or.inr ⟨by rfl, rfl⟩) hS ?_
              try simp only [List.getElem_toArray, List.getElem_cons_succ, List.getElem_cons_zero, Act.put, List.setIfInBounds_toArray, List.set_cons_zero, List.set_cons_succ]
              refine wpAnyE_take (i := 13) (v := undef) [19, 15, 14] rfl (by kernel_rfl) (fun _ _ _ h => h) (Or.inr ⟨by rfl, rfl⟩) hS ?_
              try simp only [List.getElem_toArray, List.getElem_cons_succ, List.getElem_cons_zero, Act.put, List.setIfInBounds_toArray, List.set_cons_zero, List.set_cons_succ]
              refine wpAnyE_take (i := 14) (v := undef) [19, 15] rfl (by kernel_rfl) (fun _ _ _ h => h) (Or.inr ⟨by rfl, rfl⟩) hS ?_
              try simp only [List.getElem_toArray, List.getElem_cons_succ, List.getElem_cons_zero, Act.put, List.setIfInBounds_toArray, List.set_cons_zero, List.set_cons_succ]
              refine wpAnyE_take (i := 15) (v := undef) [19] rfl (by kernel_rfl) (fun _ _ _ h => h) (Or.inr ⟨by rfl, rfl⟩) hS ?_
              try simp only [List.getElem_toArray, List.getElem_cons_succ, List.getElem_cons_zero, Act.put, List.setIfInBounds_toArray, List.set_cons_zero, List.set_cons_succ]
              refine wpAnyE_take (i := 16) (v := undef) [19, 18, 17] rfl (by kernel_rfl) (fun _ _ _ h => h) (Or.inr ⟨by rfl, rfl⟩) hS ?_
              try simp only [List.getElem_toArray, List.getElem_cons_succ, List.getElem_cons_zero, Act.put, List.setIfInBounds_toArray, List.set_cons_zero, List.set_cons_succ]
              refine wpAnyE_take (i := 17) (v := ?_) [19, 18] rfl (by kernel_rfl) (fun _ _ _ h => h) (Or.inl ⟨by rfl, ?_⟩) hS ?_
              rotate_left
              · rintro wx s1
                go_simp
                with_reducible rfl
              try simp only [List.getElem_toArray, List.getElem_cons_succ, List.getElem_cons_zero, Act.put, List.setIfInBounds_toArray, List.set_cons_zero, List.set_cons_succ]
              refine wpAnyE_take (i := 18) (v := ?_) [19] rfl (by kernel_rfl) (fun _ _ _ h => h) (Or.inl ⟨by rfl, ?_⟩) hS ?_
              rotate_left
              · rintro wx s1
                go_simp
                with_reducible rfl
              try simp only [List.getElem_toArray, List.getElem_cons_succ, List.getElem_cons_zero, Act.put, List.setIfInBounds_toArray, List.set_cons_zero, List.set_cons_succ]
              refine wpAnyE_take (i := 19) (v := ?_) [] rfl (by kernel_rfl) (fun _ _ _ h => h) (Or.inl ⟨by rfl, ?_⟩) hS ?_
              rotate_left
              · rintro wx s1
                go_simp
                with_reducible rfl
              try simp only [List.getElem_toArray, List.getElem_cons_succ, List.getElem_cons_zero, Act.put, List.setIfInBounds_toArray, List.set_cons_zero, List.set_cons_succ]
              refine wpAnyE_take (i := 20) (v := ?_) [27, 22, 21] rfl (by kernel_rfl) (fun _ _ _ h => h) (Or.inl ⟨by rfl, ?_⟩) hS ?_
              rotate_left
              · rintro wx s1
                go_simp
                with_reducible rfl
              try simp only [List.getElem_toArray, List.getElem_cons_succ, List.getElem_cons_zero, Act.put, List.setIfInBounds_toArray, List.set_cons_zero, List.set_cons_succ]
              refine wpAnyE_take (i := 21) (v := ?_) [27, 22] rfl (by kernel_rfl) (fun _ _ _ h => h) (Or.inl ⟨by rfl, ?_⟩) hS ?_
              rotate_left
              · rintro wx s1
                go_simp
                with_reducible rfl
              try simp only [List.getElem_toArray, List.getElem_cons_succ, List.getElem_cons_zero, Act.put, List.setIfInBounds_toArray, List.set_cons_zero, List.set_cons_succ]
              refine wpAnyE_take (i := 22) (v := ?_) [27] rfl (by kernel_rfl) (fun _ _ _ h => h) (Or.inl ⟨by rfl, ?_⟩) hS ?_
              rotate_left
              · rintro wx s1
                go_simp
                with_reducible rfl
              try simp only [List.getElem_toArray, List.getElem_cons_succ, List.getElem_cons_zero, Act.put, List.setIfInBounds_toArray, List.set_cons_zero, List.set_cons_succ]
              refine wpAnyE_take (i := 23) (v := (.agg zout)) [27, 26, 25] rfl (by kernel_rfl) (fun _ _ _ h => h) (Or.inl ⟨by rfl, ?_⟩) hS ?_
              · rintro wx s1
                refine run_load_blk 49 (.tmp 14) ?_ g14 ?_ 49 _ _ (X3 _ s1) Try.underlying49 ?_ ?_
                · rfl
                · rfl
                · rfl
                · exact hri1
              try simp only [List.getElem_toArray, List.getElem_cons_succ, List.getElem_cons_zero, Act.put, List.setIfInBounds_toArray, List.set_cons_zero, List.set_cons_succ]
              refine wpAnyE_take (i := 24) (v := (.agg zout)) [27, 26, 25] rfl (by kernel_rfl) (fun _ _ _ h => h) (Or.inl ⟨by rfl, ?_⟩) hS ?_
              · rintro wx s1
                refine run_build_op 56 #[] ?_ _ ?_
                · rfl
                · simpa using hbz
              try simp only [List.getElem_toArray, List.getElem_cons_succ, List.getElem_cons_zero, Act.put, List.setIfInBounds_toArray, List.set_cons_zero, List.set_cons_succ]
              refine wpAnyE_one (i := 25) (by kernel_rfl) (by kernel_rfl) rfl (by rfl) fun K hK => ?_
              go_simp
              refine (hsame0 _).mono ?_
              rintro e wC ⟨rfl, hbC⟩
              have hS : Upd nob Wd wC := hS.trans (Upd.of_below hbC)
              refine hK _ _ hS ?_
              clear hK K
              try simp only [List.getElem_toArray, List.getElem_cons_succ, List.getElem_cons_zero, Act.put, List.setIfInBounds_toArray, List.set_cons_zero, List.set_cons_succ]
              refine wpAnyE_take (i := 26) (v := ?_) [27] rfl (by kernel_rfl) (fun _ _ _ h => h) (Or.inl ⟨by rfl, ?_⟩) hS ?_
              rotate_left
              · rintro wx s1
                go_simp
                with_reducible rfl
              try simp only [List.getElem_toArray, List.getElem_cons_succ, List.getElem_cons_zero, Act.put, List.setIfInBounds_toArray, List.set_cons_zero, List.set_cons_succ]
              refine wpAnyE_take (i := 27) (v := ?_) [] rfl (by kernel_rfl) (fun _ _ _ h => h) (Or.inl ⟨by rfl, ?_⟩) hS ?_
              rotate_left
              · rintro wx s1
                go_simp
                with_reducible rfl
              try simp only [List.getElem_toArray, List.getElem_cons_succ, List.getElem_cons_zero, Act.put, List.setIfInBounds_toArray, List.set_cons_zero, List.set_cons_succ]
              refine wpAnyE_z (by kernel_rfl) rfl (by rfl) fun K hK => ?_
              go_simp
              refine hK _ _ ?_
              clear hK K
              try simp only [List.getElem_toArray, List.getElem_cons_succ, List.getElem_cons_zero, Act.put, List.setIfInBounds_toArray, List.set_cons_zero, List.set_cons_succ]
              refine wpAny_done (by kernel_rfl) ?_ _
              refine NoPanic.normal ?_
              go_wp2_with fail
              exact HTAIL.out _ _ _ _ _ _ _ _ _ _ _ _ _ _ _ _ _ _ _ _ _ _ _ _ _ _ _ _ _ _ _ _ _ _ _ _ _ _ _ _ _ _ _ _ _ _ _ _ _ _ _ _ _ _ _ _ _ _ _ _ _ _ _ _ _ _ _ _ _ _ _ _ _ _ _ _ _ _ _ _ _ _ _ _ _ _ _ _ _ _ _ _ _ _ _ _ _ _ _ _ _ _ _ _ _ _ _ _ _ _ _ _ _ _ _ _ _ _ _ _  _ _ _ _ (fin _ hS).1 hM (fin _ hS).2
    · by_cases hil : i < l.length
      · have d1 : decide ((i : Int) < l.length) = true := by simp [hil]
        have d2 : decide ((i : Int) < 80) = false := by simp; omega
        go_wp2_with fail
        refine (awake_any _).mono ?_
        rintro e wE ⟨rfl, hbE⟩
        go_wp2_with fail
        go_ret
        exact ⟨rfl, (hu.trans (Upd.of_below hbE)).below⟩
      · have d1 : decide ((i : Int) < l.length) = false := by simp; omega
        go_wp2_with fail
        refine (awake_any _).mono ?_
        rintro e wE ⟨rfl, hbE⟩
        go_wp2_with fail
        go_ret
        exact ⟨rfl, (hu.trans (Upd.of_below hbE)).below⟩
end Go.Proofs.Ytdpnpkleobjkfaa
