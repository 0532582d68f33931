/- What cell.New does where all is well. No condition. -/
import Derived.Test.YtomnglknogggaaaGreatWNew
namespace Go.Priory
open Go.RowKit Go.Proofs
set_option maxRecDepth 100000

def emptyMan : Man := ⟨[0, 0, 0, 0, 0, 0, 0, 0], [], []⟩
def newSt0 (n slots quota : Int) : CellSt := ⟨n, slots, [(1, newProc)], [(1, ⟨0, quota, 0⟩)], [], []⟩
def newSt (n slots quota : Int) : CellSt := beginSt (newSt0 n slots quota) 1 emptyMan
theorem queueNew_ex (w : World) : Calls Tryz.prog 64 #[] w fun e w' => ∃ rb, rb = w.heap.size ∧ e = .returned (.pointer (some ⟨rb, 0, none⟩)) ∧ QueueIs w' rb [] ∧ Fr Nil w w' ∧ w'.heap.size = rb + 1 :=
  (queueNew_any w).mono fun _ _ ⟨h1, h2, h3, h4⟩ => ⟨_, rfl, h1, h2, h3, h4⟩
theorem Fr.mapNew {S : Nat → Prop} {a w : World} (_h : Fr S a w) : ∃ lm, w.heap.size = lm ∧ MapIs (w.alloc (.map #[] 0)) lm [] ∧ (w.alloc (.map #[] 0)).heap.size = lm + 1 := ⟨_, rfl, MapIs.new w, by simp⟩
theorem Fr.blkNew' {S : Nat → Prop} {a w : World} (_h : Fr S a w) (c : List Value) (T : TypeId) : ∃ b, w.heap.size = b ∧ Blk (w.alloc (.cells c.toArray T)) b c := ⟨_, rfl, Blk.new w c T⟩
set_option maxHeartbeats 4000000 in
theorem cellNew_any {p pq : Nat → Prop} {v : Value} {c : Conf} {q bl : Nat} {s : Qs} {rb : Nat → Option Nat} (w : World) (h : ConfIs p w v c) (n : Int) (hq : QueuesAt pq w q s bl rb) (hok : checkE c = 0)
    (h0 : 0 ≤ n) (x : Int × Int) (hx : c.parts[n.toNat]? = some x) (hsame : c = s.conf) :
    Calls Tryz.prog 24 #[v, .int .i64 n, .pointer (some ⟨q, 0, none⟩)] w fun e w' => (∃ k cb A, e = .returned (.tuple #[.pointer (some ⟨cb, 0, none⟩), .int .i64 0]) ∧
      CellAt k w' cb A (.pointer (some ⟨q, 0, none⟩)) (newSt n x.2 x.1) ∧ ∀ b, Own k b → w.heap.size ≤ b ∧ b < w'.heap.size) ∧ Fr Nil w w' := by
  have HSAME := Lib.hid hsame
  clear hsame
  obtain ⟨hn, -⟩ := checkE_ok.1 hok
  have hpo := hn.parts x (List.mem_of_getElem? hx)
  unfold partOk between at hpo
  obtain ⟨⟨o1, o2⟩, o3, o4⟩ := hpo
  have hlt : n.toNat < c.parts.length := (List.getElem?_eq_some_iff.1 hx).1
  have hlp := hn.lp.2
  have hlti : n < (c.parts.length : Int) := by omega
  have hc := h
  obtain ⟨v1, v2, v3, rfl, ⟨a1, n1, k1, rfl, hl1, hm1, hc1⟩, h2, h3⟩ := h
  rw [flat_pair_len] at hl1
  obtain rfl : n1 = c.parts.length := by omega
  have F0 : Fr Nil w (w.alloc (.cells #[.slice a1 c.parts.length k1, v2, v3] 26)) := (Fr.refl _ _).alloc _
  have B0 := Blk.new w [.slice a1 c.parts.length k1, v2, v3] 26
  have hcc := hc.nil F0
  have q1 := hq.nil F0
  rcases hc1 with hz | ⟨pb, off, rfl, -, hc1⟩
  · omega
  have e1 := hc1 _ _ (flat_pair _ _ _ hx).1
  have e2 : w.cell? ⟨pb, off + n.toNat * 2 + 1, none⟩ = some (.int .i64 x.2) := hc1 _ _ (flat_pair _ _ _ hx).2
  clear hl1 hc1 h2 h3 hc
  go_enter Tryz.func24, Tryz.ntmps24
  go_upto_region 6 with (first
    | (go_at_call 57; refine (may_any _ q1 _ _ _).mono ?_; rintro e w1 ⟨rfl, rfl⟩; rw [may_minus])
    | (go_at_call 50; refine (check_any _ hcc).mono ?_; rintro e w1 ⟨rfl, f1⟩; rw [hok]))
  have F1 := F0.trans f1 (fun _ _ h => h)
  have hcd := (hcc.nil f1).nil (Fr.refl Nil _).drew
  have qd := ((q1.nil f1).nil (Fr.refl Nil _).drew)
  obtain ⟨u1, u2, u3, qb, qc⟩ := qd.blk
  have B1 := B0.fr f1 (fun h => h)
  have cB : ∀ (x : Cls Nil w1.drew) (o : Nat), x.w.cell? ⟨w.heap.size, o, none⟩ = [Value.slice (some ⟨pb, off, none⟩) c.parts.length k1, v2, v3][o]? := B1.drew.cls (fun h => h)
  have cQ : ∀ (x : Cls Nil w1.drew) (o : Nat), x.w.cell? ⟨q, o, none⟩ = [u1, u2, u3, Value.slice (some ⟨bl, 0, none⟩) s.l.length s.l.length][o]? := qb.cls (fun h => h)
  have hN : ∀ x : Cls Nil w1.drew, Calls Tryz.prog 61 #[.agg #[.slice (some ⟨pb, off, none⟩) c.parts.length k1, v2, v3], .agg #[u1, u2, u3]] x.w fun e w' => e = .returned (.bool true) ∧ Fr Nil x.w w' := fun x => by
    have := same_is x.w (hcd.nil x.fr) (qc.nil x.fr)
    rw [sameB_true.2 HSAME.out] at this; exact this
  have hnot := run_not'
  have h0' : decide (n < 0) = false := by simp; omega
  have h1' : decide ((c.parts.length : Int) ≤ n) = false := by simp; omega
  refine wp_draw_all Nil (by kernel_rfl) (by kernel_rfl) (by kernel_rfl) ?_
  repeat (go_big_quiet_step (((go_at_call 61; exact Calls.cls (hN _) (fun _ h => h)))))
  refine wpQuiet_nil ?_
  intro z
  clear hN cQ cB hcd qd qc qb
  have F2 : Fr Nil w z.w := F1.drew.trans z.fr (fun _ _ h => h)
  have B2 := (B1.drew.fr z.fr (fun h => h))
  have cB := B2.cell
  have e1' := cell_nil e1 F2
  have e2' := cell_nil e2 F2
  go_upto_region 10 with (first
    | (go_at_call 62; refine (slotsNew_any _ _ o3 o4).mono ?_; rintro e w3 ⟨⟨tb, tm, rfl, gt, gm, hT⟩, f3⟩; have cB3 := (B2.fr f3 (fun h => h)).cell; have e13 := cell_nil e1' f3; have e23 := cell_nil e2' f3)
    | (go_at_call 63; refine (newBudget_any _ _ (by omega) (by omega)).mono ?_; rintro e w4 ⟨bb, rfl, hBu, f4⟩))
  have F3 := F2.trans f3 (fun _ _ h => h)
  have F4 := F3.trans f4 (fun _ _ h => h)
  have B4 := ((B2.fr f3 (fun h => h)).fr f4 (fun h => h))
  have e24 := cell_nil (cell_nil e23 f4) (Fr.refl Nil w4).drew
  have hT4 := hT.fr f4 (fun h => h) (fun h => h)
  have s34 := f4.size
  have s2 := F2.size
  have tmlt := hT.2.lt
  have tblt := hT.1.lt
  clear cB cB3 e1 e2 e1' e2' e13 B0 B1 B2 hcc q1
  have hmm := @run_makeMap Tryz.prog
  go_cut [13] (fun s13 wx => ∃ cb rb lm, s13 = .pointer (some ⟨cb, 0, none⟩) ∧ Fr Nil w4 wx ∧ w4.heap.size ≤ rb ∧ w4.heap.size ≤ lm ∧ rb < cb ∧ lm < cb ∧ rb ≠ lm ∧
      Blk wx cb [.int .i64 n, .int .i64 x.2, .pointer (some ⟨tb, 0, none⟩), .pointer (some ⟨bb, 0, none⟩), .pointer (some ⟨rb, 0, none⟩), .pointer (some ⟨q, 0, none⟩), .map (some lm)] ∧ QueueIs wx rb [] ∧ MapIs wx lm [])
  case first =>
    have cB : ∀ (y : UCls (Fr Nil w4.drew)) (o : Nat), y.w.cell? ⟨w.heap.size, o, none⟩ = [Value.slice (some ⟨pb, off, none⟩) c.parts.length k1, v2, v3][o]? := fun y => (B4.drew.fr y.fr (fun h => h)).cell
    have e2U : ∀ (y : UCls (Fr Nil w4.drew)), y.w.cell? ⟨pb, off + n.toNat * 2 + 1, none⟩ = some (.int .i64 x.2) := fun y => cell_nil e24 y.fr
    have hNonU : Nonempty (UCls (Fr Nil w4.drew)) := ⟨⟨_, Fr.refl _ _⟩⟩
    refine wp_draw_par [true, true, true, true, true, true, true, true, true, false, true, false, false, false, false] [9, 11, 12, 13, 14] (Fr Nil w4.drew) (Fr.refl _ _) (by kernel_rfl) (by kernel_rfl) (by kernel_rfl) ?_
    simp only [pickL]
    repeat (go_big_quiet_step (fail))
    refine wpQuiet_nil ?_
    intro y
    have hU : Fr Nil w4.drew y.w := y.fr
    have hs4 : w4.drew.heap.size = w4.heap.size := rfl
    refine wpPar_step [(9, [11, 12, 13, 14]), (11, [9, 12, 13, 14])] (by kernel_rfl) rfl (fun K hK => ?_)
    simp only [List.foldr, List.getElem?_cons_succ, List.getElem?_cons_zero, and_true, stepOp]
    refine ⟨?_, ?_⟩
    · skip
      go_simp
      refine (queueNew_ex _).mono ?_
      rintro e W9 ⟨rb, hrb, rfl, hQ, hf, hqs⟩
      have hUs9 := hU.size
      have H9 := Lib.hid (And.intro hrb (And.intro hqs hUs9))
      clear hrb hqs hUs9
      try replace hMp := hMp.fr hf (fun h => h)
      replace hU := hU.trans hf (fun _ _ h => h)
      refine ⟨_, rfl, hU, hK _ _ _ ?_⟩
      refine wpPar_step [(11, [12, 13, 14])] (by kernel_rfl) rfl (fun K hK => ?_)
      simp only [List.foldr, List.getElem?_cons_succ, List.getElem?_cons_zero, and_true, stepOp]
      go_simp
      obtain ⟨lm, hlm, hMp, hms⟩ := hU.mapNew
      have hUs11 := hU.size
      try replace hQ := hQ.fr ((Fr.refl Nil _).alloc (.map #[] 0)) (fun h => h)
      replace hU := hU.alloc (.map #[] 0)
      try simp only [World.size_alloc] at hlm
      try simp only [hlm]
      have H11 := Lib.hid (And.intro hlm (And.intro hms hUs11))
      clear hlm hms hUs11
      first | refine ⟨hU, hK _ _ _ ?_⟩ | refine hK _ _ _ ?_
      refine wpPar_step [(12, [13, 14])] (by kernel_rfl) rfl (fun K hK => ?_)
      simp only [List.foldr, List.getElem?_cons_succ, List.getElem?_cons_zero, and_true, stepOp]
      go_simp
      first | refine ⟨hU, hK _ _ _ ?_⟩ | refine hK _ _ _ ?_
      refine wpPar_step [(13, [14])] (by kernel_rfl) rfl (fun K hK => ?_)
      simp only [List.foldr, List.getElem?_cons_succ, List.getElem?_cons_zero, and_true, stepOp]
      go_simp
      obtain ⟨cb, hcb, hC⟩ := hU.blkNew' [.int .i64 n, .int .i64 x.2, .pointer (some ⟨tb, 0, none⟩), .pointer (some ⟨bb, 0, none⟩), .pointer (some ⟨rb, 0, none⟩), .pointer (some ⟨q, 0, none⟩), .map (some lm)] 96
      replace hQ := hQ.fr ((Fr.refl Nil _).alloc (.cells #[.int .i64 n, .int .i64 x.2, .pointer (some ⟨tb, 0, none⟩), .pointer (some ⟨bb, 0, none⟩), .pointer (some ⟨rb, 0, none⟩), .pointer (some ⟨q, 0, none⟩), .map (some lm)] 96)) (fun h => h)
      replace hMp := hMp.fr ((Fr.refl Nil _).alloc (.cells #[.int .i64 n, .int .i64 x.2, .pointer (some ⟨tb, 0, none⟩), .pointer (some ⟨bb, 0, none⟩), .pointer (some ⟨rb, 0, none⟩), .pointer (some ⟨q, 0, none⟩), .map (some lm)] 96)) (fun h => h)
      replace hU := hU.alloc (.cells #[.int .i64 n, .int .i64 x.2, .pointer (some ⟨tb, 0, none⟩), .pointer (some ⟨bb, 0, none⟩), .pointer (some ⟨rb, 0, none⟩), .pointer (some ⟨q, 0, none⟩), .map (some lm)] 96)
      try simp only [World.size_alloc] at hcb
      try simp only [hcb]
      have H13 := Lib.hid hcb
      clear hcb
      first | refine ⟨hU, hK _ _ _ ?_⟩ | refine hK _ _ _ ?_
      refine wpPar_step [(14, [])] (by kernel_rfl) rfl (fun K hK => ?_)
      simp only [List.foldr, List.getElem?_cons_succ, List.getElem?_cons_zero, and_true, stepOp]
      go_simp
      first | refine ⟨hU, hK _ _ _ ?_⟩ | refine hK _ _ _ ?_
      refine wpPar_nil ?_
      go_wp2
      go_meet
      have i1 := H9.out
      have i2 := H11.out
      have i3 := H13.out
      case rel => exact ⟨cb, rb, lm, rfl, (Fr.refl _ _).drew.trans hU (fun _ _ h => h), by omega, by omega, by omega, by omega, by omega, hC, hQ, hMp⟩
    · skip
      go_simp
      obtain ⟨lm, hlm, hMp, hms⟩ := hU.mapNew
      have hUs11 := hU.size
      try replace hQ := hQ.fr ((Fr.refl Nil _).alloc (.map #[] 0)) (fun h => h)
      replace hU := hU.alloc (.map #[] 0)
      try simp only [World.size_alloc] at hlm
      try simp only [hlm]
      have H11 := Lib.hid (And.intro hlm (And.intro hms hUs11))
      clear hlm hms hUs11
      first | refine ⟨hU, hK _ _ _ ?_⟩ | refine hK _ _ _ ?_
      refine wpPar_step [(9, [12, 13, 14])] (by kernel_rfl) rfl (fun K hK => ?_)
      simp only [List.foldr, List.getElem?_cons_succ, List.getElem?_cons_zero, and_true, stepOp]
      go_simp
      refine (queueNew_ex _).mono ?_
      rintro e W9 ⟨rb, hrb, rfl, hQ, hf, hqs⟩
      have hUs9 := hU.size
      have H9 := Lib.hid (And.intro hrb (And.intro hqs hUs9))
      clear hrb hqs hUs9
      try replace hMp := hMp.fr hf (fun h => h)
      replace hU := hU.trans hf (fun _ _ h => h)
      refine ⟨_, rfl, hU, hK _ _ _ ?_⟩
      refine wpPar_step [(12, [13, 14])] (by kernel_rfl) rfl (fun K hK => ?_)
      simp only [List.foldr, List.getElem?_cons_succ, List.getElem?_cons_zero, and_true, stepOp]
      go_simp
      first | refine ⟨hU, hK _ _ _ ?_⟩ | refine hK _ _ _ ?_
      refine wpPar_step [(13, [14])] (by kernel_rfl) rfl (fun K hK => ?_)
      simp only [List.foldr, List.getElem?_cons_succ, List.getElem?_cons_zero, and_true, stepOp]
      go_simp
      obtain ⟨cb, hcb, hC⟩ := hU.blkNew' [.int .i64 n, .int .i64 x.2, .pointer (some ⟨tb, 0, none⟩), .pointer (some ⟨bb, 0, none⟩), .pointer (some ⟨rb, 0, none⟩), .pointer (some ⟨q, 0, none⟩), .map (some lm)] 96
      replace hQ := hQ.fr ((Fr.refl Nil _).alloc (.cells #[.int .i64 n, .int .i64 x.2, .pointer (some ⟨tb, 0, none⟩), .pointer (some ⟨bb, 0, none⟩), .pointer (some ⟨rb, 0, none⟩), .pointer (some ⟨q, 0, none⟩), .map (some lm)] 96)) (fun h => h)
      replace hMp := hMp.fr ((Fr.refl Nil _).alloc (.cells #[.int .i64 n, .int .i64 x.2, .pointer (some ⟨tb, 0, none⟩), .pointer (some ⟨bb, 0, none⟩), .pointer (some ⟨rb, 0, none⟩), .pointer (some ⟨q, 0, none⟩), .map (some lm)] 96)) (fun h => h)
      replace hU := hU.alloc (.cells #[.int .i64 n, .int .i64 x.2, .pointer (some ⟨tb, 0, none⟩), .pointer (some ⟨bb, 0, none⟩), .pointer (some ⟨rb, 0, none⟩), .pointer (some ⟨q, 0, none⟩), .map (some lm)] 96)
      try simp only [World.size_alloc] at hcb
      try simp only [hcb]
      have H13 := Lib.hid hcb
      clear hcb
      first | refine ⟨hU, hK _ _ _ ?_⟩ | refine hK _ _ _ ?_
      refine wpPar_step [(14, [])] (by kernel_rfl) rfl (fun K hK => ?_)
      simp only [List.foldr, List.getElem?_cons_succ, List.getElem?_cons_zero, and_true, stepOp]
      go_simp
      first | refine ⟨hU, hK _ _ _ ?_⟩ | refine hK _ _ _ ?_
      refine wpPar_nil ?_
      go_wp2
      go_meet
      have i1 := H9.out
      have i2 := H11.out
      have i3 := H13.out
      case rel => exact ⟨cb, rb, lm, rfl, (Fr.refl _ _).drew.trans hU (fun _ _ h => h), by omega, by omega, by omega, by omega, by omega, hC, hQ, hMp⟩
  case rest =>
    obtain ⟨cb, rb, lm, rfl, f5, g1, g2, g3, g4, g5, hC, hQ, hMp⟩ := hcut
    have l1 := hC.lt
    have l2 := f5.size
    obtain ⟨P, hP⟩ : ∃ P, wc.heap.size = P := ⟨_, rfl⟩
    obtain ⟨W7, hW7⟩ : ∃ W7, (wc.alloc (.map #[] 0)).alloc (.cells #[.int .u32 0, .int .u32 0, .int .u32 0, .int .u32 0, .int .u32 0, .int .u32 0, .int .u32 0, .int .u32 0, .slice none 0 0, .map (some P)] 155) = W7 := ⟨_, rfl⟩
    have f7 : Fr Nil wc W7 := by rw [← hW7]; exact ((Fr.refl _ _).alloc _).alloc _
    have hMan := Blk.new (wc.alloc (.map #[] 0)) [.int .u32 0, .int .u32 0, .int .u32 0, .int .u32 0, .int .u32 0, .int .u32 0, .int .u32 0, .int .u32 0, .slice none 0 0, .map (some P)] 155
    rw [World.size_alloc, hP] at hMan
    have hPg := (MapIs.new wc).alloc (.cells #[.int .u32 0, .int .u32 0, .int .u32 0, .int .u32 0, .int .u32 0, .int .u32 0, .int .u32 0, .int .u32 0, .slice none 0 0, .map (some P)] 155)
    rw [hP] at hPg
    rw [hW7] at hMan hPg
    have s7 : W7.heap.size = P + 2 := by rw [← hW7, World.size_alloc, World.size_alloc, hP]
    let k : Nat → Kind := fun y => if y = cb then .cell else if y = tb then .table else if y = tm then .tmap else if y = rb then .row else if y = lm then .men else
      if y = P + 1 then .man 1 else if y = P then .pages 1 else if w3.heap.size ≤ y ∧ y < w4.heap.size then .budget else .no
    have n0 : tb ≠ tm := hT.1.ne_map hT.2
    have k1 : k cb = .cell := by simp [k]
    have k2 : k tb = .table := by simp [k, show tb ≠ cb by omega]
    have k3 : k tm = .tmap := by simp [k, show tm ≠ cb by omega, Ne.symm n0]
    have k4 : k rb = .row := by simp [k, show rb ≠ cb by omega, show rb ≠ tb by omega, show rb ≠ tm by omega]
    have k5 : k lm = .men := by simp [k, show lm ≠ cb by omega, show lm ≠ tb by omega, show lm ≠ tm by omega, Ne.symm g5]
    have k6 : k (P + 1) = .man 1 := by simp [k, show P + 1 ≠ cb by omega, show P + 1 ≠ tb by omega, show P + 1 ≠ tm by omega, show P + 1 ≠ rb by omega, show P + 1 ≠ lm by omega]
    have k7 : k P = .pages 1 := by simp [k, show P ≠ cb by omega, show P ≠ tb by omega, show P ≠ tm by omega, show P ≠ rb by omega, show P ≠ lm by omega]
    have k8 : ∀ y, Gr Nil w3 w4 y → k y = .budget := fun y hy => by
      rcases hy with hy | ⟨hy1, hy2⟩
      · exact hy.elim
      · simp [k, show y ≠ cb by omega, show y ≠ tb by omega, show y ≠ tm by omega, show y ≠ rb by omega, show y ≠ lm by omega, show y ≠ P + 1 by omega, show y ≠ P by omega, hy1, hy2]
    have k9 : ∀ y, Own k y → w.heap.size ≤ y ∧ y < W7.heap.size := fun y hy => by
      unfold Own at hy
      simp only [k] at hy
      repeat' split at hy
      all_goals first | exact absurd rfl hy | omega
    have hcell : CellAt k W7 cb { t := tb, tm := tm, b := bb, row := rb, lm := lm, mb := fun _ => 0, pb := fun _ => 0 } (.pointer (some ⟨q, 0, none⟩)) (newSt0 n x.2 x.1) := {
      kc := k1
      kt := k2
      ktm := k3
      krow := k4
      klm := k5
      blk := hC.fr f7 (fun h => h)
      table := (hT4.fr f5 (fun h => h) (fun h => h)).fr f7 (fun h => h) (fun h => h)
      budget := ((hBu.mono k8).nil f5).nil f7
      queue := hQ.fr f7 (fun h => h)
      men := hMp.fr f7 (fun h => h)
      man := fun p hp => by cases hp }
    have hman : ManAt k W7 (P + 1) P emptyMan := ⟨⟨.slice none 0 0, hMan, SlcIn.none _ _ _⟩, hPg⟩
    have hbeg := begin_any W7 hcell (by simp [newSt0, Sorted]) (by
        refine ⟨by simp [newSt0, Sorted], fun p hp => ?_⟩
        simp only [newSt0, List.mem_singleton] at hp
        subst hp
        simp only
        omega) ⟨by simp [newSt0], fun y hy => by simp [newSt0] at hy⟩ 1 (P + 1) P emptyMan hman k6 k7 (by simp [emptyMan, mkeys]) (by simp [emptyMan]) rfl
    clear_value k
    clear hcell hman hMan hPg hC hQ hMp hT hT4 hBu
    go_wp2_with (go_at_call 65; refine hbeg.mono ?_; rintro e w8 ⟨rfl, hfin, f8⟩)
    go_ret2
    have f8s := f8.size
    have FF : Fr Nil w w8 := ((F4.trans f5 (fun _ _ h => h)).trans f7 (fun _ _ h => h)).trans f8 (fun y hy hk => by have := k9 y hk; omega)
    exact ⟨⟨k, cb, _, rfl, hfin, fun y hy => ⟨(k9 y hy).1, by have := (k9 y hy).2; omega⟩⟩, FF⟩
end Go.Priory
