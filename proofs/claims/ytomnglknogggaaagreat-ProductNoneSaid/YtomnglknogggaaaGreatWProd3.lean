/- What Now and the step of a tick do on a product. No condition. -/
import Derived.Test.YtomnglknogggaaaGreatWProd2
namespace Go.Priory
open Go.RowKit Go.Proofs
set_option maxRecDepth 100000

section
variable {R : Nat → PKind} {b : Nat} {A : PAddr} {st : ProdSt}
structure ProdOk (st : ProdSt) : Prop where
  sched : SchedOk st.sched
  parts : ∀ x ∈ st.sched.wins, 0 ≤ x.1 ∧ x.1 < st.cells.length
  cells : ∀ c ∈ st.cells, CellOk0 c
theorem ProdOk.part (h : ProdOk st) : 0 ≤ partE st.sched ∧ partE st.sched < st.cells.length := by
  have hat := h.sched.at_lt
  have := h.parts (st.sched.wins[st.sched.at_]) (List.getElem_mem _)
  unfold partE
  rw [List.getElem?_eq_getElem hat]
  exact this
theorem ProdOk.cell (h : ProdOk st) : ∃ c, st.cells[(partE st.sched).toNat]? = some c := by
  obtain ⟨h1, h2⟩ := h.part
  exact ⟨st.cells[(partE st.sched).toNat]'(by omega), by rw [List.getElem?_eq_getElem]⟩
def pidOf (c : CellSt) : Int := (c.row.head?).getD 0
theorem store5 {W : World} {B : Nat} {x1 x2 x3 x4 x5 y1 y2 y3 y4 y5 : Value} (hB : Blk W B [y1, y2, y3, y4, y5]) :
    Blk (((((W.setCell ⟨B, 0, none⟩ x1).setCell ⟨B, 1, none⟩ x2).setCell ⟨B, 2, none⟩ x3).setCell ⟨B, 3, none⟩ x4).setCell ⟨B, 4, none⟩ x5) B [x1, x2, x3, x4, x5] ∧
    Fr (fun b => b = B) W (((((W.setCell ⟨B, 0, none⟩ x1).setCell ⟨B, 1, none⟩ x2).setCell ⟨B, 2, none⟩ x3).setCell ⟨B, 3, none⟩ x4).setCell ⟨B, 4, none⟩ x5) :=
  ⟨((((hB.set 0 x1).set 1 x2).set 2 x3).set 3 x4).set 4 x5, (((((Fr.refl (fun b => b = B) W).setCell ⟨B, 0, none⟩ x1 (fun _ => rfl)).setCell ⟨B, 1, none⟩ x2 (fun _ => rfl)).setCell ⟨B, 2, none⟩ x3 (fun _ => rfl)).setCell ⟨B, 3, none⟩ x4 (fun _ => rfl)).setCell ⟨B, 4, none⟩ x5 (fun _ => rfl)⟩
/-- The cell of a number, as it is read out of a product. -/
structure PView (w : World) (b : Nat) (A : PAddr) (n : Nat) (i : Nat) (lb off cap : Nat) : Prop where
  p0 : w.cell? ⟨b, 0, none⟩ = some (.pointer (some ⟨A.s, 0, none⟩))
  p1 : w.cell? ⟨b, 1, none⟩ = some (.pointer (some ⟨A.q, 0, none⟩))
  p2 : w.cell? ⟨b, 2, none⟩ = some (.slice (some ⟨lb, off, none⟩) n cap)
  pc : w.cell? ⟨lb, off + i, none⟩ = some (.pointer (some ⟨A.c i, 0, none⟩))
theorem ProdAt.view {w : World} (h : ProdAt R w b A st) : ∃ lb off cap, ∀ i, i < st.cells.length → ∀ w', Fr Nil w w' → PView w' b A st.cells.length i lb off cap := by
  obtain ⟨v, hb, a, m, c, rfl, hlen, hmax, hcc⟩ := h.blk
  rw [cellPtrs_len] at hlen
  obtain rfl : m = st.cells.length := by omega
  rcases hcc with hz | ⟨lb, off, rfl, hp, hcc⟩
  · exact absurd (List.eq_nil_of_length_eq_zero hz) h.some_
  · refine ⟨lb, off, c, fun i hi w' f => ?_⟩
    have hb' := (hb.fr f (fun h => h)).cell
    have e1 := hcc _ _ (cellPtrs_get hi)
    exact ⟨hb' 0, hb' 1, hb' 2, cell_nil e1 f⟩
set_option maxHeartbeats 2000000 in
theorem pnow_any (w : World) (h : ProdAt R w b A st) (hok : ProdOk st) {c : CellSt} (hc : st.cells[(partE st.sched).toNat]? = some c) :
    Calls Tryz.prog 40 #[.pointer (some ⟨b, 0, none⟩)] w fun e w' => e = .returned (.tuple #[.int .i64 (partE st.sched), .int .i64 (pidOf c)]) ∧ Fr Nil w w' := by
  obtain ⟨lb, off, cap, hv⟩ := h.view
  obtain ⟨hp1, hp2⟩ := hok.part
  obtain ⟨i, hi⟩ : ∃ i : Nat, partE st.sched = i := ⟨(partE st.sched).toNat, by omega⟩
  rw [hi] at hp1 hp2 hc ⊢
  rw [Int.toNat_natCast] at hc
  have hv2 := hv i (by omega)
  have k0 := pnone_any w h
  have vv : ∀ (x : Cls Nil w.drew), PView x.w b A st.cells.length i lb off cap := fun x => hv2 x.w ((Fr.refl Nil w).drew.trans x.fr (fun _ _ h => h))
  have v0 : ∀ (x : Cls Nil w.drew), x.w.cell? ⟨b, 0, none⟩ = some (.pointer (some ⟨A.s, 0, none⟩)) := fun x => (vv x).p0
  have v2 : ∀ (x : Cls Nil w.drew), x.w.cell? ⟨b, 2, none⟩ = some (.slice (some ⟨lb, off, none⟩) st.cells.length cap) := fun x => (vv x).p2
  have v3 : ∀ (x : Cls Nil w.drew), x.w.cell? ⟨lb, off + i, none⟩ = some (.pointer (some ⟨A.c i, 0, none⟩)) := fun x => (vv x).pc
  have hPa : ∀ (x : Cls Nil w.drew), Calls Tryz.prog 85 #[.pointer (some ⟨A.s, 0, none⟩)] x.w fun e w' => e = .returned (.int .i64 i) ∧ Fr Nil x.w w' := fun x => by
    have f := (Fr.refl Nil w).drew.trans x.fr (fun _ _ h => h)
    refine (spart_any x.w (h.nil f).sched hok.sched).mono ?_
    rintro e w' ⟨rfl, f2⟩
    exact ⟨by rw [hi], f2⟩
  have hPi : ∀ (x : Cls Nil w.drew), Calls Tryz.prog 28 #[.pointer (some ⟨A.c i, 0, none⟩)] x.w fun e w' => e = .returned (.int .i64 (pidOf c)) ∧ Fr Nil x.w w' := fun x => by
    have f := (Fr.refl Nil w).drew.trans x.fr (fun _ _ h => h)
    refine (cpid_any x.w ((h.nil f).cells i c hc).1).mono ?_
    rintro e w' ⟨rfl, f2⟩
    exact ⟨rfl, f2⟩
  have hlen := h.few
  clear vv hv hv2 hi hc
  go_enter Tryz.func40, Tryz.ntmps40
  go_wp2_with (go_at_call 84; refine k0.mono ?_; clear k0; rintro e w1 ⟨rfl, rfl⟩)
  refine wp_draw_all Nil (by kernel_rfl) (by kernel_rfl) (by kernel_rfl) ?_
  repeat (go_big_quiet_step (((first | (go_at_call 85; exact Calls.cls (hPa _) (fun _ h => h)) | (go_at_call 28; exact Calls.cls (hPi _) (fun _ h => h))))))
  refine wpQuiet_nil ?_
  intro z
  go_wp2
  go_ret2
  exact ⟨rfl, (Fr.refl Nil w).drew.trans z.fr (fun _ _ h => h)⟩
def turnSt (c : CellSt) : CellSt := { c with row := turnN c.row }
def tickP (st : ProdSt) : ProdSt := { st with sched := tickS st.sched, cells := match st.cells[(partE st.sched).toNat]? with | some c => st.cells.set (partE st.sched).toNat (turnSt c) | none => st.cells }
def obsTick (st : ProdSt) : Value := obsVal (partE st.sched) (match st.cells[(partE st.sched).toNat]? with | some c => pidOf c | none => 0) 0 st.sched.ticks st.sched.at_
theorem tickP_ok (hok : ProdOk st) (ht : st.sched.ticks + 1 < 1000000) : ProdOk (tickP st) := by
  obtain ⟨c, hc⟩ := hok.cell
  have e : tickP st = { st with sched := tickS st.sched, cells := st.cells.set (partE st.sched).toNat (turnSt c) } := by unfold tickP; rw [hc]
  rw [e]
  refine ⟨tick_ok hok.sched ht, fun x hx => ?_, fun d hd => ?_⟩
  · have hx' : x ∈ (tickS st.sched).wins := hx
    have e2 : (tickS st.sched).wins = st.sched.wins := by unfold tickS; split <;> rfl
    rw [e2] at hx'
    have := hok.parts x hx'
    show 0 ≤ x.1 ∧ x.1 < (st.cells.set (partE st.sched).toNat (turnSt c)).length
    rw [List.length_set]; exact this
  · rcases List.mem_or_eq_of_mem_set hd with h | rfl
    · exact hok.cells d h
    · have := hok.cells c (List.mem_of_getElem? hc)
      exact ⟨this.men, this.man, this.keys, this.nodes, turn_ok this.row⟩
set_option maxHeartbeats 4000000 in
theorem pstep_tick (w : World) (h : ProdAt R w b A st) (hok : ProdOk st) (ht : st.sched.ticks + 1 < 1000000) (r a : Int) :
    Calls Tryz.prog 39 #[.pointer (some ⟨b, 0, none⟩), .agg #[.int .i64 1, .int .i64 r, .int .u32 a]] w fun e w' => e = .returned (obsTick (tickP st)) ∧ ∃ R' A', ProdAt R' w' b A' (tickP st) ∧ Fr (fun x => R x ≠ .no) w w' ∧ ∀ x, R' x ≠ .no → R x ≠ .no ∨ w.heap.size ≤ x := by
  obtain ⟨c, hc⟩ := hok.cell
  have hok2 := tickP_ok hok ht
  obtain ⟨c2, hc2⟩ := hok2.cell
  have HE := Lib.hid (show obsTick (tickP st) = .agg #[.int .i64 (partE (tickS st.sched)), .int .i64 (pidOf c2), .int .i64 0, .int .u32 (st.sched.ticks + 1), .int .u32 ((tickS st.sched).at_ : Int)] by
    unfold obsTick obsVal; rw [hc2]
    have : (tickP st).sched.ticks = st.sched.ticks + 1 := by show (tickS st.sched).ticks = _; unfold tickS; split <;> rfl
    rw [this]; rfl)
  obtain ⟨hp1, hp2⟩ := hok.part
  obtain ⟨i, hi⟩ : ∃ i : Nat, partE st.sched = i := ⟨(partE st.sched).toNat, by omega⟩
  have eT : tickP st = { st with sched := tickS st.sched, cells := st.cells.set i (turnSt c) } := by unfold tickP; rw [hc, hi, Int.toNat_natCast]
  rw [hi] at hp1 hp2 hc
  rw [Int.toNat_natCast] at hc
  have ET := Lib.hid eT
  clear eT
  obtain ⟨B, hB⟩ : ∃ B, w.heap.size = B := ⟨_, rfl⟩
  have f0 : Fr Nil w ((w.alloc (.cells #[.int .i64 1, .int .i64 r, .int .u32 a] 43)).alloc (.cells #[.int .i64 0, .int .i64 0, .int .i64 0, .int .u32 0, .int .u32 0] 63)) := ((Fr.refl _ _).alloc _).alloc _
  have hE := (Blk.new w [.int .i64 1, .int .i64 r, .int .u32 a] 43).alloc (.cells #[.int .i64 0, .int .i64 0, .int .i64 0, .int .u32 0, .int .u32 0] 63)
  have hO := Blk.new (w.alloc (.cells #[.int .i64 1, .int .i64 r, .int .u32 a] 43)) [.int .i64 0, .int .i64 0, .int .i64 0, .int .u32 0, .int .u32 0] 63
  rw [World.size_alloc] at hO
  have hlo := h.lo
  obtain ⟨W0, hW0⟩ : ∃ W0, (w.alloc (.cells #[.int .i64 1, .int .i64 r, .int .u32 a] 43)).alloc (.cells #[.int .i64 0, .int .i64 0, .int .i64 0, .int .u32 0, .int .u32 0] 63) = W0 := ⟨_, rfl⟩
  rw [hW0] at f0 hE hO
  rw [hB] at hE hO hlo
  have h0 := h.nil f0
  obtain ⟨lb, off, cap, hv⟩ := h0.view
  have hv2 := hv i (by omega)
  have k0 := pnone_any W0 h0
  have vv : ∀ (x : UCls (Fr Nil W0.drew)), PView x.w b A st.cells.length i lb off cap := fun x => hv2 x.w ((Fr.refl Nil W0).drew.trans x.fr (fun _ _ h => h))
  have v0 : ∀ (x : UCls (Fr Nil W0.drew)), x.w.cell? ⟨b, 0, none⟩ = some (.pointer (some ⟨A.s, 0, none⟩)) := fun x => (vv x).p0
  have v2 : ∀ (x : UCls (Fr Nil W0.drew)), x.w.cell? ⟨b, 2, none⟩ = some (.slice (some ⟨lb, off, none⟩) st.cells.length cap) := fun x => (vv x).p2
  have v3 : ∀ (x : UCls (Fr Nil W0.drew)), x.w.cell? ⟨lb, off + i, none⟩ = some (.pointer (some ⟨A.c i, 0, none⟩)) := fun x => (vv x).pc
  have hPa : ∀ (x : UCls (Fr Nil W0.drew)), Calls Tryz.prog 85 #[.pointer (some ⟨A.s, 0, none⟩)] x.w fun e w' => e = .returned (.int .i64 i) ∧ Fr Nil W0.drew w' := fun x => by
    have f := (Fr.refl Nil W0).drew.trans x.fr (fun _ _ h => h)
    refine (spart_any x.w (h0.nil f).sched hok.sched).mono ?_
    rintro e w' ⟨rfl, f2⟩
    exact ⟨by rw [hi], x.fr.trans f2 (fun _ _ h => h)⟩
  have hlen := h.few
  have cE := hE.cell
  have hrow := (hok.cells c (List.mem_of_getElem? hc)).row
  have HC := Lib.hid hc
  have HI := Lib.hid hi
  have HC2 := Lib.hid hc2
  have h0s : R A.s ≠ .no := by rw [h.ks]; simp
  clear vv hv hv2 hi hc hc2 h
  go_enter Tryz.func39, Tryz.ntmps39
  go_wp2_with (go_at_call 84; refine k0.mono ?_; clear k0; rintro e w1 ⟨rfl, rfl⟩)
  refine wp_draw_first [true, true, true, true, true, true, true, true, true, true, true, false] Nil (by kernel_rfl) (by kernel_rfl) (by kernel_rfl) (by kernel_rfl) ?_
  simp only [pickL, restL]
  repeat (go_big_quiet_step (((go_at_call 85; exact Calls.u (hPa _)))))
  refine wpQuiet_nil ?_
  intro z
  have fz : Fr Nil W0 z.w := (Fr.refl Nil _).drew.trans z.fr (fun _ _ h => h)
  have fz' : W0.heap.size ≤ z.w.heap.size ∧ B + 2 ≤ W0.heap.size := ⟨fz.size, by have := hO.lt; omega⟩
  have hz := h0.nil fz
  refine wpSeq_step (fun K hK => ?_)
  go_simp
  refine (cturn_any z.w (hz.cells i c HC.out).1 hrow).mono ?_
  rintro e W3 ⟨rfl, C3, F3⟩
  obtain ⟨R3, P3, r31, r32⟩ := hz.turnCell HC.out (Grew.same F3) C3
  refine ⟨_, rfl, ?_⟩
  first | refine ⟨trivial, hK _ _ (wpSeq_nil ?_)⟩ | refine hK _ _ (wpSeq_nil ?_)
  have own : ∀ x, Own (A.k i) x → R x = .cell i := (h0.cells i c HC.out).2
  have hO3 := (hO.fr fz (fun h => h)).fr F3 (fun ho => by have := hlo _ (by rw [own _ ho]; simp); omega)
  obtain ⟨A3, hA3⟩ : ∃ A3 : PAddr, { A with k := upd A.k i (A.k i), a := upd A.a i (A.a i) } = A3 := ⟨_, rfl⟩
  have eS : A3.s = A.s := by rw [← hA3]
  rw [hA3] at P3
  have F30 : Fr (fun x => R x ≠ .no) w W3 := ((f0.trans fz (fun _ _ h => h)).mono (T := fun x => R x ≠ .no) (fun _ h => h.elim)).trans F3 (fun x _ hx => by rw [own x hx]; simp)
  obtain ⟨lb3, off3, cap3, hv3⟩ := P3.view
  have w0 : W3.cell? ⟨b, 0, none⟩ = some (.pointer (some ⟨A3.s, 0, none⟩)) := (hv3 i (by show i < (st.cells.set i (turnSt c)).length; rw [List.length_set]; omega) W3 (Fr.refl _ _)).p0
  have hT := tick_any W3 P3.sched hok.sched (by rw [P3.ks]; simp) ht
  have HA3 := Lib.hid hA3
  have ES := Lib.hid eS
  clear hv3 v0 v2 v3 hPa hz h0 hA3 eS C3 cE hE
  go_wp2_with (go_at_call 86; refine hT.mono ?_; clear hT; rintro e W5 ⟨rfl, T5, f5⟩)
  have P5 := P3.turnSched f5 T5
  replace P5 : ProdAt R3 W5 b A3 (tickP st) := by rw [ET.out]; exact P5
  have F50 : Fr (fun x => R x ≠ .no) w W5 := F30.trans f5 (fun x hx e => by
    rw [e, ES.out]
    exact h0s)
  have hO5 := hO3.fr f5 (fun e => by have := hlo _ h0s; rw [ES.out] at e; omega)
  obtain ⟨lb5, off5, cap5, hv5⟩ := P5.view
  obtain ⟨q1, q2⟩ := hok2.part
  obtain ⟨j, hj⟩ : ∃ j : Nat, partE (tickP st).sched = j := ⟨(partE (tickP st).sched).toNat, by omega⟩
  have hc2 := HC2.out
  have eP : partE (tickS st.sched) = partE (tickP st).sched := rfl
  rw [hj] at q1 q2 hc2
  rw [Int.toNat_natCast] at hc2
  have hv2 := hv5 j (by omega)
  have vv : ∀ (x : UCls (Fr Nil W5.drew)), PView x.w b A3 (tickP st).cells.length j lb5 off5 cap5 := fun x => hv2 x.w ((Fr.refl Nil W5).drew.trans x.fr (fun _ _ h => h))
  have v0 : ∀ (x : UCls (Fr Nil W5.drew)), x.w.cell? ⟨b, 0, none⟩ = some (.pointer (some ⟨A3.s, 0, none⟩)) := fun x => (vv x).p0
  have v2 : ∀ (x : UCls (Fr Nil W5.drew)), x.w.cell? ⟨b, 2, none⟩ = some (.slice (some ⟨lb5, off5, none⟩) (tickP st).cells.length cap5) := fun x => (vv x).p2
  have v3 : ∀ (x : UCls (Fr Nil W5.drew)), x.w.cell? ⟨lb5, off5 + j, none⟩ = some (.pointer (some ⟨A3.c j, 0, none⟩)) := fun x => (vv x).pc
  have P5' : ∀ (x : UCls (Fr Nil W5.drew)), ProdAt R3 x.w b A3 (tickP st) := fun x => P5.nil ((Fr.refl Nil W5).drew.trans x.fr (fun _ _ h => h))
  have hPi : ∀ (x : UCls (Fr Nil W5.drew)), Calls Tryz.prog 28 #[.pointer (some ⟨A3.c j, 0, none⟩)] x.w fun e w' => e = .returned (.int .i64 (pidOf c2)) ∧ Fr Nil W5.drew w' := fun x => by
    refine (cpid_any x.w ((P5' x).cells j c2 hc2).1).mono ?_
    rintro e w' ⟨rfl, f2⟩
    exact ⟨rfl, x.fr.trans f2 (fun _ _ h => h)⟩
  have eti : (tickP st).sched.ticks = st.sched.ticks + 1 := by show (tickS st.sched).ticks = _; unfold tickS; split <;> rfl
  have hTi : ∀ (x : UCls (Fr Nil W5.drew)), Calls Tryz.prog 87 #[.pointer (some ⟨A3.s, 0, none⟩)] x.w fun e w' => e = .returned (.int .u64 (st.sched.ticks + 1)) ∧ Fr Nil W5.drew w' := fun x => by
    refine (sticks_any x.w (P5' x).sched hok2.sched).mono ?_
    rintro e w' ⟨rfl, rfl⟩
    exact ⟨by rw [eti], x.fr⟩
  have hWi : ∀ (x : UCls (Fr Nil W5.drew)), Calls Tryz.prog 88 #[.pointer (some ⟨A3.s, 0, none⟩)] x.w fun e w' => e = .returned (.int .i64 ((tickS st.sched).at_ : Int)) ∧ Fr Nil W5.drew w' := fun x => by
    refine (swindow_any x.w (P5' x).sched hok2.sched).mono ?_
    rintro e w' ⟨rfl, rfl⟩
    exact ⟨rfl, x.fr⟩
  have hfew5 := P5.few
  have t0 := hok.sched.lo
  have m0 : (0 : Int) ≤ ((tickS st.sched).at_ : Int) := by omega
  have m1 : ((tickS st.sched).at_ : Int) < 32 := by have h1 := hok2.sched.at_lt; have h2 := hok2.sched.few; have e : (tickP st).sched = tickS st.sched := rfl; rw [e] at h1 h2; omega
  have EP := Lib.hid (eP.trans hj)
  rw [eP, hj]
  clear vv hv5 hv2 hj eP hc2 eti P5' T5 hO3 w0
  refine wp_draw_first [true, true, true, true, true, true, true, true, true, true, true, true, true, true, true, true, true, true, true, true, true, true, false] Nil (by kernel_rfl) (by kernel_rfl) (by kernel_rfl) (by kernel_rfl) ?_
  simp only [pickL, restL]
  repeat (go_big_quiet_step (((first | (go_at_call 28; exact Calls.u (hPi _)) | (go_at_call 87; exact Calls.u (hTi _)) | (go_at_call 88; exact Calls.u (hWi _))))))
  refine wpQuiet_nil ?_
  intro y
  have hOy := (hO5.drew.fr y.fr (fun h => h))
  have rc := hOy.cell
  have rz := hOy.frozen
  refine wpSeq_step (fun K hK => ?_)
  go_simp
  first | refine ⟨trivial, hK _ _ (wpSeq_nil ?_)⟩ | refine hK _ _ (wpSeq_nil ?_)
  go_wp2
  obtain ⟨hB9, F9⟩ := store5 (x1 := .int .i64 j) (x2 := .int .i64 (pidOf c2)) (x3 := .int .i64 0) (x4 := .int .u32 (st.sched.ticks + 1)) (x5 := .int .u32 ((tickS st.sched).at_ : Int)) hOy
  have c9 := hB9.cell
  have sz0 : B + 2 ≤ z.w.heap.size := by omega
  have hno : R3 (B + 1) = .no := Classical.byContradiction fun hne => by
    rcases r32 _ hne with h | h
    · have := hlo _ h; omega
    · omega
  have hfin := ((P5.nil (Fr.refl Nil _).drew).nil y.fr).frOther F9 (fun x e => by rw [e]; exact hno)
  have FF : Fr (fun x => R x ≠ .no) w _ := ((F50.drew).trans y.fr (fun _ _ h => h.elim)).trans F9 (fun x hx e => by omega)
  generalize (((((y.w.setCell ⟨B + 1, 0, none⟩ (.int .i64 j)).setCell ⟨B + 1, 1, none⟩ (.int .i64 (pidOf c2))).setCell ⟨B + 1, 2, none⟩ (.int .i64 0)).setCell ⟨B + 1, 3, none⟩ (.int .u32 (st.sched.ticks + 1))).setCell ⟨B + 1, 4, none⟩ (.int .u32 ((tickS st.sched).at_ : Int))) = W9 at *
  refine ⟨rfl, .agg #[.int .i64 j, .int .i64 (pidOf c2), .int .i64 0, .int .u32 (st.sched.ticks + 1), .int .u32 ((tickS st.sched).at_ : Int)], ?_, ?_, R3, A3, hfin, FF, fun x hx => ?_⟩
  · simp [results, Tryz.results39, go_sem, c9]
  · rw [HE.out, EP.out]
  · rcases r32 x hx with h | h
    · exact .inl h
    · exact .inr (by omega)
end
end Go.Priory
