/- What cell.NewQueues does. No condition. -/
import Derived.Test.YtomnglknogggaaaGreatWQs
import Derived.Deep.DeepCutAuto
import Derived.Deep.OwnRows
namespace Go.Priory
open Go.RowKit Go.Proofs
set_option maxRecDepth 100000

theorem pairs_one (l : List (Int × Int)) : ∀ u ∈ l.flatMap pairCells, u.oneCell' = true := by
  intro u hu
  obtain ⟨x, _, hx⟩ := List.mem_flatMap.1 hu
  simp only [pairCells, List.mem_cons, List.not_mem_nil, or_false] at hx
  rcases hx with rfl | rfl <;> rfl
theorem chans_one (l : List Chan) : ∀ u ∈ l.flatMap chanCells, u.oneCell' = true := by
  intro u hu
  obtain ⟨x, _, hx⟩ := List.mem_flatMap.1 hu
  simp only [chanCells, List.mem_cons, List.not_mem_nil, or_false] at hx
  rcases hx with rfl | rfl | rfl | rfl <;> rfl
theorem checkE_ok {c : Conf} : checkE c = 0 ↔ NumbersOk c ∧ framesE c ≤ 1024 := by
  unfold checkE
  by_cases h : NumbersOk c
  · rw [if_pos h]
    by_cases hf : 1024 < framesE c
    · rw [if_pos hf]; exact ⟨fun h => by omega, fun h => by omega⟩
    · rw [if_neg hf]; exact ⟨fun _ => ⟨h, by omega⟩, fun _ => rfl⟩
  · rw [if_neg h]; exact ⟨fun h => by omega, fun h' => absurd h'.1 h⟩
def emptyQs (c : Conf) : Qs := ⟨c, c.chans.map fun _ => []⟩
theorem newQs_bad {p : Nat → Prop} {v : Value} {c : Conf} (w : World) (h : ConfIs p w v c) (hbad : checkE c ≠ 0) :
    Calls Tryz.prog 14 #[v] w fun e w' => e = .returned (.tuple #[.pointer none, .int .i64 (checkE c)]) ∧ Fr Nil w w' := by
  have hc := h
  obtain ⟨v1, v2, v3, rfl, -, -, -⟩ := h
  have F0 : Fr Nil w (w.alloc (.cells #[v1, v2, v3] 26)) := (Fr.refl _ _).alloc _
  have hc1 := hc.nil F0
  have hb : (checkE c != 0) = true := by simpa using hbad
  clear hc
  go_enter Tryz.func14, Tryz.ntmps14
  go_wp2_with (go_at_call 50; refine (check_any _ hc1).mono ?_; rintro e w1 ⟨rfl, f1⟩)
  go_ret2
  exact ⟨rfl, F0.trans f1 (fun _ _ h => h)⟩
theorem SlcIn.lt {p : Nat → Prop} {w : World} {k : Nat} {v : Value} {cs : List Value} (h : SlcIn p w k v cs) (hk : 0 < k) : SlcIn (fun b => p b ∧ b < w.heap.size) w k v cs := by
  obtain ⟨a, n, cap, e, h1, h2, h3⟩ := h
  refine ⟨a, n, cap, e, h1, h2, ?_⟩
  by_cases hn : n = 0
  · exact .inl hn
  · rcases h3 with h3 | ⟨b, off, ea, hp, hc⟩
    · exact absurd h3 hn
    · have h0 : 0 < cs.length := by rw [h1]; exact Nat.mul_pos (by omega) hk
      have := hc 0 cs[0] (by rw [List.getElem?_eq_getElem h0])
      exact .inr ⟨b, off, ea, ⟨hp, World.block_lt_of_cell? _ _ this⟩, hc⟩
theorem SlcIn.past {w : World} {x : Nat} {k : Nat} {v : Value} {cs : List Value} (h : SlcIn (fun b => x ≤ b) w k v cs) (hk : 0 < k) (o : Obj) : SlcIn (fun b => x ≤ b ∧ b ≠ w.heap.size) (w.alloc o) k v cs :=
  ((h.lt hk).mono fun b hb => ⟨hb.1, by have := hb.2; omega⟩).nil ((Fr.refl _ _).alloc _)
theorem SlcIn.made {w W W' : World} {k : Nat} {v : Value} {cs : List Value} (h : SlcIn (Gr Nil W W') W' k v cs) (hF : Fr Nil w W) : SlcIn (fun b => w.heap.size ≤ b) W' k v cs :=
  h.mono fun b hb => hb.elim (fun h => h.elim) (fun h => by have := hF.size; omega)
theorem SlcIn.made' {w W W' : World} {B k : Nat} {v : Value} {cs : List Value} (h : SlcIn (Gr Nil W W') W' k v cs) (hF : Fr Nil w W) (hB : B < W.heap.size) : SlcIn (fun b => w.heap.size ≤ b ∧ b ≠ B) W' k v cs :=
  h.mono fun b hb => hb.elim (fun h => h.elim) (fun h => by have := hF.size; omega)
theorem SlcIn.slice {p : Nat → Prop} {w : World} {k : Nat} {v : Value} {cs : List Value} (h : SlcIn p w k v cs) : ∃ a n cap, v = .slice a n cap := by
  obtain ⟨a, n, cap, e, _⟩ := h; exact ⟨a, n, cap, e⟩
theorem Fr.blkNew {S : Nat → Prop} {a w : World} (_h : Fr S a w) (c : List Value) (T : TypeId) : Blk (w.alloc (.cells c.toArray T)) w.heap.size c ∧ w.heap.size < (w.alloc (.cells c.toArray T)).heap.size := ⟨Blk.new w c T, by simp⟩
theorem store3 {W : World} {B : Nat} {x1 x2 x3 y1 y2 y3 : Value} (hB : Blk W B [y1, y2, y3]) : Blk (((W.setCell ⟨B, 0, none⟩ x1).setCell ⟨B, 1, none⟩ x2).setCell ⟨B, 2, none⟩ x3) B [x1, x2, x3] ∧
    Fr (fun b => b = B) W (((W.setCell ⟨B, 0, none⟩ x1).setCell ⟨B, 1, none⟩ x2).setCell ⟨B, 2, none⟩ x3) :=
  ⟨((hB.set 0 x1).set 1 x2).set 2 x3, (((Fr.refl (fun b => b = B) W).setCell ⟨B, 0, none⟩ x1 (fun _ => rfl)).setCell ⟨B, 1, none⟩ x2 (fun _ => rfl)).setCell ⟨B, 2, none⟩ x3 (fun _ => rfl)⟩
set_option maxHeartbeats 2000000 in
theorem newQs_any {p : Nat → Prop} {v : Value} {c : Conf} (w : World) (h : ConfIs p w v c) (hok : checkE c = 0) :
    Calls Tryz.prog 14 #[v] w fun e w' => (∃ q bl, e = .returned (.tuple #[.pointer (some ⟨q, 0, none⟩), .int .i64 0]) ∧ w.heap.size ≤ q ∧ w.heap.size ≤ bl ∧
      QueuesAt (fun b => w.heap.size ≤ b ∧ b < w'.heap.size ∧ b ≠ q ∧ b ≠ bl) w' q (emptyQs c) bl (fun _ => none)) ∧ Fr Nil w w' := by
  obtain ⟨hn, -⟩ := checkE_ok.1 hok
  have hc := h
  obtain ⟨v1, v2, v3, rfl, h1, h2, h3⟩ := h
  have F0 : Fr Nil w (w.alloc (.cells #[v1, v2, v3] 26)) := (Fr.refl _ _).alloc _
  have B0 := Blk.new w [v1, v2, v3] 26
  have hc1 := hc.nil F0
  obtain ⟨l1, l2⟩ := hn.lp
  obtain ⟨l3, l4⟩ := hn.lw
  have l5 := hn.lc
  clear hc
  go_enter Tryz.func14, Tryz.ntmps14
  go_upto_region 4 with (go_at_call 50; refine (check_any _ hc1).mono ?_; rintro e w1 ⟨rfl, f1⟩; rw [hok])
  have F1 := F0.trans f1 (fun _ _ h => h)
  have B1 := B0.fr f1 (fun h => h)
  have g1 := h1.nil F1
  have g2 := h2.nil F1
  have g3 := h3.nil F1
  go_cut [5] (fun s5 wx => ∃ B u1 u2 u3, s5 = .pointer (some ⟨B, 0, none⟩) ∧ w.heap.size < B ∧ Blk wx B [u1, u2, u3] ∧ ConfIs (fun b => w.heap.size ≤ b ∧ b < wx.heap.size) wx (.agg #[u1, u2, u3]) c ∧ Fr Nil w wx ∧ Blk wx w.heap.size [v1, v2, v3])
  case first =>
    replace g1 := g1.nil (Fr.refl _ _).drew
    replace g2 := g2.nil (Fr.refl _ _).drew
    replace g3 := g3.nil (Fr.refl _ _).drew
    have cB : ∀ (x : UCls (Fr Nil w1.drew)) (o : Nat), x.w.cell? ⟨w.heap.size, o, none⟩ = [v1, v2, v3][o]? := fun x o => (B1.drew.fr x.fr (fun h => h)).cell o
    have hNonU : Nonempty (UCls (Fr Nil w1.drew)) := ⟨⟨_, Fr.refl _ _⟩⟩
    refine wp_draw_par [true, true, false, true, true, false, true, true, false, false, false, false] [2, 5, 8, 9, 10, 11] (Fr Nil w1.drew) (Fr.refl _ _) (by kernel_rfl) (by kernel_rfl) (by kernel_rfl) ?_
    simp only [pickL]
    repeat (go_big_quiet_step (fail))
    refine wpQuiet_nil ?_
    intro z
    have hU : Fr Nil w1.drew z.w := z.fr
    have hF : Fr Nil w z.w := F1.drew.trans hU (fun _ _ h => h)
    refine wpPar_step [(2, [5, 8, 9, 10, 11]), (10, [2, 5, 8, 9, 11])] (by kernel_rfl) rfl (fun K hK => ?_)
    simp only [List.foldr, List.getElem?_cons_succ, List.getElem?_cons_zero, and_true, stepOp]
    refine ⟨?_, ?_⟩
    · skip
      go_simp
      refine (clone51_any _ (g1.nil hU) (pairs_one _) (by rw [flat_pair_len]; omega)).mono ?_
      rintro e W2 ⟨u1, rfl, hS, hf⟩
      obtain ⟨a1, n1, d1, rfl⟩ := hS.slice
      first | have hS1 := hS.made' hF hBl | have hS1 := hS.made hF
      try replace hS2 := hS2.nil hf
      try replace hS3 := hS3.nil hf
      try replace hB := hB.fr hf (fun h => h)
      try replace hBl := Nat.lt_of_lt_of_le hBl hf.size
      replace hF := hF.trans hf (fun _ _ h => h)
      replace hU := hU.trans hf (fun _ _ h => h)
      clear hS hf
      refine ⟨_, rfl, hU, hK _ _ _ ?_⟩
      refine wpPar_step [(5, [8, 9, 10, 11]), (10, [5, 8, 9, 11])] (by kernel_rfl) rfl (fun K hK => ?_)
      simp only [List.foldr, List.getElem?_cons_succ, List.getElem?_cons_zero, and_true, stepOp]
      refine ⟨?_, ?_⟩
      · skip
        go_simp
        refine (clone52_any _ (g2.nil hU) (pairs_one _) (by rw [flat_pair_len]; omega)).mono ?_
        rintro e W5 ⟨u2, rfl, hS, hf⟩
        obtain ⟨a2, n2, d2, rfl⟩ := hS.slice
        first | have hS2 := hS.made' hF hBl | have hS2 := hS.made hF
        try replace hS1 := hS1.nil hf
        try replace hS3 := hS3.nil hf
        try replace hB := hB.fr hf (fun h => h)
        try replace hBl := Nat.lt_of_lt_of_le hBl hf.size
        replace hF := hF.trans hf (fun _ _ h => h)
        replace hU := hU.trans hf (fun _ _ h => h)
        clear hS hf
        refine ⟨_, rfl, hU, hK _ _ _ ?_⟩
        refine wpPar_step [(8, [9, 10, 11]), (10, [8, 9, 11])] (by kernel_rfl) rfl (fun K hK => ?_)
        simp only [List.foldr, List.getElem?_cons_succ, List.getElem?_cons_zero, and_true, stepOp]
        refine ⟨?_, ?_⟩
        · skip
          go_simp
          refine (clone53_any _ (g3.nil hU) (chans_one _) (by rw [flat_chan_len]; omega)).mono ?_
          rintro e W8 ⟨u3, rfl, hS, hf⟩
          obtain ⟨a3, n3, d3, rfl⟩ := hS.slice
          first | have hS3 := hS.made' hF hBl | have hS3 := hS.made hF
          try replace hS1 := hS1.nil hf
          try replace hS2 := hS2.nil hf
          try replace hB := hB.fr hf (fun h => h)
          try replace hBl := Nat.lt_of_lt_of_le hBl hf.size
          replace hF := hF.trans hf (fun _ _ h => h)
          replace hU := hU.trans hf (fun _ _ h => h)
          clear hS hf
          refine ⟨_, rfl, hU, hK _ _ _ ?_⟩
          refine wpPar_step [(9, [10, 11]), (10, [9, 11])] (by kernel_rfl) rfl (fun K hK => ?_)
          simp only [List.foldr, List.getElem?_cons_succ, List.getElem?_cons_zero, and_true, stepOp]
          refine ⟨?_, ?_⟩
          · skip
            go_simp
            first | refine ⟨hU, hK _ _ _ ?_⟩ | refine hK _ _ _ ?_
            refine wpPar_step [(10, [11])] (by kernel_rfl) rfl (fun K hK => ?_)
            simp only [List.foldr, List.getElem?_cons_succ, List.getElem?_cons_zero, and_true, stepOp]
            go_simp
            have hB := hU.blkNew [.slice none 0 0, .slice none 0 0, .slice none 0 0] 26
            obtain ⟨hB, hBl⟩ := hB
            have hBn := hU.size
            replace hU := hU.alloc (.cells #[.slice none 0 0, .slice none 0 0, .slice none 0 0] 26)
            replace hF := hF.alloc (.cells #[.slice none 0 0, .slice none 0 0, .slice none 0 0] 26)
            try replace hS1 := hS1.past (by decide) (.cells #[.slice none 0 0, .slice none 0 0, .slice none 0 0] 26)
            try replace hS2 := hS2.past (by decide) (.cells #[.slice none 0 0, .slice none 0 0, .slice none 0 0] 26)
            try replace hS3 := hS3.past (by decide) (.cells #[.slice none 0 0, .slice none 0 0, .slice none 0 0] 26)
            refine ⟨hU, hK _ _ _ ?_⟩
            generalize World.alloc _ (.cells #[.slice none 0 0, .slice none 0 0, .slice none 0 0] 26) = W10 at *
            refine wpPar_step [(11, [])] (by kernel_rfl) rfl (fun K hK => ?_)
            simp only [List.foldr, List.getElem?_cons_succ, List.getElem?_cons_zero, and_true, stepOp]
            go_simp
            have hBc := hB.cell
            have hBz := hB.frozen
            go_simp
            obtain ⟨hB3, hF3⟩ := store3 (x1 := .slice a1 n1 d1) (x2 := .slice a2 n2 d2) (x3 := .slice a3 n3 d3) hB
            replace hS1 := hS1.fr hF3 (fun b h => h.2)
            replace hS2 := hS2.fr hF3 (fun b h => h.2)
            replace hS3 := hS3.fr hF3 (fun b h => h.2)
            have hlt := B1.lt
            have hwd : w1.drew.heap.size = w1.heap.size := rfl
            replace hF := hF.trans hF3 (fun b h e => by omega)
            replace hU := hU.trans hF3 (fun b h e => by omega)
            refine ⟨hU, hK _ _ _ ?_⟩
            refine wpPar_nil ?_
            go_wp2
            go_meet
            case rel => exact ⟨_, _, _, _, rfl, by omega, hB3, ⟨_, _, _, rfl, (hS1.lt (by decide)).mono fun b h => ⟨h.1.1, h.2⟩, (hS2.lt (by decide)).mono fun b h => ⟨h.1.1, h.2⟩, (hS3.lt (by decide)).mono fun b h => ⟨h.1.1, h.2⟩⟩, hF, B1.drew.fr hU (fun h => h)⟩
          · skip
            go_simp
            have hB := hU.blkNew [.slice none 0 0, .slice none 0 0, .slice none 0 0] 26
            obtain ⟨hB, hBl⟩ := hB
            have hBn := hU.size
            replace hU := hU.alloc (.cells #[.slice none 0 0, .slice none 0 0, .slice none 0 0] 26)
            replace hF := hF.alloc (.cells #[.slice none 0 0, .slice none 0 0, .slice none 0 0] 26)
            try replace hS1 := hS1.past (by decide) (.cells #[.slice none 0 0, .slice none 0 0, .slice none 0 0] 26)
            try replace hS2 := hS2.past (by decide) (.cells #[.slice none 0 0, .slice none 0 0, .slice none 0 0] 26)
            try replace hS3 := hS3.past (by decide) (.cells #[.slice none 0 0, .slice none 0 0, .slice none 0 0] 26)
            refine ⟨hU, hK _ _ _ ?_⟩
            generalize World.alloc _ (.cells #[.slice none 0 0, .slice none 0 0, .slice none 0 0] 26) = W10 at *
            refine wpPar_step [(9, [11])] (by kernel_rfl) rfl (fun K hK => ?_)
            simp only [List.foldr, List.getElem?_cons_succ, List.getElem?_cons_zero, and_true, stepOp]
            go_simp
            first | refine ⟨hU, hK _ _ _ ?_⟩ | refine hK _ _ _ ?_
            refine wpPar_step [(11, [])] (by kernel_rfl) rfl (fun K hK => ?_)
            simp only [List.foldr, List.getElem?_cons_succ, List.getElem?_cons_zero, and_true, stepOp]
            go_simp
            have hBc := hB.cell
            have hBz := hB.frozen
            go_simp
            obtain ⟨hB3, hF3⟩ := store3 (x1 := .slice a1 n1 d1) (x2 := .slice a2 n2 d2) (x3 := .slice a3 n3 d3) hB
            replace hS1 := hS1.fr hF3 (fun b h => h.2)
            replace hS2 := hS2.fr hF3 (fun b h => h.2)
            replace hS3 := hS3.fr hF3 (fun b h => h.2)
            have hlt := B1.lt
            have hwd : w1.drew.heap.size = w1.heap.size := rfl
            replace hF := hF.trans hF3 (fun b h e => by omega)
            replace hU := hU.trans hF3 (fun b h e => by omega)
            refine ⟨hU, hK _ _ _ ?_⟩
            refine wpPar_nil ?_
            go_wp2
            go_meet
            case rel => exact ⟨_, _, _, _, rfl, by omega, hB3, ⟨_, _, _, rfl, (hS1.lt (by decide)).mono fun b h => ⟨h.1.1, h.2⟩, (hS2.lt (by decide)).mono fun b h => ⟨h.1.1, h.2⟩, (hS3.lt (by decide)).mono fun b h => ⟨h.1.1, h.2⟩⟩, hF, B1.drew.fr hU (fun h => h)⟩
        · skip
          go_simp
          have hB := hU.blkNew [.slice none 0 0, .slice none 0 0, .slice none 0 0] 26
          obtain ⟨hB, hBl⟩ := hB
          have hBn := hU.size
          replace hU := hU.alloc (.cells #[.slice none 0 0, .slice none 0 0, .slice none 0 0] 26)
          replace hF := hF.alloc (.cells #[.slice none 0 0, .slice none 0 0, .slice none 0 0] 26)
          try replace hS1 := hS1.past (by decide) (.cells #[.slice none 0 0, .slice none 0 0, .slice none 0 0] 26)
          try replace hS2 := hS2.past (by decide) (.cells #[.slice none 0 0, .slice none 0 0, .slice none 0 0] 26)
          try replace hS3 := hS3.past (by decide) (.cells #[.slice none 0 0, .slice none 0 0, .slice none 0 0] 26)
          refine ⟨hU, hK _ _ _ ?_⟩
          generalize World.alloc _ (.cells #[.slice none 0 0, .slice none 0 0, .slice none 0 0] 26) = W10 at *
          refine wpPar_step [(8, [9, 11])] (by kernel_rfl) rfl (fun K hK => ?_)
          simp only [List.foldr, List.getElem?_cons_succ, List.getElem?_cons_zero, and_true, stepOp]
          go_simp
          refine (clone53_any _ (g3.nil hU) (chans_one _) (by rw [flat_chan_len]; omega)).mono ?_
          rintro e W8 ⟨u3, rfl, hS, hf⟩
          obtain ⟨a3, n3, d3, rfl⟩ := hS.slice
          first | have hS3 := hS.made' hF hBl | have hS3 := hS.made hF
          try replace hS1 := hS1.nil hf
          try replace hS2 := hS2.nil hf
          try replace hB := hB.fr hf (fun h => h)
          try replace hBl := Nat.lt_of_lt_of_le hBl hf.size
          replace hF := hF.trans hf (fun _ _ h => h)
          replace hU := hU.trans hf (fun _ _ h => h)
          clear hS hf
          refine ⟨_, rfl, hU, hK _ _ _ ?_⟩
          refine wpPar_step [(9, [11])] (by kernel_rfl) rfl (fun K hK => ?_)
          simp only [List.foldr, List.getElem?_cons_succ, List.getElem?_cons_zero, and_true, stepOp]
          go_simp
          first | refine ⟨hU, hK _ _ _ ?_⟩ | refine hK _ _ _ ?_
          refine wpPar_step [(11, [])] (by kernel_rfl) rfl (fun K hK => ?_)
          simp only [List.foldr, List.getElem?_cons_succ, List.getElem?_cons_zero, and_true, stepOp]
          go_simp
          have hBc := hB.cell
          have hBz := hB.frozen
          go_simp
          obtain ⟨hB3, hF3⟩ := store3 (x1 := .slice a1 n1 d1) (x2 := .slice a2 n2 d2) (x3 := .slice a3 n3 d3) hB
          replace hS1 := hS1.fr hF3 (fun b h => h.2)
          replace hS2 := hS2.fr hF3 (fun b h => h.2)
          replace hS3 := hS3.fr hF3 (fun b h => h.2)
          have hlt := B1.lt
          have hwd : w1.drew.heap.size = w1.heap.size := rfl
          replace hF := hF.trans hF3 (fun b h e => by omega)
          replace hU := hU.trans hF3 (fun b h e => by omega)
          refine ⟨hU, hK _ _ _ ?_⟩
          refine wpPar_nil ?_
          go_wp2
          go_meet
          case rel => exact ⟨_, _, _, _, rfl, by omega, hB3, ⟨_, _, _, rfl, (hS1.lt (by decide)).mono fun b h => ⟨h.1.1, h.2⟩, (hS2.lt (by decide)).mono fun b h => ⟨h.1.1, h.2⟩, (hS3.lt (by decide)).mono fun b h => ⟨h.1.1, h.2⟩⟩, hF, B1.drew.fr hU (fun h => h)⟩
      · skip
        go_simp
        have hB := hU.blkNew [.slice none 0 0, .slice none 0 0, .slice none 0 0] 26
        obtain ⟨hB, hBl⟩ := hB
        have hBn := hU.size
        replace hU := hU.alloc (.cells #[.slice none 0 0, .slice none 0 0, .slice none 0 0] 26)
        replace hF := hF.alloc (.cells #[.slice none 0 0, .slice none 0 0, .slice none 0 0] 26)
        try replace hS1 := hS1.past (by decide) (.cells #[.slice none 0 0, .slice none 0 0, .slice none 0 0] 26)
        try replace hS2 := hS2.past (by decide) (.cells #[.slice none 0 0, .slice none 0 0, .slice none 0 0] 26)
        try replace hS3 := hS3.past (by decide) (.cells #[.slice none 0 0, .slice none 0 0, .slice none 0 0] 26)
        refine ⟨hU, hK _ _ _ ?_⟩
        generalize World.alloc _ (.cells #[.slice none 0 0, .slice none 0 0, .slice none 0 0] 26) = W10 at *
        refine wpPar_step [(5, [8, 9, 11])] (by kernel_rfl) rfl (fun K hK => ?_)
        simp only [List.foldr, List.getElem?_cons_succ, List.getElem?_cons_zero, and_true, stepOp]
        go_simp
        refine (clone52_any _ (g2.nil hU) (pairs_one _) (by rw [flat_pair_len]; omega)).mono ?_
        rintro e W5 ⟨u2, rfl, hS, hf⟩
        obtain ⟨a2, n2, d2, rfl⟩ := hS.slice
        first | have hS2 := hS.made' hF hBl | have hS2 := hS.made hF
        try replace hS1 := hS1.nil hf
        try replace hS3 := hS3.nil hf
        try replace hB := hB.fr hf (fun h => h)
        try replace hBl := Nat.lt_of_lt_of_le hBl hf.size
        replace hF := hF.trans hf (fun _ _ h => h)
        replace hU := hU.trans hf (fun _ _ h => h)
        clear hS hf
        refine ⟨_, rfl, hU, hK _ _ _ ?_⟩
        refine wpPar_step [(8, [9, 11])] (by kernel_rfl) rfl (fun K hK => ?_)
        simp only [List.foldr, List.getElem?_cons_succ, List.getElem?_cons_zero, and_true, stepOp]
        go_simp
        refine (clone53_any _ (g3.nil hU) (chans_one _) (by rw [flat_chan_len]; omega)).mono ?_
        rintro e W8 ⟨u3, rfl, hS, hf⟩
        obtain ⟨a3, n3, d3, rfl⟩ := hS.slice
        first | have hS3 := hS.made' hF hBl | have hS3 := hS.made hF
        try replace hS1 := hS1.nil hf
        try replace hS2 := hS2.nil hf
        try replace hB := hB.fr hf (fun h => h)
        try replace hBl := Nat.lt_of_lt_of_le hBl hf.size
        replace hF := hF.trans hf (fun _ _ h => h)
        replace hU := hU.trans hf (fun _ _ h => h)
        clear hS hf
        refine ⟨_, rfl, hU, hK _ _ _ ?_⟩
        refine wpPar_step [(9, [11])] (by kernel_rfl) rfl (fun K hK => ?_)
        simp only [List.foldr, List.getElem?_cons_succ, List.getElem?_cons_zero, and_true, stepOp]
        go_simp
        first | refine ⟨hU, hK _ _ _ ?_⟩ | refine hK _ _ _ ?_
        refine wpPar_step [(11, [])] (by kernel_rfl) rfl (fun K hK => ?_)
        simp only [List.foldr, List.getElem?_cons_succ, List.getElem?_cons_zero, and_true, stepOp]
        go_simp
        have hBc := hB.cell
        have hBz := hB.frozen
        go_simp
        obtain ⟨hB3, hF3⟩ := store3 (x1 := .slice a1 n1 d1) (x2 := .slice a2 n2 d2) (x3 := .slice a3 n3 d3) hB
        replace hS1 := hS1.fr hF3 (fun b h => h.2)
        replace hS2 := hS2.fr hF3 (fun b h => h.2)
        replace hS3 := hS3.fr hF3 (fun b h => h.2)
        have hlt := B1.lt
        have hwd : w1.drew.heap.size = w1.heap.size := rfl
        replace hF := hF.trans hF3 (fun b h e => by omega)
        replace hU := hU.trans hF3 (fun b h e => by omega)
        refine ⟨hU, hK _ _ _ ?_⟩
        refine wpPar_nil ?_
        go_wp2
        go_meet
        case rel => exact ⟨_, _, _, _, rfl, by omega, hB3, ⟨_, _, _, rfl, (hS1.lt (by decide)).mono fun b h => ⟨h.1.1, h.2⟩, (hS2.lt (by decide)).mono fun b h => ⟨h.1.1, h.2⟩, (hS3.lt (by decide)).mono fun b h => ⟨h.1.1, h.2⟩⟩, hF, B1.drew.fr hU (fun h => h)⟩
    · skip
      go_simp
      have hB := hU.blkNew [.slice none 0 0, .slice none 0 0, .slice none 0 0] 26
      obtain ⟨hB, hBl⟩ := hB
      have hBn := hU.size
      replace hU := hU.alloc (.cells #[.slice none 0 0, .slice none 0 0, .slice none 0 0] 26)
      replace hF := hF.alloc (.cells #[.slice none 0 0, .slice none 0 0, .slice none 0 0] 26)
      try replace hS1 := hS1.past (by decide) (.cells #[.slice none 0 0, .slice none 0 0, .slice none 0 0] 26)
      try replace hS2 := hS2.past (by decide) (.cells #[.slice none 0 0, .slice none 0 0, .slice none 0 0] 26)
      try replace hS3 := hS3.past (by decide) (.cells #[.slice none 0 0, .slice none 0 0, .slice none 0 0] 26)
      refine ⟨hU, hK _ _ _ ?_⟩
      generalize World.alloc _ (.cells #[.slice none 0 0, .slice none 0 0, .slice none 0 0] 26) = W10 at *
      refine wpPar_step [(2, [5, 8, 9, 11])] (by kernel_rfl) rfl (fun K hK => ?_)
      simp only [List.foldr, List.getElem?_cons_succ, List.getElem?_cons_zero, and_true, stepOp]
      go_simp
      refine (clone51_any _ (g1.nil hU) (pairs_one _) (by rw [flat_pair_len]; omega)).mono ?_
      rintro e W2 ⟨u1, rfl, hS, hf⟩
      obtain ⟨a1, n1, d1, rfl⟩ := hS.slice
      first | have hS1 := hS.made' hF hBl | have hS1 := hS.made hF
      try replace hS2 := hS2.nil hf
      try replace hS3 := hS3.nil hf
      try replace hB := hB.fr hf (fun h => h)
      try replace hBl := Nat.lt_of_lt_of_le hBl hf.size
      replace hF := hF.trans hf (fun _ _ h => h)
      replace hU := hU.trans hf (fun _ _ h => h)
      clear hS hf
      refine ⟨_, rfl, hU, hK _ _ _ ?_⟩
      refine wpPar_step [(5, [8, 9, 11])] (by kernel_rfl) rfl (fun K hK => ?_)
      simp only [List.foldr, List.getElem?_cons_succ, List.getElem?_cons_zero, and_true, stepOp]
      go_simp
      refine (clone52_any _ (g2.nil hU) (pairs_one _) (by rw [flat_pair_len]; omega)).mono ?_
      rintro e W5 ⟨u2, rfl, hS, hf⟩
      obtain ⟨a2, n2, d2, rfl⟩ := hS.slice
      first | have hS2 := hS.made' hF hBl | have hS2 := hS.made hF
      try replace hS1 := hS1.nil hf
      try replace hS3 := hS3.nil hf
      try replace hB := hB.fr hf (fun h => h)
      try replace hBl := Nat.lt_of_lt_of_le hBl hf.size
      replace hF := hF.trans hf (fun _ _ h => h)
      replace hU := hU.trans hf (fun _ _ h => h)
      clear hS hf
      refine ⟨_, rfl, hU, hK _ _ _ ?_⟩
      refine wpPar_step [(8, [9, 11])] (by kernel_rfl) rfl (fun K hK => ?_)
      simp only [List.foldr, List.getElem?_cons_succ, List.getElem?_cons_zero, and_true, stepOp]
      go_simp
      refine (clone53_any _ (g3.nil hU) (chans_one _) (by rw [flat_chan_len]; omega)).mono ?_
      rintro e W8 ⟨u3, rfl, hS, hf⟩
      obtain ⟨a3, n3, d3, rfl⟩ := hS.slice
      first | have hS3 := hS.made' hF hBl | have hS3 := hS.made hF
      try replace hS1 := hS1.nil hf
      try replace hS2 := hS2.nil hf
      try replace hB := hB.fr hf (fun h => h)
      try replace hBl := Nat.lt_of_lt_of_le hBl hf.size
      replace hF := hF.trans hf (fun _ _ h => h)
      replace hU := hU.trans hf (fun _ _ h => h)
      clear hS hf
      refine ⟨_, rfl, hU, hK _ _ _ ?_⟩
      refine wpPar_step [(9, [11])] (by kernel_rfl) rfl (fun K hK => ?_)
      simp only [List.foldr, List.getElem?_cons_succ, List.getElem?_cons_zero, and_true, stepOp]
      go_simp
      first | refine ⟨hU, hK _ _ _ ?_⟩ | refine hK _ _ _ ?_
      refine wpPar_step [(11, [])] (by kernel_rfl) rfl (fun K hK => ?_)
      simp only [List.foldr, List.getElem?_cons_succ, List.getElem?_cons_zero, and_true, stepOp]
      go_simp
      have hBc := hB.cell
      have hBz := hB.frozen
      go_simp
      obtain ⟨hB3, hF3⟩ := store3 (x1 := .slice a1 n1 d1) (x2 := .slice a2 n2 d2) (x3 := .slice a3 n3 d3) hB
      replace hS1 := hS1.fr hF3 (fun b h => h.2)
      replace hS2 := hS2.fr hF3 (fun b h => h.2)
      replace hS3 := hS3.fr hF3 (fun b h => h.2)
      have hlt := B1.lt
      have hwd : w1.drew.heap.size = w1.heap.size := rfl
      replace hF := hF.trans hF3 (fun b h e => by omega)
      replace hU := hU.trans hF3 (fun b h e => by omega)
      refine ⟨hU, hK _ _ _ ?_⟩
      refine wpPar_nil ?_
      go_wp2
      go_meet
      case rel => exact ⟨_, _, _, _, rfl, by omega, hB3, ⟨_, _, _, rfl, (hS1.lt (by decide)).mono fun b h => ⟨h.1.1, h.2⟩, (hS2.lt (by decide)).mono fun b h => ⟨h.1.1, h.2⟩, (hS3.lt (by decide)).mono fun b h => ⟨h.1.1, h.2⟩⟩, hF, B1.drew.fr hU (fun h => h)⟩
  case rest =>
    obtain ⟨B, u1, u2, u3, rfl, hBw, hB, hC, hF, hA⟩ := hcut
    obtain ⟨a3, n3, d3, rfl, hl3, hm3, -⟩ := h3
    rw [flat_chan_len] at hl3
    obtain rfl : n3 = c.chans.length := by omega
    obtain ⟨x1, x2, x3, ex, s1, s2, s3⟩ := hC
    simp only [Value.agg.injEq, Array.mk.injEq, List.cons.injEq, and_true] at ex
    obtain ⟨rfl, rfl, rfl⟩ := ex
    have s1' := s1
    have s2' := s2
    have s3' := s3
    obtain ⟨b1, m1, e1, rfl⟩ := s1'.slice
    obtain ⟨b2, m2, e2, rfl⟩ := s2'.slice
    obtain ⟨b3, m3, e3, rfl⟩ := s3'.slice
    have cB : ∀ (x : Cls Nil wc.drew) (o : Nat), x.w.cell? ⟨B, o, none⟩ = [Value.slice b1 m1 e1, .slice b2 m2 e2, .slice b3 m3 e3][o]? := hB.drew.cls (fun h => h)
    have cA : ∀ (x : Cls Nil wc.drew) (o : Nat), x.w.cell? ⟨w.heap.size, o, none⟩ = [v1, v2, .slice a3 c.chans.length d3][o]? := hA.drew.cls (fun h => h)
    clear g1 g2 g3 h1 h2 hc1
    go_wp2_with fail
    refine wp_draw_m [true, true, true, true, false, false, false, false, false] Nil (by kernel_rfl) (by kernel_rfl) (by kernel_rfl) (by kernel_rfl) ?_
    simp only [pickL, restL]
    repeat (go_big_quiet_step (fail))
    refine wpQuiet_nil ?_
    intro z
    have hmk := fun w' => run_make_row' (P := Tryz.prog) 97 134 (.slice none 0 0) 24 Tryz.underlying97 (by kernel_rfl) rfl .i64 .i64 c.chans.length (by omega) (by omega) w'
    have hmz : madeCells #[Value.slice none 0 0] c.chans.length = (List.replicate c.chans.length (Value.slice none 0 0)).toArray := by
      apply Array.ext'; rw [toList_madeCells_one]
    simp only [hmz] at hmk
    have hBL := Blk.new z.w (List.replicate c.chans.length (Value.slice none 0 0)) 134
    have hU1 := z.fr.alloc (.cells (List.replicate c.chans.length (Value.slice none 0 0)).toArray 134)
    simp only [List.toArray_replicate] at hBL hU1
    refine wpSeq_step (fun K hK => ?_)
    go_simp
    first | refine ⟨hU1, hK _ _ ?_⟩ | refine hK _ _ ?_
    refine wpSeq_step (fun K hK => ?_)
    go_simp
    first | refine ⟨hU1, hK _ _ ?_⟩ | refine hK _ _ ?_
    refine wpSeq_step (fun K hK => ?_)
    go_simp
    have hU2 := hU1.alloc (.cells #[.slice b1 m1 e1, .slice b2 m2 e2, .slice b3 m3 e3, .slice (some ⟨z.w.heap.size, 0, none⟩) c.chans.length c.chans.length] 99)
    first | refine ⟨hU2, hK _ _ ?_⟩ | refine hK _ _ ?_
    refine wpSeq_step (fun K hK => ?_)
    go_simp
    first | refine ⟨hU2, hK _ _ ?_⟩ | refine hK _ _ ?_
    refine wpSeq_step (fun K hK => ?_)
    go_simp
    first | refine ⟨hU2, hK _ _ (wpSeq_nil ?_)⟩ | refine hK _ _ (wpSeq_nil ?_)
    go_wp2
    go_ret2
    have hBQ := Blk.new (z.w.alloc (.cells (Array.replicate c.chans.length (Value.slice none 0 0)) 134)) [.slice b1 m1 e1, .slice b2 m2 e2, .slice b3 m3 e3, .slice (some ⟨z.w.heap.size, 0, none⟩) c.chans.length c.chans.length] 99
    have hBL2 := hBL.alloc (.cells #[.slice b1 m1 e1, .slice b2 m2 e2, .slice b3 m3 e3, .slice (some ⟨z.w.heap.size, 0, none⟩) c.chans.length c.chans.length] 99)
    rw [World.size_alloc] at hBQ
    have z1 := hF.size
    have z2 := z.fr.size
    have z3 := hU2.size
    have z4 : wc.drew.heap.size = wc.heap.size := rfl
    have hl : (emptyQs c).l.length = c.chans.length := by simp [emptyQs]
    refine ⟨⟨z.w.heap.size + 1, z.w.heap.size, rfl, by omega, by omega, ?_⟩, hF.drew.trans hU2 (fun _ _ h => h)⟩
    have hCC : ConfIs (fun b => w.heap.size ≤ b ∧ b < wc.heap.size) wc (.agg #[.slice b1 m1 e1, .slice b2 m2 e2, .slice b3 m3 e3]) c := ⟨_, _, _, rfl, s1, s2, s3⟩
    obtain ⟨y1, y2, y3, ey, t1, t2, t3⟩ := (hCC.nil (Fr.refl _ _).drew).nil hU2
    have hpp : ∀ b, (w.heap.size ≤ b ∧ b < wc.heap.size) → (w.heap.size ≤ b ∧ b < ((z.w.alloc (.cells (Array.replicate c.chans.length (Value.slice none 0 0)) 134)).alloc (.cells #[.slice b1 m1 e1, .slice b2 m2 e2, .slice b3 m3 e3, .slice (some ⟨z.w.heap.size, 0, none⟩) c.chans.length c.chans.length] 99)).heap.size ∧ b ≠ z.w.heap.size + 1 ∧ b ≠ z.w.heap.size) :=
      fun b hb => ⟨hb.1, by omega, by omega, by omega⟩
    exact {
      blk := ⟨.slice b1 m1 e1, .slice b2 m2 e2, .slice b3 m3 e3, by rw [hl]; exact hBQ, ⟨y1, y2, y3, ey, t1.mono hpp, t2.mono hpp, t3.mono hpp⟩⟩
      len := hl
      few := by rw [hl]; omega
      some_ := fun e => by rw [show (emptyQs c).conf.parts = c.parts from rfl] at e; rw [e] at l1; simp at l1
      rows := ⟨_, hBL2, by simp [hl], fun i ms hi => by
        have : i < c.chans.length := by have := (List.getElem?_eq_some_iff.1 hi).1; omega
        refine ⟨.slice none 0 0, by simp [this], .inl ⟨rfl, rfl, ?_⟩, rfl⟩
        unfold emptyQs at hi
        simp only [List.getElem?_map, Option.map_eq_some_iff] at hi
        obtain ⟨_, _, e⟩ := hi
        exact e.symm⟩
      nq := fun h => h.2.2.1 rfl
      nbl := fun h => h.2.2.2 rfl
      nrb := fun i b h => by cases h
      qbl := by omega
      qrb := fun i b h => by cases h
      inj := fun i j b h => by cases h }
end Go.Priory
