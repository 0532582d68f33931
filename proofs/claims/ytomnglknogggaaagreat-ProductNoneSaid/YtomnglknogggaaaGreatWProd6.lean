/- What product.New does (3). No condition. -/
import Derived.Test.YtomnglknogggaaaGreatWProd5
namespace Go.Priory
open Go.RowKit Go.Proofs
set_option maxRecDepth 100000

def prod0 (c : Conf) : ProdSt := ⟨⟨c.wins, 0, 0, 0⟩, newCells c, emptyQs c⟩
def NewProdPost (c : Conf) (w : World) (e : Ending) (w' : World) : Prop :=
  ∃ pb R A, e = .returned (.tuple #[.pointer (some ⟨pb, 0, none⟩), .int .i64 0]) ∧ ProdAt R w' pb A (prod0 c) ∧ (∀ x, R x ≠ .no → w.heap.size ≤ x) ∧ Fr Nil w w'
set_option maxHeartbeats 1000000 in
theorem prodNew_any {p : Nat → Prop} {v : Value} {c : Conf} (w : World) (h : ConfIs p w v c) (hok : checkE c = 0) : Calls Tryz.prog 38 #[v] w (NewProdPost c w) := by
  obtain ⟨hn, -⟩ := checkE_ok.1 hok
  have hcf := h
  obtain ⟨v1, v2, v3, rfl, h1, h2, h3⟩ := h
  obtain ⟨B0, hB0⟩ : ∃ B0, w.heap.size = B0 := ⟨_, rfl⟩
  have F0 : Fr Nil w (w.alloc (.cells #[v1, v2, v3] 26)) := (Fr.refl _ _).alloc _
  have X0 := Blk.new w [v1, v2, v3] 26
  obtain ⟨W0, hW0⟩ : ∃ W0, w.alloc (.cells #[v1, v2, v3] 26) = W0 := ⟨_, rfl⟩
  rw [hB0] at X0
  rw [hW0] at F0 X0
  obtain ⟨l1, l2⟩ := hn.lp
  obtain ⟨l3, l4⟩ := hn.lw
  have l5 := hn.lc
  have g1 := (h1.nil F0).nil (Fr.refl _ _).drew
  have g2 := (h2.nil F0).nil (Fr.refl _ _).drew
  have g3 := (h3.nil F0).nil (Fr.refl _ _).drew
  have cB : ∀ (x : UCls (Fr Nil W0.drew)) (o : Nat), x.w.cell? ⟨B0, o, none⟩ = [v1, v2, v3][o]? := fun x o => (X0.drew.fr x.fr (fun h => h)).cell o
  have X0c := X0.cell
  have HOK := Lib.hid hok
  clear hok
  go_enter Tryz.func38, Tryz.ntmps38
  go_wp2_with fail
  have hNonU : Nonempty (UCls (Fr Nil W0.drew)) := ⟨⟨_, Fr.refl _ _⟩⟩
  refine wp_draw_chain [true, true, false, true, true, false, true, true, false, false, false] [2, 5, 8, 9, 10] [8, 9, 10] (Fr Nil W0.drew) (Fr.refl _ _) (by kernel_rfl) (by kernel_rfl) (by kernel_rfl) ?_
  simp only [pickL]
  repeat (go_big_quiet_step (fail))
  refine wpQuiet_nil ?_
  intro z
  have hU : Fr Nil W0.drew z.w := z.fr
  refine wpSeqG_step rfl (fun K hK => ?_)
  go_simp
  refine (clone51_any _ (g1.nil hU) (pairs_one _) (by rw [flat_pair_len]; omega)).mono ?_
  rintro e W1 ⟨u1, rfl, S1, f1⟩
  obtain ⟨a1, n1, d1, rfl⟩ := S1.slice
  have U1 := hU.trans f1 (fun _ _ h => h)
  refine ⟨_, rfl, U1, hK _ _ ?_⟩
  clear hK K
  refine wpSeqG_step rfl (fun K hK => ?_)
  go_simp
  refine (clone52_any _ (g2.nil U1) (pairs_one _) (by rw [flat_pair_len]; omega)).mono ?_
  rintro e W2 ⟨u2, rfl, S2, f2⟩
  obtain ⟨a2, n2, d2, rfl⟩ := S2.slice
  have U2 := U1.trans f2 (fun _ _ h => h)
  refine ⟨_, rfl, U2, hK _ _ ?_⟩
  clear hK K
  refine wpSeqG_step rfl (fun K hK => ?_)
  go_simp
  refine (clone53_any _ (g3.nil U2) (chans_one _) (by rw [flat_chan_len]; omega)).mono ?_
  rintro e W3 ⟨u3, rfl, S3, f3⟩
  obtain ⟨a3, n3, d3, rfl⟩ := S3.slice
  have U3 := U2.trans f3 (fun _ _ h => h)
  refine ⟨_, rfl, hK _ _ ?_⟩
  clear hK K
  refine wpSeqG_step rfl (fun K hK => ?_)
  go_simp
  refine hK _ _ ?_
  clear hK K
  have X3 := X0.drew.fr U3 (fun h => h)
  have X3c := X3.cell
  have X3z := X3.frozen
  refine wpSeqG_step rfl (fun K hK => ?_)
  go_simp
  refine hK _ _ ?_
  clear hK K
  refine wpSeqG_nil ?_
  obtain ⟨X4, F4⟩ := store3 (x1 := .slice a1 n1 d1) (x2 := .slice a2 n2 d2) (x3 := .slice a3 n3 d3) X3
  generalize ((W3.setCell ⟨B0, 0, none⟩ (.slice a1 n1 d1)).setCell ⟨B0, 1, none⟩ (.slice a2 n2 d2)).setCell ⟨B0, 2, none⟩ (.slice a3 n3 d3) = W4 at *
  have fz : Fr Nil W0 z.w := (Fr.refl Nil _).drew.trans hU (fun _ _ h => h)
  have hsz : B0 < W0.heap.size := X0.lt
  have m1 := (((S1.made fz).nil f2).nil f3).fr F4 (fun b hb e => by omega)
  have m2 := ((S2.made (fz.trans f1 (fun _ _ h => h))).nil f3).fr F4 (fun b hb e => by omega)
  have m3 := (S3.made ((fz.trans f1 (fun _ _ h => h)).trans f2 (fun _ _ h => h))).fr F4 (fun b hb e => by omega)
  have C4 : ConfIs (fun b => W0.heap.size ≤ b) W4 (.agg #[.slice a1 n1 d1, .slice a2 n2 d2, .slice a3 n3 d3]) c := ⟨_, _, _, rfl, m1, m2, m3⟩
  have FF4 : Fr Nil w W4 := ((F0.drew).trans U3 (fun _ _ h => h)).trans F4 (fun x hx e => by omega)
  have eL := Lib.hid (show n1 = c.parts.length by obtain ⟨_, _, _, e, hl, _⟩ := m1; cases e; rw [flat_pair_len] at hl; omega)
  have X4c := X4.cell
  have key := newQs_any W4 C4 HOK.out
  clear S1 S2 S3 m1 m2 m3 X3c X3z X0c cB X3
  go_wp2_with (first
    | (go_at_call 14; refine key.mono ?_; clear key; rintro e w5 ⟨⟨q, bl, rfl, hq1, hbl1, hQ⟩, f5⟩; have X6 := (X4.fr f5 (fun h => h)).alloc (.cells #[.pointer (some ⟨q, 0, none⟩)] 31); have X6c := X6.cell; have key2 := schedNew_any (w5.alloc (.cells #[.pointer (some ⟨q, 0, none⟩)] 31)) ((C4.nil f5).nil ((Fr.refl Nil w5).alloc _)) HOK.out)
    | (go_at_call 81; refine key2.mono ?_; clear key2; rintro e w7 ⟨⟨s, rfl, hs1, hS⟩, f7⟩; have X7 := X6.fr f7 (fun h => h); have X7c := X7.cell; have Q7 := (Blk.new w5 [.pointer (some ⟨q, 0, none⟩)] 31).fr f7 (fun h => h); have key3 := several_any w7 X7 Q7 (((C4.nil f5).nil ((Fr.refl Nil w5).alloc _)).nil f7) ((hQ.nil ((Fr.refl Nil w5).alloc (.cells #[.pointer (some ⟨q, 0, none⟩)] 31))).nil f7) HOK.out rfl; rw [show (Value.int .i64 (c.parts.length : Int)) = .int .i64 (n1 : Int) by rw [eL.out]] at key3)
    | (go_at_call 82; refine key3.mono ?_; clear key3; rintro e w8 ⟨v, cs, ks, a, rfl, hM, f8⟩; obtain ⟨ra, rn, rc, rfl⟩ := (SlcIn.of_row hM.row (by omega)).slice; have Q8 := (Q7.fr f8 (fun h => h)).cell))
  go_ret2
  have f6 : Fr Nil w5 (w5.alloc (.cells #[.pointer (some ⟨q, 0, none⟩)] 31)) := (Fr.refl Nil w5).alloc _
  have f9 : Fr Nil w8 (w8.alloc (.cells #[.pointer (some ⟨s, 0, none⟩), .pointer (some ⟨q, 0, none⟩), .slice ra rn rc] 128)) := (Fr.refl Nil w8).alloc _
  have hqlt : q < w5.heap.size := by obtain ⟨_, _, _, h, _⟩ := hQ.blk; exact h.lt
  have hbllt : bl < w5.heap.size := by obtain ⟨_, h, _⟩ := hQ.rows; exact h.lt
  have hslt : s < w7.heap.size := by obtain ⟨_, h, _⟩ := hS; exact h.lt
  have z6 : (w5.alloc (.cells #[.pointer (some ⟨q, 0, none⟩)] 31)).heap.size = w5.heap.size + 1 := by simp
  have z7 := f7.size
  have z8 := f8.size
  rw [z6] at hs1
  obtain ⟨R, A, hP, hlo⟩ := prod_build (Blk.new w8 [.pointer (some ⟨s, 0, none⟩), .pointer (some ⟨q, 0, none⟩), .slice ra rn rc] 128) ((((hQ.nil f6).nil f7).nil f8).nil f9) ((hS.nil f8).nil f9) hM f9 rfl ⟨hq1, hqlt⟩ ⟨hbl1, hbllt⟩ (by rw [z6]; omega) ⟨by rw [z6]; exact hs1, hslt⟩ (Nat.le_refl _) z8 (by omega) (by omega)
  have z4 := FF4.size
  exact ⟨w8.heap.size, R, A, rfl, hP, fun x hx => by have := hlo x hx; omega, ((((FF4.trans f5 (fun _ _ h => h)).trans f6 (fun _ _ h => h)).trans f7 (fun _ _ h => h)).trans f8 (fun _ _ h => h)).trans f9 (fun _ _ h => h)⟩
end Go.Priory
