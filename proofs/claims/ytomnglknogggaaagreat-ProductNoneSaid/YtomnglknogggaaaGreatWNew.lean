/- What cell.New does. No condition. -/
import Derived.Test.YtomnglknogggaaaGreatWCell
namespace Go.Priory
open Go.RowKit Go.Proofs
set_option maxRecDepth 100000

noncomputable def sameB (c d : Conf) : Bool := @decide (c = d) (Classical.propDecidable _)
theorem sameB_true {c d : Conf} : sameB c d = true ↔ c = d := by unfold sameB; simp
theorem sameB_false {c d : Conf} : sameB c d = false ↔ c ≠ d := by unfold sameB; simp
theorem same_is {p q : Nat → Prop} {v u : Value} {c d : Conf} (w : World) (h : ConfIs p w v c) (h' : ConfIs q w u d) :
    Calls Tryz.prog 61 #[v, u] w fun e w' => e = .returned (.bool (sameB c d)) ∧ Fr Nil w w' :=
  (same_any w h h').mono fun e w' ⟨⟨r, he, hr⟩, hf⟩ => ⟨by
    rw [he]
    have : r = sameB c d := by
      rw [Bool.eq_iff_iff, sameB_true]; exact hr
    rw [this], hf⟩
theorem cellNew_none {p : Nat → Prop} {v : Value} {c : Conf} (w : World) (h : ConfIs p w v c) (n : Int) :
    Calls Tryz.prog 24 #[v, .int .i64 n, .pointer none] w fun e w' => e = .returned (.tuple #[.pointer none, .int .i64 1]) ∧ Fr Nil w w' := by
  obtain ⟨v1, v2, v3, rfl, -, -, -⟩ := h
  go_enter Tryz.func24, Tryz.ntmps24
  go_wp2_with (go_at_call 57; refine (may_none _ _ _ _).mono ?_; rintro e w1 ⟨rfl, rfl⟩)
  go_ret2
  exact ⟨rfl, (Fr.refl _ _).alloc _⟩
theorem cellNew_zero {p : Nat → Prop} {v v2 v3 v4 : Value} {c : Conf} {q k : Nat} (w : World) (h : ConfIs p w v c) (n : Int) (hq : Blk w q [.slice none 0 k, v2, v3, v4]) :
    Calls Tryz.prog 24 #[v, .int .i64 n, .pointer (some ⟨q, 0, none⟩)] w fun e w' => e = .returned (.tuple #[.pointer none, .int .i64 1]) ∧ Fr Nil w w' := by
  obtain ⟨u1, u2, u3, rfl, -, -, -⟩ := h
  have hq1 := hq.alloc (.cells #[u1, u2, u3] 26)
  go_enter Tryz.func24, Tryz.ntmps24
  go_wp2_with (go_at_call 57; refine (may_zero _ hq1 _ _ _).mono ?_; rintro e w1 ⟨rfl, rfl⟩)
  go_ret2
  exact ⟨rfl, (Fr.refl _ _).alloc _⟩
theorem QueuesAt.fr {p S : Nat → Prop} {w w' : World} {q bl : Nat} {s : Qs} {rb : Nat → Option Nat} (h : QueuesAt p w q s bl rb) (f : Fr S w w') (h1 : ¬ S q) (h2 : ¬ S bl) (h3 : ∀ i b, rb i = some b → ¬ S b) (h4 : ∀ b, p b → ¬ S b) : QueuesAt p w' q s bl rb where
  blk := by obtain ⟨v1, v2, v3, hb, hc⟩ := h.blk; exact ⟨v1, v2, v3, hb.fr f h1, hc.fr f h4⟩
  len := h.len
  few := h.few
  some_ := h.some_
  rows := by
    obtain ⟨vs, hb, hl, hr⟩ := h.rows
    refine ⟨vs, hb.fr f h2, hl, fun i ms hi => ?_⟩
    obtain ⟨v, hv, hR, h1c⟩ := hr i ms hi
    refine ⟨v, hv, ?_, h1c⟩
    rcases hR with hR | ⟨b, off, cap, cells, e, rfl, hb', hcl, hcap, hm⟩
    · exact .inl hR
    · refine .inr ⟨b, off, cap, cells, e, rfl, hb'.fr f (h3 i b e), hcl, hcap, fun j m hj => ?_⟩
      obtain ⟨mv, e1, e2, e3⟩ := hm j m hj
      exact ⟨mv, e1, e2.fr f h4, e3⟩
  nq := h.nq
  nbl := h.nbl
  nrb := h.nrb
  qbl := h.qbl
  qrb := h.qrb
  inj := h.inj
theorem QueuesAt.nil {p : Nat → Prop} {w w' : World} {q bl : Nat} {s : Qs} {rb : Nat → Option Nat} (h : QueuesAt p w q s bl rb) (f : Fr Nil w w') : QueuesAt p w' q s bl rb :=
  h.fr f (fun h => h) (fun h => h) (fun _ _ _ h => h) (fun _ _ h => h)
theorem may_minus (s : Qs) : mayE s 0 (-1) true = 4 := by unfold mayE; rw [if_pos (.inl (by omega))]
theorem cellNew_bad {p pq : Nat → Prop} {v : Value} {c : Conf} {q bl : Nat} {s : Qs} {rb : Nat → Option Nat} (w : World) (h : ConfIs p w v c) (n : Int) (hq : QueuesAt pq w q s bl rb) (hbad : checkE c ≠ 0) :
    Calls Tryz.prog 24 #[v, .int .i64 n, .pointer (some ⟨q, 0, none⟩)] w fun e w' => e = .returned (.tuple #[.pointer none, .int .i64 (checkE c)]) ∧ Fr Nil w w' := by
  have hc := h
  obtain ⟨v1, v2, v3, rfl, -, -, -⟩ := h
  have F0 : Fr Nil w (w.alloc (.cells #[v1, v2, v3] 26)) := (Fr.refl _ _).alloc _
  have hc1 := hc.nil F0
  have q1 := hq.nil F0
  have hb : (checkE c != 0) = true := by simpa using hbad
  clear hc
  go_enter Tryz.func24, Tryz.ntmps24
  go_wp2_with (first
    | (go_at_call 57; refine (may_any _ q1 _ _ _).mono ?_; rintro e w1 ⟨rfl, rfl⟩; rw [may_minus])
    | (go_at_call 50; refine (check_any _ hc1).mono ?_; rintro e w1 ⟨rfl, f1⟩))
  go_ret2
  exact ⟨rfl, F0.trans f1 (fun _ _ h => h)⟩
set_option maxHeartbeats 2000000 in
theorem cellNew_arg {p pq : Nat → Prop} {v : Value} {c : Conf} {q bl : Nat} {s : Qs} {rb : Nat → Option Nat} (w : World) (h : ConfIs p w v c) (n : Int) (hq : QueuesAt pq w q s bl rb) (hok : checkE c = 0)
    (hbad : n < 0 ∨ (c.parts.length : Int) ≤ n ∨ c ≠ s.conf) :
    Calls Tryz.prog 24 #[v, .int .i64 n, .pointer (some ⟨q, 0, none⟩)] w fun e w' => e = .returned (.tuple #[.pointer none, .int .i64 2]) ∧ Fr Nil w w' := by
  have hc := h
  obtain ⟨v1, v2, v3, rfl, ⟨a1, n1, k1, rfl, hl1, hm1, hc1⟩, h2, h3⟩ := h
  rw [flat_pair_len] at hl1
  obtain rfl : n1 = c.parts.length := by omega
  have F0 : Fr Nil w (w.alloc (.cells #[.slice a1 c.parts.length k1, v2, v3] 26)) := (Fr.refl _ _).alloc _
  have B0 := Blk.new w [.slice a1 c.parts.length k1, v2, v3] 26
  have hcc := hc.nil F0
  have q1 := hq.nil F0
  clear hl1 hc1 h2 h3
  go_enter Tryz.func24, Tryz.ntmps24
  go_upto_region 6 with (first
    | (go_at_call 57; refine (may_any _ q1 _ _ _).mono ?_; rintro e w1 ⟨rfl, rfl⟩; rw [may_minus])
    | (go_at_call 50; refine (check_any _ hcc).mono ?_; rintro e w1 ⟨rfl, f1⟩; rw [hok]))
  have F1 := F0.trans f1 (fun _ _ h => h)
  have hcd := (hcc.nil f1).nil (Fr.refl Nil _).drew
  have qd := ((q1.nil f1).nil (Fr.refl Nil _).drew)
  obtain ⟨u1, u2, u3, qb, qc⟩ := qd.blk
  have cB : ∀ (x : Cls Nil w1.drew) (o : Nat), x.w.cell? ⟨w.heap.size, o, none⟩ = [Value.slice a1 c.parts.length k1, v2, v3][o]? := (B0.fr f1 (fun h => h)).drew.cls (fun h => h)
  have cQ : ∀ (x : Cls Nil w1.drew) (o : Nat), x.w.cell? ⟨q, o, none⟩ = [u1, u2, u3, Value.slice (some ⟨bl, 0, none⟩) s.l.length s.l.length][o]? := qb.cls (fun h => h)
  have hN : ∀ x : Cls Nil w1.drew, Calls Tryz.prog 61 #[.agg #[.slice a1 c.parts.length k1, v2, v3], .agg #[u1, u2, u3]] x.w fun e w' => e = .returned (.bool (sameB c s.conf)) ∧ Fr Nil x.w w' := fun x =>
    same_is x.w (hcd.nil x.fr) (qc.nil x.fr)
  have hnot := run_not'
  by_cases h0 : n < 0
  · have h0' : decide (n < 0) = true := by simpa using h0
    refine wp_draw_all Nil (by kernel_rfl) (by kernel_rfl) (by kernel_rfl) ?_
    repeat (go_big_quiet_step (fail))
    refine wpQuiet_nil ?_
    intro z
    go_wp2
    go_ret2
    exact ⟨rfl, F1.drew.trans z.fr (fun _ _ h => h)⟩
  · by_cases h1 : (c.parts.length : Int) ≤ n
    · have h0' : decide (n < 0) = false := by simpa using h0
      have h1' : decide ((c.parts.length : Int) ≤ n) = true := by simpa using h1
      refine wp_draw_all Nil (by kernel_rfl) (by kernel_rfl) (by kernel_rfl) ?_
      repeat (go_big_quiet_step (fail))
      refine wpQuiet_nil ?_
      intro z
      go_wp2
      go_ret2
      exact ⟨rfl, F1.drew.trans z.fr (fun _ _ h => h)⟩
    · have hs : sameB c s.conf = false := by
        rw [sameB_false]
        rcases hbad with h | h | h
        · exact absurd h h0
        · exact absurd h h1
        · exact h
      rw [hs] at hN
      have h0' : decide (n < 0) = false := by simpa using h0
      have h1' : decide ((c.parts.length : Int) ≤ n) = false := by simpa using h1
      refine wp_draw_all Nil (by kernel_rfl) (by kernel_rfl) (by kernel_rfl) ?_
      repeat (go_big_quiet_step (((go_at_call 61; exact Calls.cls (hN _) (fun _ h => h)))))
      refine wpQuiet_nil ?_
      intro z
      go_wp2
      go_ret2
      exact ⟨rfl, F1.drew.trans z.fr (fun _ _ h => h)⟩
end Go.Priory
