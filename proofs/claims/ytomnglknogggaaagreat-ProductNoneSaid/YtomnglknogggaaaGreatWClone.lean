/- What slices.Clone does, at three types. No condition. -/
import Derived.Test.YtomnglknogggaaaGreatWConf
import Derived.Lib.SliceRun
namespace Go.Priory
open Go.RowKit Go.Proofs
set_option maxRecDepth 100000

theorem cell_add {w : World} {b off j : Nat} {u : Value} (h : w.cell? ⟨b, off + j, none⟩ = some u) : w.cell? (Addr.add ⟨b, off, none⟩ j) = some u := by
  cases j with
  | zero => simpa [Addr.add] using h
  | succ j => simpa [Addr.add] using h

theorem info66 : (Tryz.prog.info? 66).map (fun i => (i.zero, i.size, i.bytes)) = some (some (.agg #[.int .i64 0, .int .i64 0]), 2, 16) := by kernel_rfl
set_option maxHeartbeats 1000000 in
theorem clone51_any {p : Nat → Prop} {v : Value} {cs : List Value} (w : World) (h : SlcIn p w 2 v cs) (h1 : ∀ u ∈ cs, u.oneCell' = true) (hb : cs.length ≤ 100000) :
    Calls Tryz.prog 51 #[v] w fun e w' => ∃ v', e = .returned v' ∧ SlcIn (Gr Nil w w') w' 2 v' cs ∧ Fr Nil w w' := by
  obtain ⟨a, n, cap, rfl, hlen, hmax, hc⟩ := h
  obtain ⟨i0, hi, hz0, hz1, hz2⟩ := info_parts info66
  cases a with
  | none =>
    rcases hc with rfl | ⟨b, off, hx, _⟩
    · obtain rfl : cs = [] := List.eq_nil_of_length_eq_zero (by simpa using hlen)
      have hq := fun w' => Lib.run_eql_slice_nil (P := Tryz.prog) w' 22 66 none 0 cap 0 0 Tryz.underlying22
      go_enter Tryz.func51, Tryz.ntmps51
      go_wp2
      go_ret
      exact ⟨_, rfl, SlcIn.none _ _ _, Fr.refl _ _⟩
    · cases hx
  | some a =>
    have hcs : ∀ j u, cs[j]? = some u → w.cell? (a.add j) = some u := by
      rcases hc with rfl | ⟨b, off, hx, _, hc⟩
      · obtain rfl : cs = [] := List.eq_nil_of_length_eq_zero (by simpa using hlen)
        intro j u hj
        simp at hj
      · cases hx; exact fun j u hj => cell_add (hc j u hj)
    have hcs2 : ∀ j u, cs[j]? = some u → (w.alloc (.cells #[] 66)).cell? (a.add j) = some u := fun j u hj => cell_nil (hcs j u hj) ((Fr.refl _ _).alloc _)
    have hown := World.ownsRow_made (base := w.heap.size) (e := 66) (size := 2) w #[] 0 (Nat.le_refl _) (by unfold maxLen; omega) (by simp)
    have hq := fun w' => Lib.run_eql_slice_nil (P := Tryz.prog) w' 22 66 (some a) n cap 0 0 Tryz.underlying22
    go_enter Tryz.func51, Tryz.ntmps51
    go_wp2_with (at_builtin; refine wpList_append_own _ rfl _ _ 22 rfl w.heap.size 66 i0 (.agg #[.int .i64 0, .int .i64 0]) 2 16 Tryz.underlying22 hi hz0 hz1 hz2 rfl (by decide) _ 0 [] rfl hown a n cap cs rfl hlen hcs2 h1 (by unfold maxLen; omega) (by omega) (by simp) ?_; intro v' w2 hown2 hgrow _)
    go_ret
    rw [List.nil_append, Nat.zero_add] at hown2
    refine ⟨v', rfl, SlcIn.of_owns hown2 hmax, ((Fr.refl _ _).alloc _).grown hgrow (fun b hb e => ?_)⟩
    have e' := Option.some.inj e
    simp only at e'
    omega
theorem info107 : (Tryz.prog.info? 107).map (fun i => (i.zero, i.size, i.bytes)) = some (some (.agg #[.int .i64 0, .int .i64 0]), 2, 16) := by kernel_rfl
set_option maxHeartbeats 1000000 in
theorem clone52_any {p : Nat → Prop} {v : Value} {cs : List Value} (w : World) (h : SlcIn p w 2 v cs) (h1 : ∀ u ∈ cs, u.oneCell' = true) (hb : cs.length ≤ 100000) :
    Calls Tryz.prog 52 #[v] w fun e w' => ∃ v', e = .returned v' ∧ SlcIn (Gr Nil w w') w' 2 v' cs ∧ Fr Nil w w' := by
  obtain ⟨a, n, cap, rfl, hlen, hmax, hc⟩ := h
  obtain ⟨i0, hi, hz0, hz1, hz2⟩ := info_parts info107
  cases a with
  | none =>
    rcases hc with rfl | ⟨b, off, hx, _⟩
    · obtain rfl : cs = [] := List.eq_nil_of_length_eq_zero (by simpa using hlen)
      have hq := fun w' => Lib.run_eql_slice_nil (P := Tryz.prog) w' 23 107 none 0 cap 0 0 Tryz.underlying23
      go_enter Tryz.func52, Tryz.ntmps52
      go_wp2
      go_ret
      exact ⟨_, rfl, SlcIn.none _ _ _, Fr.refl _ _⟩
    · cases hx
  | some a =>
    have hcs : ∀ j u, cs[j]? = some u → w.cell? (a.add j) = some u := by
      rcases hc with rfl | ⟨b, off, hx, _, hc⟩
      · obtain rfl : cs = [] := List.eq_nil_of_length_eq_zero (by simpa using hlen)
        intro j u hj
        simp at hj
      · cases hx; exact fun j u hj => cell_add (hc j u hj)
    have hcs2 : ∀ j u, cs[j]? = some u → (w.alloc (.cells #[] 107)).cell? (a.add j) = some u := fun j u hj => cell_nil (hcs j u hj) ((Fr.refl _ _).alloc _)
    have hown := World.ownsRow_made (base := w.heap.size) (e := 107) (size := 2) w #[] 0 (Nat.le_refl _) (by unfold maxLen; omega) (by simp)
    have hq := fun w' => Lib.run_eql_slice_nil (P := Tryz.prog) w' 23 107 (some a) n cap 0 0 Tryz.underlying23
    go_enter Tryz.func52, Tryz.ntmps52
    go_wp2_with (at_builtin; refine wpList_append_own _ rfl _ _ 23 rfl w.heap.size 107 i0 (.agg #[.int .i64 0, .int .i64 0]) 2 16 Tryz.underlying23 hi hz0 hz1 hz2 rfl (by decide) _ 0 [] rfl hown a n cap cs rfl hlen hcs2 h1 (by unfold maxLen; omega) (by omega) (by simp) ?_; intro v' w2 hown2 hgrow _)
    go_ret
    rw [List.nil_append, Nat.zero_add] at hown2
    refine ⟨v', rfl, SlcIn.of_owns hown2 hmax, ((Fr.refl _ _).alloc _).grown hgrow (fun b hb e => ?_)⟩
    have e' := Option.some.inj e
    simp only at e'
    omega
theorem info109 : (Tryz.prog.info? 109).map (fun i => (i.zero, i.size, i.bytes)) = some (some (.agg #[.int .i64 0, .int .i64 0, .int .i64 0, .int .i64 0]), 4, 32) := by kernel_rfl
set_option maxHeartbeats 1000000 in
theorem clone53_any {p : Nat → Prop} {v : Value} {cs : List Value} (w : World) (h : SlcIn p w 4 v cs) (h1 : ∀ u ∈ cs, u.oneCell' = true) (hb : cs.length ≤ 100000) :
    Calls Tryz.prog 53 #[v] w fun e w' => ∃ v', e = .returned v' ∧ SlcIn (Gr Nil w w') w' 4 v' cs ∧ Fr Nil w w' := by
  obtain ⟨a, n, cap, rfl, hlen, hmax, hc⟩ := h
  obtain ⟨i0, hi, hz0, hz1, hz2⟩ := info_parts info109
  cases a with
  | none =>
    rcases hc with rfl | ⟨b, off, hx, _⟩
    · obtain rfl : cs = [] := List.eq_nil_of_length_eq_zero (by simpa using hlen)
      have hq := fun w' => Lib.run_eql_slice_nil (P := Tryz.prog) w' 24 109 none 0 cap 0 0 Tryz.underlying24
      go_enter Tryz.func53, Tryz.ntmps53
      go_wp2
      go_ret
      exact ⟨_, rfl, SlcIn.none _ _ _, Fr.refl _ _⟩
    · cases hx
  | some a =>
    have hcs : ∀ j u, cs[j]? = some u → w.cell? (a.add j) = some u := by
      rcases hc with rfl | ⟨b, off, hx, _, hc⟩
      · obtain rfl : cs = [] := List.eq_nil_of_length_eq_zero (by simpa using hlen)
        intro j u hj
        simp at hj
      · cases hx; exact fun j u hj => cell_add (hc j u hj)
    have hcs2 : ∀ j u, cs[j]? = some u → (w.alloc (.cells #[] 109)).cell? (a.add j) = some u := fun j u hj => cell_nil (hcs j u hj) ((Fr.refl _ _).alloc _)
    have hown := World.ownsRow_made (base := w.heap.size) (e := 109) (size := 4) w #[] 0 (Nat.le_refl _) (by unfold maxLen; omega) (by simp)
    have hq := fun w' => Lib.run_eql_slice_nil (P := Tryz.prog) w' 24 109 (some a) n cap 0 0 Tryz.underlying24
    go_enter Tryz.func53, Tryz.ntmps53
    go_wp2_with (at_builtin; refine wpList_append_own _ rfl _ _ 24 rfl w.heap.size 109 i0 (.agg #[.int .i64 0, .int .i64 0, .int .i64 0, .int .i64 0]) 4 32 Tryz.underlying24 hi hz0 hz1 hz2 rfl (by decide) _ 0 [] rfl hown a n cap cs rfl hlen hcs2 h1 (by unfold maxLen; omega) (by omega) (by simp) ?_; intro v' w2 hown2 hgrow _)
    go_ret
    rw [List.nil_append, Nat.zero_add] at hown2
    refine ⟨v', rfl, SlcIn.of_owns hown2 hmax, ((Fr.refl _ _).alloc _).grown hgrow (fun b hb e => ?_)⟩
    have e' := Option.some.inj e
    simp only at e'
    omega
end Go.Priory
