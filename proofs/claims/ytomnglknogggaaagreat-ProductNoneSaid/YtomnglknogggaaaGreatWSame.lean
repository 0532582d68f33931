/- What slices.Equal at three types, and conf.Same, do. No condition. -/
import Derived.Test.YtomnglknogggaaaGreatWConf
import Derived.Test.YtomnglknogggaaaGreatDraw
import Derived.Laws.StructEq
namespace Go.Priory
open Go.RowKit Go.Proofs
set_option maxRecDepth 100000

theorem neq66_run (w : World) (x y : Int × Int) : (binOp .neq 66 (.agg #[.int .i64 x.1, .int .i64 x.2]) (.agg #[.int .i64 y.1, .int .i64 y.2])).run Tryz.prog w = .ok (.bool (!(x.1 == y.1 && x.2 == y.2))) w := by
  have u3 := Tryz.underlying3
  have a3 := Tryz.isAgg3
  have z3 := Tryz.sizeOf3
  have hS : Tryz.prog.underlying 66 = some (.struct (Tryz.prog.fieldsOf 66)) := by kernel_rfl
  have hp : Tryz.prog.stoodInHeld 66 = false := by kernel_rfl
  rw [run_neq_struct, show (10000 : Nat) = 9999 + 1 from rfl, run_equalIn_agg w 9999 66 _ _ hS hp]
  simp only [Program.fieldsOf, Tryz.underlying66]
  go_simp
  by_cases h0 : x.1 = y.1 <;> by_cases h1 : x.2 = y.2 <;> simp [h0, h1]
theorem pairCells_eq66 {x y : Int × Int} : x = y ↔ (x.1 == y.1 && x.2 == y.2) = true := by
  cases x; cases y; simp [and_assoc]
set_option maxHeartbeats 1000000 in
theorem equal97_any {p q : Nat → Prop} {v u : Value} {l m : List (Int × Int)} (w : World) (h1 : SlcIn p w 2 v (l.flatMap pairCells)) (h2 : SlcIn q w 2 u (m.flatMap pairCells)) :
    Calls Tryz.prog 97 #[v, u] w fun e w' => (∃ r : Bool, e = .returned (.bool r) ∧ (r = true ↔ l = m)) ∧ Fr Nil w w' := by
  obtain ⟨a1, n1, p1, rfl, hl1, hm1, hc1⟩ := h1
  obtain ⟨a2, n2, p2, rfl, hl2, hm2, hc2⟩ := h2
  rw [flat_pair_len] at hl1 hl2
  obtain rfl : n1 = l.length := by omega
  obtain rfl : n2 = m.length := by omega
  clear hl1 hl2
  by_cases hlen : l.length = m.length
  · rw [← hlen]
    have HC1 := Lib.hid hc1
    have HC2 := Lib.hid hc2
    clear hc1 hc2
    go_enter Tryz.func97, Tryz.ntmps97
    go_wp2_with fail
    go_loopw [13] (fun i w1 => ∃ j : Nat, j ≤ l.length ∧ i = .int .i64 j ∧ (∀ i x y, i < j → l[i]? = some x → m[i]? = some y → x = y) ∧ Fr Nil w w1) (fun i _ => l.length - (intOf i).toNat)
    case atStart => exact ⟨0, Nat.zero_le _, rfl, fun i x y h => absurd h (Nat.not_lt_zero _), Fr.refl _ _⟩
    case round =>
      obtain ⟨j, hj, rfl, hjs, f1⟩ := hrel
      have HJ := Lib.hid hjs
      clear hjs
      by_cases hlt : j < l.length
      · obtain ⟨x, hx⟩ : ∃ x, l[j]? = some x := ⟨l[j], by simp [hlt]⟩
        obtain ⟨y, hy⟩ : ∃ y, m[j]? = some y := ⟨m[j]'(by omega), by simp [hlen ▸ hlt]⟩
        obtain ⟨g0, g1⟩ := flat_pair _ _ _ hx
        obtain ⟨k0, k1⟩ := flat_pair _ _ _ hy
        rcases HC1.out with hz | ⟨b1, o1, rfl, -, hc1⟩
        · omega
        rcases HC2.out with hz | ⟨b2, o2, rfl, -, hc2⟩
        · omega
        have e0 : ∀ z : Cls Nil wr.drew, z.w.cell? ⟨b1, o1 + j * 2, none⟩ = some (.int .i64 x.1) := fun z => cell_nil (cell_nil (hc1 _ _ g0) f1.drew) z.fr
        have d0 : ∀ z : Cls Nil wr.drew, z.w.cell? ⟨b2, o2 + j * 2, none⟩ = some (.int .i64 y.1) := fun z => cell_nil (cell_nil (hc2 _ _ k0) f1.drew) z.fr
        have e1 : ∀ z : Cls Nil wr.drew, z.w.cell? ⟨b1, o1 + j * 2 + 1, none⟩ = some (.int .i64 x.2) := fun z => cell_nil (cell_nil (hc1 _ _ g1) f1.drew) z.fr
        have d1 : ∀ z : Cls Nil wr.drew, z.w.cell? ⟨b2, o2 + j * 2 + 1, none⟩ = some (.int .i64 y.2) := fun z => cell_nil (cell_nil (hc2 _ _ k1) f1.drew) z.fr
        have hq := neq66_run
        clear hc1 hc2
        have HX := Lib.hid hx
        have HY := Lib.hid hy
        clear g0 k0 g1 k1 hx hy
        by_cases e : x = y
        · have he : (x.1 == y.1 && x.2 == y.2) = true := pairCells_eq66.1 e
          have hq' : ∀ w', (binOp .neq 66 (.agg #[.int .i64 x.1, .int .i64 x.2]) (.agg #[.int .i64 y.1, .int .i64 y.2])).run Tryz.prog w' = .ok (.bool false) w' := fun w' => by rw [hq, he]; rfl
          clear hq he
          go_wp2_with fail
          refine wp_draw_all Nil (by kernel_rfl) (by kernel_rfl) (by kernel_rfl) ?_
          repeat (go_big_quiet_step (fail))
          refine wpQuiet_nil ?_
          intro z
          go_wp2
          refine ⟨⟨j + 1, by omega, by go_num, fun i x' y' hi hx' hy' => ?_, f1.drew.trans z.fr (fun _ _ h => h)⟩, by simp [intOf]; omega⟩
          by_cases hij : i = j
          · subst hij; rw [HX.out] at hx'; rw [HY.out] at hy'; cases hx'; cases hy'; exact e
          · exact HJ.out i x' y' (by omega) hx' hy'
        · have he : (x.1 == y.1 && x.2 == y.2) = false := by rw [← Bool.not_eq_true]; exact fun h => e (pairCells_eq66.2 h)
          have hq' : ∀ w', (binOp .neq 66 (.agg #[.int .i64 x.1, .int .i64 x.2]) (.agg #[.int .i64 y.1, .int .i64 y.2])).run Tryz.prog w' = .ok (.bool true) w' := fun w' => by rw [hq, he]; rfl
          clear hq he
          go_wp2_with fail
          refine wp_draw_all Nil (by kernel_rfl) (by kernel_rfl) (by kernel_rfl) ?_
          repeat (go_big_quiet_step (fail))
          refine wpQuiet_nil ?_
          intro z
          go_wp2
          go_ret
          exact ⟨⟨false, rfl, by simp; exact fun h => e (by have := HX.out; rw [h, HY.out] at this; exact (Option.some.inj this).symm)⟩, f1.drew.trans z.fr (fun _ _ h => h)⟩
      · obtain rfl : j = l.length := by omega
        go_wp2
        go_ret
        refine ⟨⟨true, rfl, by simp; exact List.ext_getElem hlen fun i h1 h2 => HJ.out i _ _ h1 (List.getElem?_eq_getElem h1) (List.getElem?_eq_getElem h2)⟩, f1⟩
  · have hb : (((l.length : Nat) : Int) != ((m.length : Nat) : Int)) = true := by simp only [bne_iff_ne, ne_eq]; omega
    go_enter Tryz.func97, Tryz.ntmps97
    go_wp2
    go_ret
    exact ⟨⟨false, rfl, by simp; exact fun h => hlen (by rw [h])⟩, Fr.refl _ _⟩

theorem neq107_run (w : World) (x y : Int × Int) : (binOp .neq 107 (.agg #[.int .i64 x.1, .int .i64 x.2]) (.agg #[.int .i64 y.1, .int .i64 y.2])).run Tryz.prog w = .ok (.bool (!(x.1 == y.1 && x.2 == y.2))) w := by
  have u3 := Tryz.underlying3
  have a3 := Tryz.isAgg3
  have z3 := Tryz.sizeOf3
  have hS : Tryz.prog.underlying 107 = some (.struct (Tryz.prog.fieldsOf 107)) := by kernel_rfl
  have hp : Tryz.prog.stoodInHeld 107 = false := by kernel_rfl
  rw [run_neq_struct, show (10000 : Nat) = 9999 + 1 from rfl, run_equalIn_agg w 9999 107 _ _ hS hp]
  simp only [Program.fieldsOf, Tryz.underlying107]
  go_simp
  by_cases h0 : x.1 = y.1 <;> by_cases h1 : x.2 = y.2 <;> simp [h0, h1]
theorem pairCells_eq107 {x y : Int × Int} : x = y ↔ (x.1 == y.1 && x.2 == y.2) = true := by
  cases x; cases y; simp [and_assoc]
set_option maxHeartbeats 1000000 in
theorem equal98_any {p q : Nat → Prop} {v u : Value} {l m : List (Int × Int)} (w : World) (h1 : SlcIn p w 2 v (l.flatMap pairCells)) (h2 : SlcIn q w 2 u (m.flatMap pairCells)) :
    Calls Tryz.prog 98 #[v, u] w fun e w' => (∃ r : Bool, e = .returned (.bool r) ∧ (r = true ↔ l = m)) ∧ Fr Nil w w' := by
  obtain ⟨a1, n1, p1, rfl, hl1, hm1, hc1⟩ := h1
  obtain ⟨a2, n2, p2, rfl, hl2, hm2, hc2⟩ := h2
  rw [flat_pair_len] at hl1 hl2
  obtain rfl : n1 = l.length := by omega
  obtain rfl : n2 = m.length := by omega
  clear hl1 hl2
  by_cases hlen : l.length = m.length
  · rw [← hlen]
    have HC1 := Lib.hid hc1
    have HC2 := Lib.hid hc2
    clear hc1 hc2
    go_enter Tryz.func98, Tryz.ntmps98
    go_wp2_with fail
    go_loopw [13] (fun i w1 => ∃ j : Nat, j ≤ l.length ∧ i = .int .i64 j ∧ (∀ i x y, i < j → l[i]? = some x → m[i]? = some y → x = y) ∧ Fr Nil w w1) (fun i _ => l.length - (intOf i).toNat)
    case atStart => exact ⟨0, Nat.zero_le _, rfl, fun i x y h => absurd h (Nat.not_lt_zero _), Fr.refl _ _⟩
    case round =>
      obtain ⟨j, hj, rfl, hjs, f1⟩ := hrel
      have HJ := Lib.hid hjs
      clear hjs
      by_cases hlt : j < l.length
      · obtain ⟨x, hx⟩ : ∃ x, l[j]? = some x := ⟨l[j], by simp [hlt]⟩
        obtain ⟨y, hy⟩ : ∃ y, m[j]? = some y := ⟨m[j]'(by omega), by simp [hlen ▸ hlt]⟩
        obtain ⟨g0, g1⟩ := flat_pair _ _ _ hx
        obtain ⟨k0, k1⟩ := flat_pair _ _ _ hy
        rcases HC1.out with hz | ⟨b1, o1, rfl, -, hc1⟩
        · omega
        rcases HC2.out with hz | ⟨b2, o2, rfl, -, hc2⟩
        · omega
        have e0 : ∀ z : Cls Nil wr.drew, z.w.cell? ⟨b1, o1 + j * 2, none⟩ = some (.int .i64 x.1) := fun z => cell_nil (cell_nil (hc1 _ _ g0) f1.drew) z.fr
        have d0 : ∀ z : Cls Nil wr.drew, z.w.cell? ⟨b2, o2 + j * 2, none⟩ = some (.int .i64 y.1) := fun z => cell_nil (cell_nil (hc2 _ _ k0) f1.drew) z.fr
        have e1 : ∀ z : Cls Nil wr.drew, z.w.cell? ⟨b1, o1 + j * 2 + 1, none⟩ = some (.int .i64 x.2) := fun z => cell_nil (cell_nil (hc1 _ _ g1) f1.drew) z.fr
        have d1 : ∀ z : Cls Nil wr.drew, z.w.cell? ⟨b2, o2 + j * 2 + 1, none⟩ = some (.int .i64 y.2) := fun z => cell_nil (cell_nil (hc2 _ _ k1) f1.drew) z.fr
        have hq := neq107_run
        clear hc1 hc2
        have HX := Lib.hid hx
        have HY := Lib.hid hy
        clear g0 k0 g1 k1 hx hy
        by_cases e : x = y
        · have he : (x.1 == y.1 && x.2 == y.2) = true := pairCells_eq107.1 e
          have hq' : ∀ w', (binOp .neq 107 (.agg #[.int .i64 x.1, .int .i64 x.2]) (.agg #[.int .i64 y.1, .int .i64 y.2])).run Tryz.prog w' = .ok (.bool false) w' := fun w' => by rw [hq, he]; rfl
          clear hq he
          go_wp2_with fail
          refine wp_draw_all Nil (by kernel_rfl) (by kernel_rfl) (by kernel_rfl) ?_
          repeat (go_big_quiet_step (fail))
          refine wpQuiet_nil ?_
          intro z
          go_wp2
          refine ⟨⟨j + 1, by omega, by go_num, fun i x' y' hi hx' hy' => ?_, f1.drew.trans z.fr (fun _ _ h => h)⟩, by simp [intOf]; omega⟩
          by_cases hij : i = j
          · subst hij; rw [HX.out] at hx'; rw [HY.out] at hy'; cases hx'; cases hy'; exact e
          · exact HJ.out i x' y' (by omega) hx' hy'
        · have he : (x.1 == y.1 && x.2 == y.2) = false := by rw [← Bool.not_eq_true]; exact fun h => e (pairCells_eq107.2 h)
          have hq' : ∀ w', (binOp .neq 107 (.agg #[.int .i64 x.1, .int .i64 x.2]) (.agg #[.int .i64 y.1, .int .i64 y.2])).run Tryz.prog w' = .ok (.bool true) w' := fun w' => by rw [hq, he]; rfl
          clear hq he
          go_wp2_with fail
          refine wp_draw_all Nil (by kernel_rfl) (by kernel_rfl) (by kernel_rfl) ?_
          repeat (go_big_quiet_step (fail))
          refine wpQuiet_nil ?_
          intro z
          go_wp2
          go_ret
          exact ⟨⟨false, rfl, by simp; exact fun h => e (by have := HX.out; rw [h, HY.out] at this; exact (Option.some.inj this).symm)⟩, f1.drew.trans z.fr (fun _ _ h => h)⟩
      · obtain rfl : j = l.length := by omega
        go_wp2
        go_ret
        refine ⟨⟨true, rfl, by simp; exact List.ext_getElem hlen fun i h1 h2 => HJ.out i _ _ h1 (List.getElem?_eq_getElem h1) (List.getElem?_eq_getElem h2)⟩, f1⟩
  · have hb : (((l.length : Nat) : Int) != ((m.length : Nat) : Int)) = true := by simp only [bne_iff_ne, ne_eq]; omega
    go_enter Tryz.func98, Tryz.ntmps98
    go_wp2
    go_ret
    exact ⟨⟨false, rfl, by simp; exact fun h => hlen (by rw [h])⟩, Fr.refl _ _⟩

theorem neq109_run (w : World) (x y : Chan) : (binOp .neq 109 (.agg #[.int .i64 x.from_, .int .i64 x.to, .int .i64 x.cap, .int .i64 x.words]) (.agg #[.int .i64 y.from_, .int .i64 y.to, .int .i64 y.cap, .int .i64 y.words])).run Tryz.prog w = .ok (.bool (!(x.from_ == y.from_ && x.to == y.to && x.cap == y.cap && x.words == y.words))) w := by
  have u3 := Tryz.underlying3
  have a3 := Tryz.isAgg3
  have z3 := Tryz.sizeOf3
  have hS : Tryz.prog.underlying 109 = some (.struct (Tryz.prog.fieldsOf 109)) := by kernel_rfl
  have hp : Tryz.prog.stoodInHeld 109 = false := by kernel_rfl
  rw [run_neq_struct, show (10000 : Nat) = 9999 + 1 from rfl, run_equalIn_agg w 9999 109 _ _ hS hp]
  simp only [Program.fieldsOf, Tryz.underlying109]
  go_simp
  by_cases h0 : x.from_ = y.from_ <;> by_cases h1 : x.to = y.to <;> by_cases h2 : x.cap = y.cap <;> by_cases h3 : x.words = y.words <;> simp [h0, h1, h2, h3]
theorem chanCells_eq109 {x y : Chan} : x = y ↔ (x.from_ == y.from_ && x.to == y.to && x.cap == y.cap && x.words == y.words) = true := by
  cases x; cases y; simp [and_assoc]
set_option maxHeartbeats 1000000 in
theorem equal99_any {p q : Nat → Prop} {v u : Value} {l m : List (Chan)} (w : World) (h1 : SlcIn p w 4 v (l.flatMap chanCells)) (h2 : SlcIn q w 4 u (m.flatMap chanCells)) :
    Calls Tryz.prog 99 #[v, u] w fun e w' => (∃ r : Bool, e = .returned (.bool r) ∧ (r = true ↔ l = m)) ∧ Fr Nil w w' := by
  obtain ⟨a1, n1, p1, rfl, hl1, hm1, hc1⟩ := h1
  obtain ⟨a2, n2, p2, rfl, hl2, hm2, hc2⟩ := h2
  rw [flat_chan_len] at hl1 hl2
  obtain rfl : n1 = l.length := by omega
  obtain rfl : n2 = m.length := by omega
  clear hl1 hl2
  by_cases hlen : l.length = m.length
  · rw [← hlen]
    have HC1 := Lib.hid hc1
    have HC2 := Lib.hid hc2
    clear hc1 hc2
    go_enter Tryz.func99, Tryz.ntmps99
    go_wp2_with fail
    go_loopw [13] (fun i w1 => ∃ j : Nat, j ≤ l.length ∧ i = .int .i64 j ∧ (∀ i x y, i < j → l[i]? = some x → m[i]? = some y → x = y) ∧ Fr Nil w w1) (fun i _ => l.length - (intOf i).toNat)
    case atStart => exact ⟨0, Nat.zero_le _, rfl, fun i x y h => absurd h (Nat.not_lt_zero _), Fr.refl _ _⟩
    case round =>
      obtain ⟨j, hj, rfl, hjs, f1⟩ := hrel
      have HJ := Lib.hid hjs
      clear hjs
      by_cases hlt : j < l.length
      · obtain ⟨x, hx⟩ : ∃ x, l[j]? = some x := ⟨l[j], by simp [hlt]⟩
        obtain ⟨y, hy⟩ : ∃ y, m[j]? = some y := ⟨m[j]'(by omega), by simp [hlen ▸ hlt]⟩
        obtain ⟨g0, g1, g2, g3⟩ := flat_chan _ _ _ hx
        obtain ⟨k0, k1, k2, k3⟩ := flat_chan _ _ _ hy
        rcases HC1.out with hz | ⟨b1, o1, rfl, -, hc1⟩
        · omega
        rcases HC2.out with hz | ⟨b2, o2, rfl, -, hc2⟩
        · omega
        have e0 : ∀ z : Cls Nil wr.drew, z.w.cell? ⟨b1, o1 + j * 4, none⟩ = some (.int .i64 x.from_) := fun z => cell_nil (cell_nil (hc1 _ _ g0) f1.drew) z.fr
        have d0 : ∀ z : Cls Nil wr.drew, z.w.cell? ⟨b2, o2 + j * 4, none⟩ = some (.int .i64 y.from_) := fun z => cell_nil (cell_nil (hc2 _ _ k0) f1.drew) z.fr
        have e1 : ∀ z : Cls Nil wr.drew, z.w.cell? ⟨b1, o1 + j * 4 + 1, none⟩ = some (.int .i64 x.to) := fun z => cell_nil (cell_nil (hc1 _ _ g1) f1.drew) z.fr
        have d1 : ∀ z : Cls Nil wr.drew, z.w.cell? ⟨b2, o2 + j * 4 + 1, none⟩ = some (.int .i64 y.to) := fun z => cell_nil (cell_nil (hc2 _ _ k1) f1.drew) z.fr
        have e2 : ∀ z : Cls Nil wr.drew, z.w.cell? ⟨b1, o1 + j * 4 + 2, none⟩ = some (.int .i64 x.cap) := fun z => cell_nil (cell_nil (hc1 _ _ g2) f1.drew) z.fr
        have d2 : ∀ z : Cls Nil wr.drew, z.w.cell? ⟨b2, o2 + j * 4 + 2, none⟩ = some (.int .i64 y.cap) := fun z => cell_nil (cell_nil (hc2 _ _ k2) f1.drew) z.fr
        have e3 : ∀ z : Cls Nil wr.drew, z.w.cell? ⟨b1, o1 + j * 4 + 3, none⟩ = some (.int .i64 x.words) := fun z => cell_nil (cell_nil (hc1 _ _ g3) f1.drew) z.fr
        have d3 : ∀ z : Cls Nil wr.drew, z.w.cell? ⟨b2, o2 + j * 4 + 3, none⟩ = some (.int .i64 y.words) := fun z => cell_nil (cell_nil (hc2 _ _ k3) f1.drew) z.fr
        have hq := neq109_run
        clear hc1 hc2
        have HX := Lib.hid hx
        have HY := Lib.hid hy
        clear g0 k0 g1 k1 g2 k2 g3 k3 hx hy
        by_cases e : x = y
        · have he : (x.from_ == y.from_ && x.to == y.to && x.cap == y.cap && x.words == y.words) = true := chanCells_eq109.1 e
          have hq' : ∀ w', (binOp .neq 109 (.agg #[.int .i64 x.from_, .int .i64 x.to, .int .i64 x.cap, .int .i64 x.words]) (.agg #[.int .i64 y.from_, .int .i64 y.to, .int .i64 y.cap, .int .i64 y.words])).run Tryz.prog w' = .ok (.bool false) w' := fun w' => by rw [hq, he]; rfl
          clear hq he
          go_wp2_with fail
          refine wp_draw_all Nil (by kernel_rfl) (by kernel_rfl) (by kernel_rfl) ?_
          repeat (go_big_quiet_step (fail))
          refine wpQuiet_nil ?_
          intro z
          go_wp2
          refine ⟨⟨j + 1, by omega, by go_num, fun i x' y' hi hx' hy' => ?_, f1.drew.trans z.fr (fun _ _ h => h)⟩, by simp [intOf]; omega⟩
          by_cases hij : i = j
          · subst hij; rw [HX.out] at hx'; rw [HY.out] at hy'; cases hx'; cases hy'; exact e
          · exact HJ.out i x' y' (by omega) hx' hy'
        · have he : (x.from_ == y.from_ && x.to == y.to && x.cap == y.cap && x.words == y.words) = false := by rw [← Bool.not_eq_true]; exact fun h => e (chanCells_eq109.2 h)
          have hq' : ∀ w', (binOp .neq 109 (.agg #[.int .i64 x.from_, .int .i64 x.to, .int .i64 x.cap, .int .i64 x.words]) (.agg #[.int .i64 y.from_, .int .i64 y.to, .int .i64 y.cap, .int .i64 y.words])).run Tryz.prog w' = .ok (.bool true) w' := fun w' => by rw [hq, he]; rfl
          clear hq he
          go_wp2_with fail
          refine wp_draw_all Nil (by kernel_rfl) (by kernel_rfl) (by kernel_rfl) ?_
          repeat (go_big_quiet_step (fail))
          refine wpQuiet_nil ?_
          intro z
          go_wp2
          go_ret
          exact ⟨⟨false, rfl, by simp; exact fun h => e (by have := HX.out; rw [h, HY.out] at this; exact (Option.some.inj this).symm)⟩, f1.drew.trans z.fr (fun _ _ h => h)⟩
      · obtain rfl : j = l.length := by omega
        go_wp2
        go_ret
        refine ⟨⟨true, rfl, by simp; exact List.ext_getElem hlen fun i h1 h2 => HJ.out i _ _ h1 (List.getElem?_eq_getElem h1) (List.getElem?_eq_getElem h2)⟩, f1⟩
  · have hb : (((l.length : Nat) : Int) != ((m.length : Nat) : Int)) = true := by simp only [bne_iff_ne, ne_eq]; omega
    go_enter Tryz.func99, Tryz.ntmps99
    go_wp2
    go_ret
    exact ⟨⟨false, rfl, by simp; exact fun h => hlen (by rw [h])⟩, Fr.refl _ _⟩

set_option maxHeartbeats 1000000 in
theorem same_any {p q : Nat → Prop} {v u : Value} {c d : Conf} (w : World) (h : ConfIs p w v c) (h' : ConfIs q w u d) :
    Calls Tryz.prog 61 #[v, u] w fun e w' => (∃ r : Bool, e = .returned (.bool r) ∧ (r = true ↔ c = d)) ∧ Fr Nil w w' := by
  obtain ⟨v1, v2, v3, rfl, a1, a2, a3⟩ := h
  obtain ⟨u1, u2, u3, rfl, b1, b2, b3⟩ := h'
  have f0 : Fr Nil w ((w.alloc (.cells #[v1, v2, v3] 26)).alloc (.cells #[u1, u2, u3] 26)) := ((Fr.refl _ _).alloc _).alloc _
  have X := (Blk.new w [v1, v2, v3] 26).alloc (.cells #[u1, u2, u3] 26)
  have Y := Blk.new (w.alloc (.cells #[v1, v2, v3] 26)) [u1, u2, u3] 26
  rw [World.size_alloc] at Y
  have x0 := X.cell
  have y0 := Y.cell
  replace a1 := a1.nil f0
  replace a2 := a2.nil f0
  replace a3 := a3.nil f0
  replace b1 := b1.nil f0
  replace b2 := b2.nil f0
  replace b3 := b3.nil f0
  have hcd : c = d ↔ (c.parts = d.parts ∧ c.wins = d.wins ∧ c.chans = d.chans) := by cases c; cases d; simp
  have HCD := Lib.hid hcd
  clear hcd
  go_enter Tryz.func61, Tryz.ntmps61
  go_wp2_with (first
    | (go_at_call 97; refine (equal97_any _ a1 b1).mono ?_; rintro e wa ⟨⟨r1, rfl, hr1⟩, g1⟩; have HR1 := Lib.hid hr1; clear hr1; have x1 := (X.fr g1 (fun h => h)).cell; have y1 := (Y.fr g1 (fun h => h)).cell; have a2' := a2.nil g1; have b2' := b2.nil g1)
    | (go_at_call 98; refine (equal98_any _ a2' b2').mono ?_; rintro e wb ⟨⟨r2, rfl, hr2⟩, g2⟩; have HR2 := Lib.hid hr2; clear hr2; have g12 := g1.trans g2 (fun _ _ h => h); have x2 := (X.fr g12 (fun h => h)).cell; have y2 := (Y.fr g12 (fun h => h)).cell; have a3' := a3.nil g12; have b3' := b3.nil g12)
    | (go_at_call 99; refine (equal99_any _ a3' b3').mono ?_; rintro e wc ⟨⟨r3, rfl, hr3⟩, g3⟩; have HR3 := Lib.hid hr3; clear hr3))
  · have t1 : r1 = true := by assumption
    have t2 : r2 = true := by assumption
    go_ret
    exact ⟨⟨r3, rfl, by rw [HCD.out, HR3.out]; exact ⟨fun e => ⟨HR1.out.1 t1, HR2.out.1 t2, e⟩, fun h => h.2.2⟩⟩, (f0.trans g12 (fun _ _ h => h)).trans g3 (fun _ _ h => h)⟩
  · have t2 : ¬ r2 = true := by assumption
    go_ret
    exact ⟨⟨false, rfl, by rw [HCD.out]; exact ⟨fun e => (by cases e), fun h => absurd (HR2.out.2 h.2.1) t2⟩⟩, f0.trans g12 (fun _ _ h => h)⟩
  · have t1 : ¬ r1 = true := by assumption
    go_ret
    exact ⟨⟨false, rfl, by rw [HCD.out]; exact ⟨fun e => (by cases e), fun h => absurd (HR1.out.2 h.1) t1⟩⟩, f0.trans g1 (fun _ _ h => h)⟩
end Go.Priory
