/- The product of the document's example: what two and the first steps of it are (package priorylaw26). No condition. -/
import Derived.Test.YtomnglknogggaaaGreatWProd6
namespace Go.Priory
open Go.RowKit Go.Proofs
set_option maxRecDepth 100000

theorem newSt_ok {i slots quota : Int} (hq : 4 ≤ quota ∧ quota ≤ 256) : CellOk0 (newSt i slots quota) := by
  have e : (newSt i slots quota).men = [(1, emptyMan)] := rfl
  refine ⟨by rw [e]; simp [Sorted], fun p hp => ?_, fun p hp => ?_, ?_, ?_⟩
  · rw [e] at hp
    simp only [List.mem_singleton] at hp
    subst hp
    exact ⟨rfl, by decide, by simp [emptyMan, Sorted], by simp [emptyMan, mkeys], by simp [emptyMan]⟩
  · rw [e] at hp
    simp only [List.mem_singleton] at hp
    subst hp
    simp
  · refine NodesOk.charge ?_ _ _
    refine ⟨by simp [newSt0, Sorted], fun p hp => ?_⟩
    simp only [newSt0, List.mem_singleton] at hp
    subst hp
    simp only
    omega
  · have : (newSt i slots quota).row = [1] := rfl
    rw [this]
    exact ⟨by simp, by simp⟩
theorem prod0_ok {c : Conf} (hok : checkE c = 0) : ProdOk (prod0 c) := by
  obtain ⟨hn, -⟩ := checkE_ok.1 hok
  obtain ⟨l1, l2⟩ := hn.lp
  obtain ⟨l3, l4⟩ := hn.lw
  refine ⟨⟨by show c.wins.length ≤ 32; omega, by show 0 < c.wins.length; omega, fun x hx => ?_, fun x hx => ?_, by show (0 : Int) ≤ 0; omega, by show (0 : Int) < 1000000; omega⟩, fun x hx => ?_, fun d hd => ?_⟩
  · have := hn.wins x hx
    unfold winOk between at this
    omega
  · have := hn.wins x (List.mem_of_getElem? hx)
    unfold winOk between at this
    show (0 : Int) ≤ 0 ∧ (0 : Int) < x.2
    omega
  · have := hn.wins x hx
    unfold winOk between at this
    show 0 ≤ x.1 ∧ x.1 < (newCells c).length
    rw [newCells_len]
    omega
  · obtain ⟨i, hi⟩ := List.getElem?_of_mem (show d ∈ newCells c from hd)
    obtain ⟨x, hx, rfl⟩ := newCells_get hi
    have := hn.parts x (List.mem_of_getElem? hx)
    unfold partOk between at this
    exact newSt_ok (by omega)
def confTwo : Conf := ⟨[(9, 1), (9, 1)], [(0, 2), (1, 1)], []⟩
theorem two_ok : checkE confTwo = 0 := by
  refine checkE_ok.2 ⟨⟨by unfold between; decide, by unfold between; decide, by decide, ?_, ?_, ?_, ?_⟩, by decide⟩
  · intro p hp; simp [confTwo] at hp; subst hp; unfold partOk between; decide
  · intro p hp; simp [confTwo] at hp; rcases hp with rfl | rfl <;> (unfold winOk between; decide)
  · intro i hi
    have : i < 2 := hi
    have : i = 0 ∨ i = 1 := by omega
    rcases this with rfl | rfl
    · exact ⟨(0, 2), by simp [confTwo], rfl⟩
    · exact ⟨(1, 1), by simp [confTwo], rfl⟩
  · intro x hx; cases hx
theorem two_obs1 : obsTick (tickP (prod0 confTwo)) = .agg #[.int .i64 0, .int .i64 1, .int .i64 0, .int .u32 1, .int .u32 0] := by kernel_rfl
theorem two_obs2 : obsTick (tickP (tickP (prod0 confTwo))) = .agg #[.int .i64 1, .int .i64 1, .int .i64 0, .int .u32 2, .int .u32 1] := by kernel_rfl
theorem two_used : pusedE (tickP (tickP (prod0 confTwo))) 0 = 1 := by kernel_rfl
theorem two_left : pleftE (tickP (tickP (prod0 confTwo))) 1 1 = 8 := by kernel_rfl
theorem SlcIn.blk {p : Nat → Prop} {w : World} {b k n cap : Nat} {cs : List Value} (h : Blk w b cs) (hp : p b) (hl : cs.length = n * k) (hn : n ≤ 9223372036854775807) : SlcIn p w k (.slice (some ⟨b, 0, Option.none⟩) n cap) cs :=
  ⟨_, _, _, rfl, hl, hn, .inr ⟨b, 0, rfl, hp, fun j u hj => by rw [Nat.zero_add, h.cell]; exact hj⟩⟩
set_option maxHeartbeats 1000000 in
theorem two_any (w : World) : Calls Tryz.prog 80 #[] w fun e w' => ∃ v, e = .returned v ∧ ConfIs (fun b => w.heap.size ≤ b) w' v confTwo ∧ Fr Nil w w' := by
  obtain ⟨B, hB⟩ : ∃ B, w.heap.size = B := ⟨_, rfl⟩
  have b0 := (Blk.new w [.slice (some ⟨B + 1, 0, none⟩) 2 2, .slice (some ⟨B + 1 + 1, 0, none⟩) 2 2, .slice none 0 0] 26)
  rw [hB] at b0
  have b0' := (b0.alloc (.cells #[.int .i64 9, .int .i64 1, .int .i64 9, .int .i64 1] 66)).alloc (.cells #[.int .i64 0, .int .i64 2, .int .i64 1, .int .i64 1] 107)
  have b1 := (Blk.new (w.alloc (.cells #[.slice (some ⟨B + 1, 0, none⟩) 2 2, .slice (some ⟨B + 1 + 1, 0, none⟩) 2 2, .slice none 0 0] 26)) [.int .i64 9, .int .i64 1, .int .i64 9, .int .i64 1] 66)
  rw [World.size_alloc, hB] at b1
  have b1' := b1.alloc (.cells #[.int .i64 0, .int .i64 2, .int .i64 1, .int .i64 1] 107)
  have b2 := (Blk.new ((w.alloc (.cells #[.slice (some ⟨B + 1, 0, none⟩) 2 2, .slice (some ⟨B + 1 + 1, 0, none⟩) 2 2, .slice none 0 0] 26)).alloc (.cells #[.int .i64 9, .int .i64 1, .int .i64 9, .int .i64 1] 66)) [.int .i64 0, .int .i64 2, .int .i64 1, .int .i64 1] 107)
  rw [World.size_alloc, World.size_alloc, hB] at b2
  go_enter Tryz.func80, Tryz.ntmps80
  go_wp2
  have f : Fr Nil w (((w.alloc (.cells #[.slice (some ⟨B + 1, 0, none⟩) 2 2, .slice (some ⟨B + 1 + 1, 0, none⟩) 2 2, .slice none 0 0] 26)).alloc (.cells #[.int .i64 9, .int .i64 1, .int .i64 9, .int .i64 1] 66)).alloc (.cells #[.int .i64 0, .int .i64 2, .int .i64 1, .int .i64 1] 107)) := (((Fr.refl _ _).alloc _).alloc _).alloc _
  generalize ((w.alloc (.cells #[.slice (some ⟨B + 1, 0, none⟩) 2 2, .slice (some ⟨B + 1 + 1, 0, none⟩) 2 2, .slice none 0 0] 26)).alloc (.cells #[.int .i64 9, .int .i64 1, .int .i64 9, .int .i64 1] 66)).alloc (.cells #[.int .i64 0, .int .i64 2, .int .i64 1, .int .i64 1] 107) = W at *
  have hc := b0'.cell
  refine ⟨rfl, .agg #[.slice (some ⟨B + 1, 0, none⟩) 2 2, .slice (some ⟨B + 1 + 1, 0, none⟩) 2 2, .slice none 0 0], ?_, _, rfl, ⟨_, _, _, rfl, SlcIn.blk (n := 2) b1' (by omega) rfl (by omega), SlcIn.blk (n := 2) b2 (by omega) rfl (by omega), SlcIn.none _ _ _⟩, f⟩
  simp [results, Tryz.results80, go_sem, hc]
set_option maxHeartbeats 1000000 in
theorem awake26_any (w : World) : Calls Tryz.prog 37 #[] w fun e w' => e = .returned (.bool true) ∧ Fr Nil w w' := by
  have ok0 := prod0_ok two_ok
  have ok1 := tickP_ok ok0 (by decide)
  have ok2 := tickP_ok ok1 (by decide)
  have hu := Lib.hid two_used
  have hl := Lib.hid two_left
  have o1 := Lib.hid two_obs1
  have o2 := Lib.hid two_obs2
  go_enter Tryz.func37, Tryz.ntmps37
  go_wp2_with (first
    | (go_at_call 80; refine (two_any _).mono ?_; rintro e w1 ⟨v, rfl, hC, f1⟩; have key1 := prodNew_any w1 hC two_ok; obtain ⟨c1, c2, c3, rfl, _⟩ := hC)
    | (go_at_call 38; refine key1.mono ?_; clear key1; rintro e w2 ⟨pb, R, A, rfl, hP, hlo, f2⟩; have key2 := pstep_tick w2 hP ok0 (by decide) 0 0; have F2 := f1.trans f2 (fun _ _ h => h))
    | (go_at_call 39; refine key2.mono ?_; clear key2; rintro e w3 ⟨rfl, R1, A1, P1, f3, g3⟩; rw [o1.out]; have s1 := f1.size))
  have P1' := P1.nil ((Fr.refl Nil w3).alloc (.cells #[.int .i64 0, .int .i64 1, .int .i64 0, .int .u32 1, .int .u32 0] 63))
  have key3 := pstep_tick _ P1' ok1 (by decide) 0 0
  have X3 := Blk.new w3 [.int .i64 0, .int .i64 1, .int .i64 0, .int .u32 1, .int .u32 0] 63
  have f3' : Fr Nil w w3 := F2.trans f3 (fun x hx h => by have := hlo x h; omega)
  have f3'' := f3'.alloc (.cells #[.int .i64 0, .int .i64 1, .int .i64 0, .int .u32 1, .int .u32 0] 63)
  have hno1 : ∀ x, R1 x ≠ .no → x < w3.heap.size := P1.lo
  have hlo1 : ∀ x, R1 x ≠ .no → w.heap.size ≤ x := fun x hx => by
    rcases g3 x hx with h | h
    · have := hlo x h; omega
    · have := F2.size; omega
  obtain ⟨O3, hO3⟩ : ∃ O3, w3.heap.size = O3 := ⟨_, rfl⟩
  obtain ⟨W3, hW3⟩ : ∃ W3, w3.alloc (.cells #[.int .i64 0, .int .i64 1, .int .i64 0, .int .u32 1, .int .u32 0] 63) = W3 := ⟨_, rfl⟩
  rw [hO3] at X3 hno1
  rw [hW3] at X3 key3 f3'' P1' ⊢
  rw [hO3]
  refine key3.mono ?_
  clear key3
  rintro e w4 ⟨rfl, R2, A2, P2, f4, g4⟩
  rw [o2.out]
  have X4 := (X3.fr f4 (fun h => by have := hno1 _ h; omega)).alloc (.cells #[.int .i64 1, .int .i64 1, .int .i64 0, .int .u32 2, .int .u32 1] 63)
  have Y4 := Blk.new w4 [.int .i64 1, .int .i64 1, .int .i64 0, .int .u32 2, .int .u32 1] 63
  have P2' := P2.nil ((Fr.refl Nil w4).alloc (.cells #[.int .i64 1, .int .i64 1, .int .i64 0, .int .u32 2, .int .u32 1] 63))
  have f4' := (f3''.trans f4 (fun x hx h => by have := hlo1 x h; omega)).alloc (.cells #[.int .i64 1, .int .i64 1, .int .i64 0, .int .u32 2, .int .u32 1] 63)
  have hc1 := X4.cell
  have hc2 := Y4.cell
  have ku := pused_any _ P2' ok2.cells 0
  rw [hu.out] at ku
  go_wp2_with (first
    | (go_at_call 41; refine ku.mono ?_; clear ku; rintro e w5 ⟨rfl, f5⟩; have kl := pleft_any _ (P2'.nil f5) ok2.cells 1 1; rw [hl.out] at kl)
    | (go_at_call 42; refine kl.mono ?_; clear kl; rintro e w6 ⟨rfl, f6⟩))
  go_ret
  exact ⟨rfl, (f4'.trans f5 (fun _ _ h => h)).trans f6 (fun _ _ h => h)⟩
end Go.Priory
