/- What the calls of package queue do, on a queue whose row is a given list. No condition. -/
import Derived.Test.YtomnglknogggaaaGreatWBudget
import Derived.Test.YtomnglknogggaaaGreatSlc
namespace Go.Priory
open Go.RowKit Go.Proofs
set_option maxRecDepth 100000

def queueCells (ring : List Int) (at_ n : Nat) : List Value := .bool true :: (ring.map (Value.int .i64) ++ [.int .i64 at_, .int .i64 n])
structure QueueAt (w : World) (b : Nat) (q : List Int) (ring : List Int) (at_ : Nat) : Prop where
  len : ring.length = 8
  lt : at_ < 8
  few : q.length ≤ 8
  blk : Blk w b (queueCells ring at_ q.length)
  row : ∀ k x, q[k]? = some x → ring[(at_ + k) % 8]? = some x
/-- Block b is a queue with the numbers q, in their row. -/
def QueueIs (w : World) (b : Nat) (q : List Int) : Prop := ∃ ring at_, QueueAt w b q ring at_

theorem QueueAt.fr {S : Nat → Prop} {w w' : World} {b : Nat} {q ring : List Int} {at_ : Nat} (h : QueueAt w b q ring at_) (f : Fr S w w') (hn : ¬ S b) : QueueAt w' b q ring at_ :=
  ⟨h.len, h.lt, h.few, h.blk.fr f hn, h.row⟩
theorem QueueIs.fr {S : Nat → Prop} {w w' : World} {b : Nat} {q : List Int} (h : QueueIs w b q) (f : Fr S w w') (hn : ¬ S b) : QueueIs w' b q := by
  obtain ⟨r, a, h⟩ := h; exact ⟨r, a, h.fr f hn⟩
theorem ring_cell {ring : List Int} {at_ n i : Nat} {x : Int} (hi : i < 8) (hr : ring.length = 8) (h : ring[i]? = some x) : (queueCells ring at_ n)[1 + i]? = some (.int .i64 x) := by
  unfold queueCells
  rw [Nat.add_comm, List.getElem?_cons_succ, List.getElem?_append_left (by simp; omega), List.getElem?_map, h]; rfl
theorem ring_at {ring : List Int} {at_ n : Nat} (hr : ring.length = 8) : (queueCells ring at_ n)[9]? = some (.int .i64 at_) ∧ (queueCells ring at_ n)[10]? = some (.int .i64 n) ∧ (queueCells ring at_ n)[0]? = some (.bool true) := by
  unfold queueCells
  refine ⟨?_, ?_, rfl⟩
  · rw [List.getElem?_cons_succ, List.getElem?_append_right (by simp [hr])]; simp [hr]
  · rw [List.getElem?_cons_succ, List.getElem?_append_right (by simp [hr])]; simp [hr]
theorem QueueAt.c9 {w : World} {b : Nat} {q ring : List Int} {at_ : Nat} (h : QueueAt w b q ring at_) : w.cell? ⟨b, 9, none⟩ = some (.int .i64 at_) := by rw [h.blk.cell]; exact (ring_at h.len).1
theorem QueueAt.c10 {w : World} {b : Nat} {q ring : List Int} {at_ : Nat} (h : QueueAt w b q ring at_) : w.cell? ⟨b, 10, none⟩ = some (.int .i64 q.length) := by rw [h.blk.cell]; exact (ring_at h.len).2.1
theorem QueueAt.c0 {w : World} {b : Nat} {q ring : List Int} {at_ : Nat} (h : QueueAt w b q ring at_) : w.cell? ⟨b, 0, none⟩ = some (.bool true) := by rw [h.blk.cell]; exact (ring_at h.len).2.2
theorem QueueAt.ck {w : World} {b : Nat} {q ring : List Int} {at_ k : Nat} {x : Int} (h : QueueAt w b q ring at_) (hk : q[k]? = some x) : w.cell? ⟨b, 1 + (at_ + k) % 8, none⟩ = some (.int .i64 x) := by
  rw [h.blk.cell]; exact ring_cell (by omega) h.len (h.row k x hk)

theorem place_nat {b at_ k : Nat} (w : World) {c : List Value} (B : Blk w b c) (h9 : c[9]? = some (.int .i64 at_)) (ha : at_ < 16) (hk : k < 16) :
    Calls Tryz.prog 102 #[.pointer (some ⟨b, 0, none⟩), .int .i64 k] w fun e w' => e = .returned (.pointer (some ⟨b, 1 + (at_ + k) % 8, none⟩)) ∧ Fr Nil w w' := by
  have c1 : ∀ x : Cls Nil w.drew, x.w.cell? ⟨b, 9, none⟩ = some (.int .i64 at_) := fun x => by rw [B.drew.cls (S := Nil) (fun h => h) x 9, h9]
  have hs : IntKind.i64.wrap ((at_ : Int) + k) = (at_ : Int) + k := IntWalk.i64_in _ (by omega)
  go_enter Tryz.func102, Tryz.ntmps102
  go_wp2_with fail
  refine wp_draw_all Nil (by kernel_rfl) (by kernel_rfl) (by kernel_rfl) ?_
  repeat (go_big_quiet_step (fail))
  refine wpQuiet_nil ?_
  intro z
  go_wp2
  go_ret
  exact ⟨rfl, (Fr.refl _ _).drew.trans z.fr (fun _ _ h => h)⟩
theorem place_any {b at_ : Nat} {k : Int} (w : World) {c : List Value} (B : Blk w b c) (h9 : c[9]? = some (.int .i64 at_)) (ha : at_ < 16) (h0 : 0 ≤ k) (hk : k < 16) :
    Calls Tryz.prog 102 #[.pointer (some ⟨b, 0, none⟩), .int .i64 k] w fun e w' => e = .returned (.pointer (some ⟨b, 1 + (at_ + k.toNat) % 8, none⟩)) ∧ Fr Nil w w' := by
  obtain ⟨n, rfl⟩ := Int.eq_ofNat_of_zero_le h0
  exact place_nat w B h9 ha (by omega)

def qaskedE (n : Int) : Int := if n < 1 ∨ 8 < n then 2 else 0
theorem qasked_any {b : Nat} {c : List Value} (w : World) (B : Blk w b c) (h0 : c[0]? = some (.bool true)) (n : Int) :
    Calls Tryz.prog 130 #[.pointer (some ⟨b, 0, none⟩), .int .i64 n] w fun e w' => e = .returned (.int .i64 (qaskedE n)) ∧ w = w' := by
  have c0 := B.cell 0
  rw [h0] at c0
  have hnot : ∀ (x : Bool) (w : World), (Op.unary .not (.bool x)).run Tryz.prog w = .ok (.bool (!x)) w := fun _ _ => rfl
  go_enter Tryz.func130, Tryz.ntmps130
  go_wp2
  all_goals (go_ret; exact ⟨ret_int (by unfold qaskedE; first | rw [if_pos (by omega)] | rw [if_neg (by omega)]), rfl⟩)

theorem head_any {b : Nat} {q : List Int} (w : World) (h : QueueIs w b q) :
    Calls Tryz.prog 68 #[.pointer (some ⟨b, 0, none⟩)] w fun e w' => e = .returned (.tuple #[.int .i64 ((q.head?).getD 0), .bool (!q.isEmpty)]) ∧ Fr Nil w w' := by
  obtain ⟨ring, at_, hq⟩ := h
  have c10 := hq.c10
  have hl := hq.few
  have ha := hq.lt
  cases q with
  | nil =>
    simp only [List.length_nil] at c10
    go_enter Tryz.func68, Tryz.ntmps68
    go_wp2
    go_ret2
    exact ⟨rfl, Fr.refl _ _⟩
  | cons x q =>
    obtain ⟨n, hn, hn0⟩ : ∃ n : Nat, (x :: q).length = n ∧ 0 < n := ⟨_, rfl, by simp⟩
    rw [hn] at c10
    clear hn
    go_enter Tryz.func68, Tryz.ntmps68
    go_wp2_with (go_at_call 102; refine (place_any _ hq.blk (ring_at hq.len).1 (by omega) (by omega) (by omega)).mono ?_; rintro e w' ⟨rfl, hf⟩; have ck := (hq.fr hf (fun h => h)).ck (k := 0) (x := x) rfl; simp only [Nat.add_zero] at ck)
    go_ret2
    exact ⟨rfl, hf⟩

theorem info3 : (Tryz.prog.info? 3).map (fun i => (i.zero, i.size, i.bytes)) = some (some (.int .i64 0), 1, 8) := by kernel_rfl

set_option maxHeartbeats 1000000 in
theorem qall_any {b : Nat} {q : List Int} (w : World) (h : QueueIs w b q) :
    Calls Tryz.prog 132 #[.pointer (some ⟨b, 0, none⟩)] w fun e w' => ∃ v, e = .returned v ∧ SlcIn (Gr Nil w w') w' 1 v (q.map (Value.int .i64)) ∧ Fr Nil w w' := by
  obtain ⟨ring, at_, hq⟩ := h
  obtain ⟨i0, hi, hz0, hz1, hz2⟩ := info_parts info3
  have c10 := hq.c10
  have hl := hq.few
  have ha := hq.lt
  go_enter Tryz.func132, Tryz.ntmps132
  go_wp2_with fail
  go_loopw [3, 11] (fun v i wr => ∃ k : Nat, k ≤ q.length ∧ i = .int .i64 k ∧ wr.ownsRow w.heap.size 3 1 v k ((q.take k).map (Value.int .i64)) ∧ Fr Nil w wr)
    (fun _ i _ => q.length - (intOf i).toNat)
  case atStart => exact ⟨0, Nat.zero_le _, rfl, ⟨by simp, .inl ⟨rfl, rfl⟩⟩, Fr.refl _ _⟩
  case round =>
    obtain ⟨k, hk, rfl, hown, hf⟩ := hrel
    by_cases hlt : k < q.length
    · obtain ⟨x, hx⟩ : ∃ x, q[k]? = some x := ⟨q[k], by simp [hlt]⟩
      go_wp2_with (first
        | (go_at_call 102; refine (place_any _ (hq.fr hf (fun h => h)).blk (ring_at hq.len).1 (by omega) (by omega) (by omega)).mono ?_; rintro e w' ⟨rfl, hf1⟩; have hown1 := owns_fr hown hf1 (fun _ _ h => h); have hf2 := hf.trans hf1 (fun _ _ h => h); have ck := (hq.fr hf2 (fun h => h)).ck hx; have hsz := hf2.size)
        | (at_builtin; refine wpList_append_own _ rfl _ _ 27 rfl w.heap.size 3 i0 (.int .i64 0) 1 8 Tryz.underlying27 hi hz0 hz1 hz2 rfl (by decide) _ _ _ rfl (hown1.alloc _) ⟨w'.heap.size, 0, none⟩ 1 1 [.int .i64 x] rfl rfl (cell_one_new _ _ _) (ints_oneCell .i64 [x]) (by unfold maxLen; omega) (by omega) (by simp; omega) ?_; intro v' w2 hown2 hgrow _))
      go_roundw
      case rel =>
        refine ⟨k + 1, by omega, by go_num, ?_, ?_⟩
        · have : (q.take (k + 1)).map (Value.int .i64) = (q.take k).map (Value.int .i64) ++ [.int .i64 x] := by
            rw [List.take_add_one, hx]; simp
          rw [this]; exact hown2
        · exact (hf2.alloc _).grown hgrow (fun b hb e => absurd (owns_row_new hown b e) (by omega))
      case measure => simp [intOf]; omega
    · obtain rfl : k = q.length := by omega
      go_wp2
      go_ret
      rw [List.take_length] at hown
      exact ⟨_, rfl, (SlcIn.of_owns hown (by omega)), hf⟩
end Go.Priory
