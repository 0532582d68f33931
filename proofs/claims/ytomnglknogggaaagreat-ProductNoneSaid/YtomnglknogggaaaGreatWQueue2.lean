/- What Index, Contains of package slices, and Push, Pop, Turn of package queue do. No condition. -/
import Derived.Test.YtomnglknogggaaaGreatWQueue
namespace Go.Priory
open Go.RowKit Go.Proofs
set_option maxRecDepth 100000

set_option maxHeartbeats 1000000 in
theorem index_any {p : Nat → Prop} {v : Value} {xs : List Int} (w : World) (h : SlcIn p w 1 v (xs.map (Value.int .i64))) (x : Int) :
    Calls Tryz.prog 166 #[v, .int .i64 x] w fun e w' => e = .returned (.int .i64 (placeOf x xs)) ∧ w = w' := by
  obtain ⟨a, n, cap, rfl, hlen, hmax, hc⟩ := h
  simp only [List.length_map, Nat.mul_one] at hlen
  subst hlen
  go_enter Tryz.func166, Tryz.ntmps166
  go_wp2_with fail
  go_loop [8] (fun i => ∃ k : Nat, k ≤ xs.length ∧ i = .int .i64 k ∧ ∀ j, j < k → xs[j]? ≠ some x) (fun i => xs.length - (intOf i).toNat)
  case atStart => exact ⟨0, Nat.zero_le _, rfl, fun j hj => absurd hj (Nat.not_lt_zero _)⟩
  case round =>
    obtain ⟨k, hk, rfl, hj⟩ := hrel
    have HJ := Lib.hid hj
    clear hj
    by_cases hlt : k < xs.length
    · rcases hc with hc | ⟨b, off, rfl, hp, hc⟩
      · omega
      · obtain ⟨y, hy⟩ : ∃ y, xs[k]? = some y := ⟨xs[k], by simp [hlt]⟩
        have c1 := hc k (.int .i64 y) (by rw [List.getElem?_map, hy]; rfl)
        have HY := Lib.hid hy
        clear hc hy
        by_cases e : x = y
        · have hb : (x == y) = true := by simpa using e
          subst e
          go_wp2
          go_ret
          exact ⟨ret_int (by unfold placeOf; rw [indexOf_hit HY.out HJ.out]), rfl⟩
        · have hb : (x == y) = false := by simpa using e
          go_wp2
          go_round
          case rel =>
            refine ⟨k + 1, by omega, by go_num, fun j hj => ?_⟩
            by_cases hjk : j = k
            · subst hjk; rw [HY.out]; exact fun h => e (Option.some.inj h).symm
            · exact HJ.out j (by omega)
          case measure => simp [intOf]; omega
    · obtain rfl : k = xs.length := by omega
      go_wp2
      go_ret
      refine ⟨ret_int ?_, rfl⟩
      unfold placeOf
      rw [indexOf_none.2]
      intro hm
      obtain ⟨j, hjl, he⟩ := List.mem_iff_getElem.1 hm
      exact HJ.out j hjl (by rw [List.getElem?_eq_getElem hjl, he])

theorem contains_any {p : Nat → Prop} {v : Value} {xs : List Int} (w : World) (h : SlcIn p w 1 v (xs.map (Value.int .i64))) (x : Int) :
    Calls Tryz.prog 131 #[v, .int .i64 x] w fun e w' => e = .returned (.bool (decide (x ∈ xs))) ∧ w = w' := by
  have hx : decide (0 ≤ placeOf x xs) = decide (x ∈ xs) := by
    unfold placeOf
    cases hi : indexOf x xs with
    | none => simp [indexOf_none.1 hi]
    | some k =>
      have : x ∈ xs := by
        have := indexOf_some hi
        exact List.mem_of_getElem? this.2
      simp [this]
  have HX := Lib.hid hx
  clear hx
  go_enter Tryz.func131, Tryz.ntmps131
  go_wp2_with (go_at_call 166; refine (index_any _ h _).mono ?_; rintro e w' ⟨rfl, rfl⟩)
  all_goals (go_ret; exact ⟨by rw [← HX.out]; first | rfl | (congr 2; simp only [decide_eq_true_eq, decide_eq_false_iff_not] at *; omega), rfl⟩)

def pushE (q : List Int) (n : Int) : Int := if qaskedE n ≠ 0 then 2 else if n ∈ q then 5 else 0
def pushN (q : List Int) (n : Int) : List Int := if pushE q n = 0 then q ++ [n] else q
/-- The numbers of a row: from 1 to 8, each at most once. -/
def RowOk (q : List Int) : Prop := q.Nodup ∧ ∀ x ∈ q, 1 ≤ x ∧ x ≤ 8
theorem nodup_few : ∀ (n : Nat) (l : List Int), l.Nodup → (∀ x ∈ l, 1 ≤ x ∧ x ≤ n) → l.length ≤ n
  | 0, [], _, _ => by simp
  | 0, x :: l, _, h => by have := h x (.head _); omega
  | n + 1, l, hn, h => by
    by_cases hm : ((n + 1 : Nat) : Int) ∈ l
    · have := nodup_few n (l.erase ((n + 1 : Nat) : Int)) (hn.erase _) (fun x hx => by
        have h1 := (hn.mem_erase_iff).1 hx
        have := h x h1.2
        have := h1.1
        omega)
      rw [List.length_erase_of_mem hm] at this
      omega
    · have := nodup_few n l hn (fun x hx => by
        have := h x hx
        have : x ≠ ((n + 1 : Nat) : Int) := fun e => hm (e ▸ hx)
        omega)
      omega
theorem RowOk.len {q : List Int} (h : RowOk q) : q.length ≤ 8 := nodup_few 8 q h.1 h.2

theorem queue_set {ring : List Int} {at_ n i : Nat} {x : Int} (hi : i < 8) (hr : ring.length = 8) : (queueCells ring at_ n).set (1 + i) (.int .i64 x) = queueCells (ring.set i x) at_ n := by
  unfold queueCells
  rw [Nat.add_comm, List.set_cons_succ, List.set_append_left _ _ (by simp; omega), List.map_set]
theorem queue_set10 {ring : List Int} {at_ n m : Nat} (hr : ring.length = 8) : (queueCells ring at_ n).set 10 (.int .i64 m) = queueCells ring at_ m := by
  unfold queueCells
  rw [List.set_cons_succ, List.set_append_right _ _ (by simp; omega)]
  simp [hr]
theorem queue_set9 {ring : List Int} {at_ n m : Nat} (hr : ring.length = 8) : (queueCells ring at_ n).set 9 (.int .i64 m) = queueCells ring m n := by
  unfold queueCells
  rw [List.set_cons_succ, List.set_append_right _ _ (by simp; omega)]
  simp [hr]

theorem ring_old {w : World} {b : Nat} {q ring : List Int} {at_ : Nat} (h : QueueAt w b q ring at_) (i : Nat) (hi : i < 8) : ∃ y, w.cell? ⟨b, 1 + i, none⟩ = some (.int .i64 y) :=
  ⟨ring[i]'(by rw [h.len]; exact hi), by rw [h.blk.cell]; exact ring_cell hi h.len (by simp [h.len, hi])⟩
set_option maxHeartbeats 1000000 in
theorem push_any {b : Nat} {q : List Int} (w : World) (h : QueueIs w b q) (hq8 : RowOk q) (n : Int) :
    Calls Tryz.prog 101 #[.pointer (some ⟨b, 0, none⟩), .int .i64 n] w fun e w' => e = .returned (.int .i64 (pushE q n)) ∧ QueueIs w' b (pushN q n) ∧ Fr (fun x => x = b) w w' := by
  have h' := h
  obtain ⟨ring, at_, hq⟩ := h
  by_cases ha : qaskedE n = 0
  · by_cases hm : n ∈ q
    · have HE := Lib.hid (show pushE q n = 5 by unfold pushE; rw [if_neg (by simpa using ha), if_pos hm])
      have HN := Lib.hid (show pushN q n = q by unfold pushN; rw [if_neg (by rw [HE.out]; omega)])
      have hd : decide (n ∈ q) = true := by simpa using hm
      clear hm
      go_enter Tryz.func101, Tryz.ntmps101
      go_wp2_with (first
        | (go_at_call 130; refine (qasked_any _ hq.blk (ring_at hq.len).2.2 _).mono ?_; rintro e w' ⟨rfl, rfl⟩; rw [ha])
        | (go_at_call 132; refine (qall_any _ h').mono ?_; rintro e w' ⟨v, rfl, hs, hf⟩)
        | (go_at_call 131; refine (contains_any _ hs _).mono ?_; rintro e w' ⟨rfl, rfl⟩; rw [hd]))
      go_ret
      exact ⟨ret_int HE.out.symm, by rw [HN.out]; exact h'.fr hf (fun h => h), hf.mono (fun _ h => h.elim)⟩
    · have HE := Lib.hid (show pushE q n = 0 by unfold pushE; rw [if_neg (by simpa using ha), if_neg hm])
      have HN := Lib.hid (show pushN q n = q ++ [n] by unfold pushN; rw [if_pos HE.out])
      have hd : decide (n ∈ q) = false := by simpa using hm
      have hok : RowOk (q ++ [n]) := by
        refine ⟨List.nodup_append.2 ⟨hq8.1, by simp, fun x hx y hy => by rw [List.mem_singleton.1 hy]; exact fun e => hm (e ▸ hx)⟩, fun x hx => ?_⟩
        rcases List.mem_append.1 hx with hx | hx
        · exact hq8.2 x hx
        · rw [List.mem_singleton.1 hx]
          unfold qaskedE at ha; split at ha
          · simp at ha
          · omega
      have hlen := hok.len
      simp only [List.length_append, List.length_singleton] at hlen
      have hat := hq.lt
      clear hm
      go_enter Tryz.func101, Tryz.ntmps101
      go_wp2_with (first
        | (go_at_call 130; refine (qasked_any _ hq.blk (ring_at hq.len).2.2 _).mono ?_; rintro e w' ⟨rfl, rfl⟩; rw [ha])
        | (go_at_call 132; refine (qall_any _ h').mono ?_; rintro e w' ⟨v, rfl, hs, hf⟩)
        | (go_at_call 131; refine (contains_any _ hs _).mono ?_; rintro e w2 ⟨rfl, rfl⟩; rw [hd]; have d10 := (hq.fr hf (fun h => h)).c10)
        | (go_at_call 102; refine (place_any _ (hq.fr hf (fun h => h)).blk (ring_at hq.len).1 (by omega) (by omega) (by omega)).mono ?_; rintro e w3 ⟨rfl, hf3⟩; have hf4 := hf.trans hf3 (fun _ _ h => h); have hq3 := hq.fr hf4 (fun h => h); have e10 := hq3.c10; have ek := ring_old hq3 ((at_ + q.length) % 8) (by omega); obtain ⟨y, ek⟩ := ek; have fz := hq3.blk.frozen; have hne : ¬ 1 + (at_ + q.length) % 8 = 10 := (by omega); have hi8 : (at_ + q.length) % 8 < 8 := by omega))
      go_ret
      have Z := (hq3.blk.set (1 + (at_ + q.length) % 8) (.int .i64 n)).set 10 (.int .i64 ((q.length + 1 : Nat) : Int))
      rw [queue_set hi8 hq.len, queue_set10 (by simp [hq.len])] at Z
      refine ⟨ret_int HE.out.symm, ?_, ?_⟩
      · rw [HN.out]
        refine ⟨ring.set ((at_ + q.length) % 8) n, at_, by simp [hq.len], hq.lt, by simpa using hlen, by simpa using Z, fun k x hk => ?_⟩
        by_cases hkq : k < q.length
        · rw [List.getElem?_append_left hkq] at hk
          rw [List.getElem?_set_ne (by omega)]
          exact hq.row k x hk
        · have hkl : k = q.length := by
            have := (List.getElem?_eq_some_iff.1 hk).1
            simp at this; omega
          subst hkl
          simp at hk
          subst hk
          rw [List.getElem?_set_self (by rw [hq.len]; exact hi8)]
      · exact ((hf4.mono (T := fun x => x = b) (fun _ h => h.elim)).setCell ⟨b, _, none⟩ _ (fun _ => rfl)).setCell ⟨b, 10, none⟩ _ (fun _ => rfl)
  · have HE := Lib.hid (show pushE q n = 2 by unfold pushE; rw [if_pos ha])
    have HN := Lib.hid (show pushN q n = q by unfold pushN; rw [if_neg (by rw [HE.out]; omega)])
    have hq2 : qaskedE n = 2 := by unfold qaskedE at ha ⊢; split <;> simp_all
    clear ha
    go_enter Tryz.func101, Tryz.ntmps101
    go_wp2_with (go_at_call 130; refine (qasked_any _ hq.blk (ring_at hq.len).2.2 _).mono ?_; rintro e w' ⟨rfl, rfl⟩; rw [hq2])
    go_ret
    exact ⟨ret_int HE.out.symm, by rw [HN.out]; exact h', Fr.refl _ _⟩
end Go.Priory
