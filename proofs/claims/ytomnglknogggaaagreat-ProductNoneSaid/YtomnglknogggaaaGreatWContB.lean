/- What slices.Contains does on a slice of bools. No condition. -/
import Derived.Test.YtomnglknogggaaaGreatSlc
import Derived.Test.YtomnglknogggaaaGreatWBudget
namespace Go.Priory
open Go.RowKit Go.Proofs
set_option maxRecDepth 100000

set_option maxHeartbeats 1000000 in
theorem indexB_any {p : Nat → Prop} {v : Value} {xs : List Bool} (w : World) (h : SlcIn p w 1 v (xs.map Value.bool)) (x : Bool) :
    Calls Tryz.prog 165 #[v, .bool x] w fun e w' => (∃ n : Int, e = .returned (.int .i64 n) ∧ (decide (0 ≤ n) = decide (x ∈ xs))) ∧ w = w' := by
  obtain ⟨a, n, cap, rfl, hlen, hmax, hc⟩ := h
  simp only [List.length_map, Nat.mul_one] at hlen
  subst hlen
  go_enter Tryz.func165, Tryz.ntmps165
  go_wp2_with fail
  go_loop [8] (fun i => ∃ k : Nat, k ≤ xs.length ∧ i = .int .i64 k ∧ ∀ j, j < k → xs[j]? ≠ some x) (fun i => xs.length - (intOf i).toNat)
  case atStart => exact ⟨0, Nat.zero_le _, rfl, fun j hj => absurd hj (Nat.not_lt_zero _)⟩
  case round =>
    obtain ⟨k, hk, rfl, hj⟩ := hrel
    have HJ := Lib.hid hj
    clear hj
    by_cases hlt : k < xs.length
    · rcases hc with hc | ⟨b, off, rfl, hp, hc⟩
      · omega
      · obtain ⟨y, hy⟩ : ∃ y, xs[k]? = some y := ⟨xs[k], by simp [hlt]⟩
        have c1 := hc k (.bool y) (by rw [List.getElem?_map, hy]; rfl)
        have HY := Lib.hid hy
        clear hc hy
        by_cases e : x = y
        · subst e
          have hb : (x == x) = true := by simp
          go_wp2
          go_ret
          exact ⟨⟨k, rfl, by simp [List.mem_of_getElem? HY.out]⟩, rfl⟩
        · have hb : (x == y) = false := by simpa using e
          go_wp2
          go_round
          case rel =>
            refine ⟨k + 1, by omega, by go_num, fun j hj => ?_⟩
            by_cases hjk : j = k
            · subst hjk; rw [HY.out]; exact fun h => e (Option.some.inj h).symm
            · exact HJ.out j (by omega)
          case measure => simp [intOf]; omega
    · obtain rfl : k = xs.length := by omega
      go_wp2
      go_ret
      refine ⟨⟨-1, rfl, ?_⟩, rfl⟩
      have : x ∉ xs := fun hm => by
        obtain ⟨j, hjl, he⟩ := List.mem_iff_getElem.1 hm
        exact HJ.out j hjl (by rw [List.getElem?_eq_getElem hjl, he])
      simp [this]
theorem containsB_any {p : Nat → Prop} {v : Value} {xs : List Bool} (w : World) (h : SlcIn p w 1 v (xs.map Value.bool)) (x : Bool) :
    Calls Tryz.prog 128 #[v, .bool x] w fun e w' => e = .returned (.bool (decide (x ∈ xs))) ∧ w = w' := by
  go_enter Tryz.func128, Tryz.ntmps128
  go_wp2_with (go_at_call 165; refine (indexB_any _ h _).mono ?_; rintro e w' ⟨⟨n, rfl, hn⟩, rfl⟩; have HX := Lib.hid hn; clear hn)
  all_goals (go_ret; exact ⟨by rw [← HX.out]; first | rfl | (congr 2; simp only [decide_eq_true_eq, decide_eq_false_iff_not] at *; omega), rfl⟩)
end Go.Priory
