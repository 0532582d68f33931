/- The budget's law: what keeps the nodes right. No condition. -/
import Derived.Test.YtomnglknogggaaaGreatPure
namespace Go.Priory
open Go.RowKit
set_option maxRecDepth 100000

theorem mem_nupd {α : Type} {id : Int} {f : α → α} {l : List (Int × α)} {p : Int × α} : p ∈ nupd id f l ↔ ∃ q ∈ l, p = (q.1, if q.1 = id then f q.2 else q.2) := by
  unfold nupd; rw [List.mem_map]; exact ⟨fun ⟨q, hq, e⟩ => ⟨q, hq, e.symm⟩, fun ⟨q, hq, e⟩ => ⟨q, hq, e.symm⟩⟩
theorem asked_zero {l : Nodes} {id n : Int} (h : askedE l id n = 0) : 1 ≤ id ∧ id ≤ 8 ∧ 0 ≤ n ∧ n ≤ 65536 ∧ ∃ x, mget id l = some x := by
  unfold askedE at h
  split at h
  · cases h
  · rename_i h1
    split at h
    · cases h
    · rename_i h2
      refine ⟨by omega, by omega, by omega, by omega, ?_⟩
      cases hm : mget id l with
      | none => rw [hm] at h2; simp at h2
      | some x => exact ⟨x, rfl⟩
theorem NodesOk.charge {l : Nodes} (h : NodesOk l) (id n : Int) : NodesOk (chargeN l id n) := by
  unfold chargeN
  split
  · rename_i hc
    unfold chargeE at hc
    split at hc
    · rename_i h1; exact absurd hc h1
    · rename_i h1
      split at hc
      · cases hc
      · rename_i h2
        have ha : askedE l id n = 0 := Classical.not_not.1 h1
        obtain ⟨_, _, h0, _, x, hx⟩ := asked_zero ha
        refine ⟨sorted_nupd h.1, fun p hp => ?_⟩
        obtain ⟨q, hq, rfl⟩ := mem_nupd.1 hp
        have hk := h.2 q hq
        by_cases e : q.1 = id
        · have hq2 : q.2 = x := by
            have := mget_of_mem h.1.nodup (show (q.1, q.2) ∈ l from hq)
            rw [e, hx] at this; exact (Option.some.inj this).symm
          have hcv := h.carved id
          unfold left at h2
          rw [hx] at h2
          simp only [if_pos e]
          rw [hq2] at hk ⊢
          simp only at h2 ⊢
          omega
        · simp only [if_neg e]; exact hk
  · exact h
theorem NodesOk.refund {l : Nodes} (h : NodesOk l) (id n : Int) : NodesOk (refundN l id n) := by
  unfold refundN
  split
  · rename_i hc
    unfold refundE at hc
    split at hc
    · rename_i h1; exact absurd hc h1
    · rename_i h1
      split at hc
      · cases hc
      · rename_i h2
        have ha : askedE l id n = 0 := Classical.not_not.1 h1
        obtain ⟨_, _, h0, _, x, hx⟩ := asked_zero ha
        refine ⟨sorted_nupd h.1, fun p hp => ?_⟩
        obtain ⟨q, hq, rfl⟩ := mem_nupd.1 hp
        have hk := h.2 q hq
        by_cases e : q.1 = id
        · have hq2 : q.2 = x := by
            have := mget_of_mem h.1.nodup (show (q.1, q.2) ∈ l from hq)
            rw [e, hx] at this; exact (Option.some.inj this).symm
          rw [hx] at h2
          simp only [if_pos e]
          rw [hq2] at hk ⊢
          simp only [Option.map_some, Option.getD_some] at h2 ⊢
          omega
        · simp only [if_neg e]; exact hk
  · exact h
end Go.Priory
