/- What a schedule's round and Tick do. No condition. -/
import Derived.Test.YtomnglknogggaaaGreatWSched
import Derived.RangeFuncNested
import Derived.RangeFuncBound
import Derived.RangeFuncCalls
import Derived.RangeFuncLeaves
import Derived.Shelf.Abstract
import Derived.Shelf.RegionOpen
import Derived.WalkKit
import Derived.OwnWalkIn
import Derived.TacticsInMore
import Derived.LoopNIn
import Derived.LoopIn
namespace Go.Priory
open Go.RowKit Go.Proofs Go.Shelf
attribute [local go_sem] Oper.semAt_some
set_option maxRecDepth 100000

def nextE (S : SchedSt) : Int := (S.at_ + 1) % S.wins.length
set_option maxHeartbeats 1000000 in
theorem round_stops {p : Nat → Prop} {s bx n₀ n : Nat} {S : SchedSt} (w : World) (hS : SchedAt p w s S) (hat : S.at_ < S.wins.length) (hfew : S.wins.length ≤ 32) (hb : Blk w bx [.pointer (some ⟨s, 0, none⟩)]) (h1 : s < n₀) (h2 : bx < n₀) (h3 : n₀ ≤ w.heap.size) :
    SeqStopsK Fence.wide n Tryz.prog 164 #[.pointer (some ⟨bx, 0, none⟩)] (fun x : Int => #[.int .i64 x]) (Below n₀) (fun xs => xs.length = S.wins.length) (fun pre => pre.head? = some (nextE S)) S.wins.length w := by
  intro l J Jx W hW hJ hJx hY h0
  refine callsIn_of_wp Tryz.func164 rfl trivial ?_ rfl
  simp only [Tryz.ntmps164, List.size_toArray, List.length_cons, List.length_nil, Nat.reduceAdd, Nat.reduceSub, Array.replicate_succ, Array.replicate_zero, List.push_toArray, List.append_toArray, List.nil_append, List.cons_append]
  obtain ⟨v, hSb, a, m, c, rfl, hlen, hmax, -⟩ := hS
  rw [flat_pair_len] at hlen
  obtain rfl : m = S.wins.length := by omega
  have cs : ∀ W', Below n₀ w W' → ∀ o, W'.cell? ⟨s, o, none⟩ = [Value.slice a S.wins.length c, .int .i64 S.at_, .int .i64 S.gone, .int .u64 S.ticks][o]? := fun W' h o => (h.cell (p := ⟨s, o, none⟩) h1).trans (hSb.cell o)
  have cb : ∀ W', Below n₀ w W' → ∀ o, W'.cell? ⟨bx, o, none⟩ = [Value.pointer (some ⟨s, 0, none⟩)][o]? := fun W' h o => (h.cell (p := ⟨bx, o, none⟩) h2).trans (hb.cell o)
  have hW0 : Below n₀ w W := hW.mono h3
  have cs0 := cs W hW0
  have cb0 := cb W hW0
  clear hlen
  gi_wp2
  gi_loopw [9] (fun i wr => ∃ k : Nat, k ≤ S.wins.length ∧ i = .int .i64 k ∧ ∃ pre, pre.length = k ∧ (k = 0 ∨ pre.head? = some (nextE S)) ∧ J pre wr ∧ Below n₀ w wr) (fun i _ => S.wins.length - (intOf i).toNat)
  case atStart => exact ⟨0, Nat.zero_le _, rfl, [], rfl, .inl rfl, h0, hW0⟩
  case round =>
    clear cs0 cb0
    obtain ⟨k, hk, rfl, pre, hpl, hhd, hJk, hB⟩ := hrel
    have cs1 := cs _ hB
    have cb1 := cb _ hB
    clear cs cb
    have Hpl := Lib.hid hpl
    clear hpl
    by_cases hlt : k < S.wins.length
    · have hx := IntWalk.i64_in ((S.at_ : Int) + 1) (by omega)
      have hx2 := IntWalk.i64_in ((S.at_ : Int) + 1 + (k : Int)) (by omega)
      have hne : (((S.wins.length : Nat) : Int) == 0) = false := by rw [beq_eq_false_iff_ne]; omega
      have hx3 : ((S.at_ : Int) + 1 + (k : Int)).tmod (S.wins.length : Int) = ((S.at_ : Int) + 1 + (k : Int)) % (S.wins.length : Int) := Int.tmod_eq_emod_of_nonneg (by omega)
      obtain ⟨fn, tmps, assign, body, hy, hR⟩ := hY pre (((S.at_ : Int) + 1 + (k : Int)) % (S.wins.length : Int)) wr.drew (hJ _ _ _ none hJk ⟨rfl, rfl, rfl, Nat.le_refl _, fun _ _ _ => rfl⟩ (fun _ e => by cases e)) (by rw [Hpl.out]; exact hlt)
      have hne2 : ¬ S.wins.length = 0 := by omega
      have hne3 : ¬ S.wins = [] := fun e => by rw [e] at hlt; simp at hlt
      have Hhd2 := Lib.hid (show (pre ++ [((S.at_ : Int) + 1 + (k : Int)) % (S.wins.length : Int)]).head? = some (nextE S) by
        rcases hhd with rfl | hhd
        · obtain rfl : pre = [] := List.eq_nil_of_length_eq_zero Hpl.out
          simp [nextE]
        · cases pre with
          | nil => cases hhd
          | cons y l => simpa using hhd)
      have hmo : Tryz.prog.follows .mixedOrders = true := by kernel_rfl
      gi_wp2
      gi_region_with_o ((refine ⟨fun h => absurd (show false = true from h) (by decide), ?_⟩; refine hR.mono ?_; clear hR hy; intro e W' hp; obtain ⟨bv, rfl, hd⟩ : ∃ bv : Bool, e = .returned (.bool bv) ∧ ((bv = true ∧ J (pre ++ [((S.at_ : Int) + 1 + (k : Int)) % (S.wins.length : Int)]) W' ∧ Below n₀ wr.drew W') ∨ (bv = false ∧ Jx (pre ++ [((S.at_ : Int) + 1 + (k : Int)) % (S.wins.length : Int)]) W')) := (hp.elim (fun h => ⟨true, h.1, .inl ⟨rfl, h.2⟩⟩) (fun h => ⟨false, h.1, .inr ⟨rfl, h.2⟩⟩)); have H := Lib.hid hd; clear hd hp))
      all_goals
        rcases H.out with ⟨rfl, hJ2, hB2⟩ | ⟨rfl, hJx2⟩
        · gi_wp2
          go_roundw
          case rel => exact ⟨k + 1, by omega, by go_num, _, by rw [List.length_append, Hpl.out]; rfl, .inr Hhd2.out, hJ2, hB.trans ((Below.refl n₀ wr).drew.trans hB2)⟩
          case measure => simp [intOf]; omega
        · gi_wp2
          refine bodyPost_ret (results_none rfl _ _ _) rfl ?_
          exact ⟨⟨_, rfl⟩, .inr ⟨_, Hhd2.out, hJx2⟩⟩
    · obtain rfl : k = S.wins.length := by omega
      gi_wp2
      go_end0
      exact ⟨⟨_, rfl⟩, .inl ⟨pre, Hpl.out, hJk⟩⟩
end Go.Priory
