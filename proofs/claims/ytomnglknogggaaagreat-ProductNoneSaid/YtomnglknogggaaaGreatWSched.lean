/- What a schedule (package sched) is, and what New, none, Part, Ticks, Window, begin do; plan.Major. No condition. -/
import Derived.Test.YtomnglknogggaaaGreatWQs2
namespace Go.Priory
open Go.RowKit Go.Proofs
set_option maxRecDepth 100000

structure SchedSt where
  wins : List (Int × Int)
  at_ : Nat
  gone : Int
  ticks : Int
def SchedAt (p : Nat → Prop) (w : World) (s : Nat) (S : SchedSt) : Prop :=
  ∃ v, Blk w s [v, .int .i64 S.at_, .int .i64 S.gone, .int .u64 S.ticks] ∧ SlcIn p w 2 v (S.wins.flatMap pairCells)
structure SchedOk (S : SchedSt) : Prop where
  few : S.wins.length ≤ 32
  at_lt : S.at_ < S.wins.length
  ticks : ∀ x ∈ S.wins, 1 ≤ x.2 ∧ x.2 ≤ 255
  gone : ∀ x, S.wins[S.at_]? = some x → 0 ≤ S.gone ∧ S.gone < x.2
  lo : 0 ≤ S.ticks
  hi : S.ticks < 1000000
def partE (S : SchedSt) : Int := ((S.wins[S.at_]?).map (·.1)).getD 0
theorem SchedAt.fr {p T : Nat → Prop} {w w' : World} {s : Nat} {S : SchedSt} (h : SchedAt p w s S) (f : Fr T w w') (h1 : ¬ T s) (h2 : ∀ x, p x → ¬ T x) : SchedAt p w' s S := by
  obtain ⟨v, hb, hs⟩ := h
  exact ⟨v, hb.fr f h1, hs.fr f h2⟩
theorem SchedAt.nil {p : Nat → Prop} {w w' : World} {s : Nat} {S : SchedSt} (h : SchedAt p w s S) (f : Fr Nil w w') : SchedAt p w' s S := h.fr f (fun h => h) (fun _ _ h => h)
theorem snone_any {p : Nat → Prop} {s : Nat} {S : SchedSt} (w : World) (h : SchedAt p w s S) (hok : SchedOk S) : Calls Tryz.prog 120 #[.pointer (some ⟨s, 0, none⟩)] w fun e w' => e = .returned (.bool false) ∧ w = w' := by
  obtain ⟨v, hb, a, n, c, rfl, hlen, hmax, hc⟩ := h
  rw [flat_pair_len] at hlen
  obtain rfl : n = S.wins.length := by omega
  have h1 : (((S.wins.length : Nat) : Int) == 0) = false := by have := hok.at_lt; rw [beq_eq_false_iff_ne]; omega
  have hcb := hb.cell
  clear hlen hc
  go_enter Tryz.func120, Tryz.ntmps120
  go_wp2
  go_ret
  exact ⟨rfl, rfl⟩
set_option maxHeartbeats 1000000 in
theorem spart_any {p : Nat → Prop} {s : Nat} {S : SchedSt} (w : World) (h : SchedAt p w s S) (hok : SchedOk S) : Calls Tryz.prog 85 #[.pointer (some ⟨s, 0, none⟩)] w fun e w' => e = .returned (.int .i64 (partE S)) ∧ Fr Nil w w' := by
  have h0 := h
  obtain ⟨v, hb, a, n, c, rfl, hlen, hmax, hc⟩ := h
  rw [flat_pair_len] at hlen
  obtain rfl : n = S.wins.length := by omega
  have hat := hok.at_lt
  obtain ⟨x, hx⟩ : ∃ x, S.wins[S.at_]? = some x := ⟨S.wins[S.at_], by rw [List.getElem?_eq_getElem hat]⟩
  rcases hc with hz | ⟨b, off, rfl, hp, hc⟩
  · omega
  have hat0 : (0 : Int) ≤ (S.at_ : Int) := by omega
  have hat1 : (S.at_ : Int) < (S.wins.length : Int) := by omega
  have hfew := hok.few
  have e1 : w.cell? ⟨b, off + S.at_ * 2, none⟩ = some (.int .i64 x.1) := hc _ _ (flat_pair _ _ _ hx).1
  have hcb := hb.cell
  have HX := Lib.hid (show partE S = x.1 by unfold partE; rw [hx]; rfl)
  clear hlen hc hx
  go_enter Tryz.func85, Tryz.ntmps85
  go_wp2_with (go_at_call 120; refine (snone_any _ h0 hok).mono ?_; rintro e w1 ⟨rfl, rfl⟩)
  go_quiet (fail)
  go_wp2
  go_ret
  exact ⟨ret_int HX.out.symm, (Fr.refl Nil _).drewN _⟩
theorem sticks_any {p : Nat → Prop} {s : Nat} {S : SchedSt} (w : World) (h : SchedAt p w s S) (hok : SchedOk S) : Calls Tryz.prog 87 #[.pointer (some ⟨s, 0, none⟩)] w fun e w' => e = .returned (.int .u64 S.ticks) ∧ w = w' := by
  have h0 := h
  obtain ⟨v, hb, -⟩ := h
  have hcb := hb.cell
  go_enter Tryz.func87, Tryz.ntmps87
  go_wp2_with (go_at_call 120; refine (snone_any _ h0 hok).mono ?_; rintro e w1 ⟨rfl, rfl⟩)
  go_ret
  exact ⟨rfl, rfl⟩
theorem swindow_any {p : Nat → Prop} {s : Nat} {S : SchedSt} (w : World) (h : SchedAt p w s S) (hok : SchedOk S) : Calls Tryz.prog 88 #[.pointer (some ⟨s, 0, none⟩)] w fun e w' => e = .returned (.int .i64 S.at_) ∧ w = w' := by
  have h0 := h
  obtain ⟨v, hb, -⟩ := h
  have hcb := hb.cell
  go_enter Tryz.func88, Tryz.ntmps88
  go_wp2_with (go_at_call 120; refine (snone_any _ h0 hok).mono ?_; rintro e w1 ⟨rfl, rfl⟩)
  go_ret
  exact ⟨rfl, rfl⟩
theorem sbegin_any {s : Nat} {v x y z : Value} (w : World) (h : Blk w s [v, x, y, z]) : Calls Tryz.prog 121 #[.pointer (some ⟨s, 0, none⟩)] w fun e w' => e = .returned (.tuple #[]) ∧ Blk w' s [v, .int .i64 0, .int .i64 0, z] ∧ Fr (fun b => b = s) w w' := by
  have hcb := h.cell
  have hfz := h.frozen
  go_enter Tryz.func121, Tryz.ntmps121
  go_wp2
  go_end0
  exact ⟨rfl, (h.set 1 (.int .i64 0)).set 2 (.int .i64 0), ((Fr.refl (fun b => b = s) w).setCell ⟨s, 1, none⟩ _ (fun _ => rfl)).setCell ⟨s, 2, none⟩ _ (fun _ => rfl)⟩
def sumTo (l : List (Int × Int)) (k : Nat) : Int := ((l.take k).map (·.2)).sum
theorem sumTo_succ {l : List (Int × Int)} {k : Nat} {x : Int × Int} (hx : l[k]? = some x) : sumTo l (k + 1) = sumTo l k + x.2 := by
  unfold sumTo
  rw [List.take_add_one, hx, Option.toList_some, List.map_append, List.map_singleton, sum_snoc]
theorem sumTo_few {l : List (Int × Int)} (h : ∀ x ∈ l, 0 ≤ x.2 ∧ x.2 ≤ 255) (k : Nat) : 0 ≤ sumTo l k ∧ sumTo l k ≤ 255 * k := by
  induction k with
  | zero => simp [sumTo]
  | succ k ih =>
    cases hx : l[k]? with
    | none =>
      have : sumTo l (k + 1) = sumTo l k := by unfold sumTo; rw [List.take_add_one, hx]; simp
      rw [this]; omega
    | some y =>
      rw [sumTo_succ hx]
      have := h y (List.mem_of_getElem? hx)
      omega
def majorE (c : Conf) : Int := sumTo c.wins c.wins.length
set_option maxHeartbeats 1000000 in
theorem major_any {p : Nat → Prop} {v : Value} {c : Conf} (w : World) (h : ConfIs p w v c) (hok : checkE c = 0) :
    Calls Tryz.prog 119 #[v] w fun e w' => e = .returned (.tuple #[.int .i64 (majorE c), .int .i64 0]) ∧ Fr Nil w w' := by
  obtain ⟨hn, -⟩ := checkE_ok.1 hok
  have hcf := h
  obtain ⟨v1, v2, v3, rfl, g1, g2, g3⟩ := h
  have HA := (Blk.new w [v1, v2, v3] 26)
  have HF : Fr Nil w (w.alloc (.cells #[v1, v2, v3] 26)) := (Fr.refl _ _).alloc _
  have hcA := hcf.nil HF
  obtain ⟨a, n, cap, rfl, hlen, hmax, hcc⟩ := g2
  rw [flat_pair_len] at hlen
  obtain rfl : n = c.wins.length := by omega
  have hA0 := HA.cell
  obtain ⟨l3, l4⟩ := hn.lw
  have HW := Lib.hid hn.wins
  have HC := Lib.hid hcc
  clear hlen hcc
  go_enter Tryz.func119, Tryz.ntmps119
  go_wp2_with (go_at_call 50; refine (check_any _ hcA).mono ?_; rintro e w1 ⟨rfl, f1⟩; rw [hok]; have hA1 := (HA.fr f1 (fun h => h)).cell)
  go_loopw [5, 16] (fun n i wr => ∃ k : Nat, k ≤ c.wins.length ∧ i = .int .i64 k ∧ n = .int .i64 (sumTo c.wins k) ∧ Fr Nil w wr) (fun _ i _ => c.wins.length - (intOf i).toNat)
  case atStart => exact ⟨0, Nat.zero_le _, rfl, rfl, HF.trans f1 (fun _ _ h => h)⟩
  case round =>
    clear hA1 hA0 hcA
    obtain ⟨k, hk, rfl, rfl, hf⟩ := hrel
    have hbd := sumTo_few (l := c.wins) (fun x hx => by
      have := HW.out x hx
      unfold winOk between at this
      omega)
    by_cases hlt : k < c.wins.length
    · obtain ⟨x, hx⟩ : ∃ x, c.wins[k]? = some x := ⟨c.wins[k], by simp [hlt]⟩
      rcases HC.out with hz | ⟨b, off, rfl, hp, hc⟩
      · omega
      · have e1 := cell_nil (hc _ _ (flat_pair _ _ _ hx).1) hf
        have e2 : wr.cell? ⟨b, off + k * 2 + 1, none⟩ = some (.int .i64 x.2) := cell_nil (hc _ _ (flat_pair _ _ _ hx).2) hf
        clear hc
        obtain ⟨s1, s2⟩ := hbd k
        obtain ⟨s3, s4⟩ := hbd (k + 1)
        have hsn := sumTo_succ hx
        have HSN := Lib.hid hsn
        rw [hsn] at s3 s4
        have hwo := HW.out x (List.mem_of_getElem? hx)
        unfold winOk between at hwo
        obtain ⟨_, o1, o2⟩ := hwo
        clear hx hsn hbd
        generalize sumTo c.wins k = S at *
        go_wp2
        go_roundw
        case rel => exact ⟨k + 1, by omega, by go_num, by rw [HSN.out], hf.alloc _⟩
        case measure => simp [intOf]; omega
    · obtain rfl : k = c.wins.length := by omega
      obtain ⟨s1, s2⟩ := hbd c.wins.length
      obtain ⟨S, hS⟩ : ∃ S, sumTo c.wins c.wins.length = S := ⟨_, rfl⟩
      have HS := Lib.hid hS
      rw [hS] at s1 s2 ⊢
      clear hS hbd
      go_wp2
      go_ret2
      exact ⟨by rw [show majorE c = S from HS.out]; rfl, hf⟩
set_option maxHeartbeats 1000000 in
theorem schedNew_any {p : Nat → Prop} {v : Value} {c : Conf} (w : World) (h : ConfIs p w v c) (hok : checkE c = 0) :
    Calls Tryz.prog 81 #[v] w fun e w' => (∃ s, e = .returned (.tuple #[.pointer (some ⟨s, 0, none⟩), .int .i64 0]) ∧ w.heap.size ≤ s ∧
      SchedAt (fun b => w.heap.size ≤ b ∧ b < w'.heap.size ∧ b ≠ s) w' s ⟨c.wins, 0, 0, 0⟩) ∧ Fr Nil w w' := by
  obtain ⟨hn, -⟩ := checkE_ok.1 hok
  have hcf := h
  obtain ⟨v1, v2, v3, rfl, g1, g2, g3⟩ := h
  have HA := (Blk.new w [v1, v2, v3] 26)
  have HF : Fr Nil w (w.alloc (.cells #[v1, v2, v3] 26)) := (Fr.refl _ _).alloc _
  have hcA := hcf.nil HF
  have hg2 := g2.nil HF
  obtain ⟨l3, l4⟩ := hn.lw
  have hA0 := HA.cell
  go_enter Tryz.func81, Tryz.ntmps81
  go_wp2_with (go_at_call 119; refine (major_any _ hcA hok).mono ?_; rintro e w1 ⟨rfl, f1⟩; have hA1 := (HA.fr f1 (fun h => h)).cell)
  refine (clone52_any _ (hg2.nil f1) (pairs_one _) (by rw [flat_pair_len]; omega)).mono ?_
  rintro e w2 ⟨v', rfl, hS, f2⟩
  obtain ⟨a, n, cap, rfl⟩ := hS.slice
  go_wp2
  go_ret2
  have F1 := HF.trans f1 (fun _ _ h => h)
  have F2 := F1.trans f2 (fun _ _ h => h)
  have s1 := F1.size
  have s2 := f2.size
  refine ⟨⟨w2.heap.size, rfl, F2.size, _, Blk.new w2 [.slice a n cap, .int .i64 0, .int .i64 0, .int .u64 0] 231, ?_⟩, F2.alloc _⟩
  refine ((hS.mono (q := fun b => w.heap.size ≤ b ∧ b < w2.heap.size) fun b hb => ?_).nil ((Fr.refl Nil w2).alloc _)).mono fun b hb => ⟨hb.1, by simp; omega, by omega⟩
  rcases hb with hb | hb
  · exact hb.elim
  · omega
end Go.Priory
