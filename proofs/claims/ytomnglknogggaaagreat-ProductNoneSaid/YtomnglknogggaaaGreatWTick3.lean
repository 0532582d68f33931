/- What Tick of a schedule does where the window turns. No condition. -/
import Derived.Test.YtomnglknogggaaaGreatWTick2
namespace Go.Priory
open Go.RowKit Go.Proofs Go.Shelf
attribute [local go_sem] Oper.semAt_some
set_option maxRecDepth 100000

theorem round_any (w : World) (s : Nat) : Calls Tryz.prog 122 #[.pointer (some ⟨s, 0, none⟩)] w fun e w' => e = .returned (.func (.func 164) #[] #[.pointer (some ⟨w.heap.size, 0, none⟩)]) ∧ w' = w.alloc (.cells #[.pointer (some ⟨s, 0, none⟩)] 125) := by
  go_enter Tryz.func122, Tryz.ntmps122
  go_wp2
  go_ret
  exact ⟨rfl, rfl⟩
theorem Fr.own {S : Nat → Prop} {w W W' : World} {B : Nat} {row : Option Nat} (h : Fr S w W) (hB : w.heap.size ≤ B) (hg : W.grownBy W' row) (hr : ∀ r, row = some r → B ≤ r) : Fr S w W' :=
  h.grown hg (fun b hb e => by have := hr b e; omega)
theorem Blk.own {W W' : World} {b B : Nat} {c : List Value} {row : Option Nat} (h : Blk W b c) (hb : b < B) (hg : W.grownBy W' row) (hr : ∀ r, row = some r → B ≤ r) : Blk W' b c :=
  h.of (hg.block b h.lt (fun e => by have := hr b e.symm; omega))
set_option maxHeartbeats 2000000 in
theorem tick_turns {p : Nat → Prop} {s : Nat} {S : SchedSt} (w : World) (h : SchedAt p w s S) (hok : SchedOk S) (hps : ¬ p s) (ht : S.ticks + 1 < 1000000) {y : Int × Int} (hx : S.wins[S.at_]? = some y) (hne : S.gone + 1 = y.2) :
    Calls Tryz.prog 86 #[.pointer (some ⟨s, 0, none⟩)] w fun e w' => e = .returned (.tuple #[.int .i64 (partE S), .int .i64 (partE { S with at_ := (nextE S).toNat, gone := 0, ticks := S.ticks + 1 })]) ∧ SchedAt p w' s { S with at_ := (nextE S).toNat, gone := 0, ticks := S.ticks + 1 } ∧ Fr (fun b => b = s) w w' := by
  obtain ⟨B, hB⟩ : ∃ B, w.heap.size = B := ⟨_, rfl⟩
  have F0 : Fr Nil w (w.alloc (.cells #[.pointer (some ⟨s, 0, none⟩)] 125)) := (Fr.refl _ _).alloc _
  have X0 := Blk.new w [.pointer (some ⟨s, 0, none⟩)] 125
  have hs0 := h.nil F0
  have hX0 := X0.cell
  obtain ⟨W0, hW0⟩ : ∃ W0, w.alloc (.cells #[.pointer (some ⟨s, 0, none⟩)] 125) = W0 := ⟨_, rfl⟩
  have hlo := hok.lo
  obtain ⟨hg0, hg1⟩ := hok.gone y hx
  obtain ⟨hx21, hx22⟩ := hok.ticks y (List.mem_of_getElem? hx)
  have hslt : s < w.heap.size := by obtain ⟨v, hb, _⟩ := h; exact hb.lt
  have hk2 : ((S.ticks + 1 : Int) == 0) = false := by rw [beq_eq_false_iff_ne]; omega
  have hk3 : ((S.gone + 1 : Int) == y.2) = true := by rw [beq_iff_eq]; exact hne
  have hat := hok.at_lt
  have hfew := hok.few
  rw [hW0] at F0 X0 hs0 hX0
  rw [hB] at X0 hX0 hslt
  have hP1 := spart_any W0 hs0 hok
  have hN1 := snone_any W0 hs0 hok
  obtain ⟨v, hb0, hsl⟩ := hs0
  have hc0 := hb0.cell
  have hz0 := hb0.frozen
  have HNE := Lib.hid hne
  clear h hne
  refine callsIn_wide.1 (callsIn_of_wp_marks (n := 3) Tryz.func86 rfl trivial ?_ rfl)
  simp only [Tryz.ntmps86, List.size_toArray, List.length_cons, List.length_nil, Nat.reduceAdd, Nat.reduceSub, Array.replicate_succ, Array.replicate_zero, List.push_toArray, List.append_toArray, List.nil_append, List.cons_append]
  refine wpIn_wide.2 ?_
  go_wp2_with (first
    | (go_at_call 120; refine hN1.mono ?_; clear hN1; rintro e w1 ⟨rfl, rfl⟩)
    | (go_at_call 85; refine hP1.mono ?_; clear hP1; rintro e w2 ⟨rfl, f2⟩; have hb2 := hb0.fr f2 (fun h => h); have hc2 := hb2.cell; have hz2 := hb2.frozen; have X2 := (X0.fr f2 (fun h => h)).cell))
  have b3 := (hb2.set 3 (.int .u64 (S.ticks + 1))).set 2 (.int .i64 (S.gone + 1))
  have f3 : Fr (fun b => b = s) w2 ((w2.setCell ⟨s, 3, none⟩ (.int .u64 (S.ticks + 1))).setCell ⟨s, 2, none⟩ (.int .i64 (S.gone + 1))) := ((Fr.refl (fun b => b = s) w2).setCell ⟨s, 3, none⟩ _ (fun _ => rfl)).setCell ⟨s, 2, none⟩ _ (fun _ => rfl)
  have X3 := ((X0.fr f2 (fun h => h)).fr f3 (by show ¬ B = s; omega))
  have sl3 := (hsl.nil f2).fr f3 (fun b hb e => hps (e ▸ hb))
  generalize (w2.setCell ⟨s, 3, none⟩ (.int .u64 (S.ticks + 1))).setCell ⟨s, 2, none⟩ (.int .i64 (S.gone + 1)) = W3 at *
  have sl4 := sl3
  obtain ⟨a, m, c, rfl, hlen, hmax, hc⟩ := sl3
  rw [flat_pair_len] at hlen
  obtain rfl : m = S.wins.length := by omega
  rcases hc with hz | ⟨b, off, rfl, hp, hc⟩
  · omega
  have e2 : W3.cell? ⟨b, off + S.at_ * 2 + 1, none⟩ = some (.int .i64 y.2) := hc _ _ (flat_pair _ _ _ hx).2
  have c3 := b3.cell
  have X3c := X3.cell
  have hat0 : (0 : Int) ≤ (S.at_ : Int) := by omega
  have hat1 : (S.at_ : Int) < (S.wins.length : Int) := by omega
  have HX := Lib.hid hx
  clear hlen hc hx hc0 hz0 hc2 hz2 X2 hX0
  go_quiet (fail)
  go_wp2_with (go_at_call 122; refine (round_any _ _).mono ?_; rintro e w4 ⟨rfl, rfl⟩)
  have F3 : Fr (fun b => b = s) w W3 := ((F0.trans f2 (fun _ _ h => h)).mono (T := fun b => b = s) (fun _ h => h.elim)).trans f3 (fun _ _ h => h)
  have F4 : Fr (fun b => b = s) w ((W3.drewN nq).alloc (.cells #[.pointer (some ⟨s, 0, none⟩)] 125)) := (F3.drewN _).alloc _
  have N4 : Fr Nil W3 ((W3.drewN nq).alloc (.cells #[.pointer (some ⟨s, 0, none⟩)] 125)) := ((Fr.refl Nil W3).drewN _).alloc _
  have Y4 := Blk.new (W3.drewN nq) [.pointer (some ⟨s, 0, none⟩)] 125
  have z4 : ((W3.drewN nq).alloc (.cells #[.pointer (some ⟨s, 0, none⟩)] 125)).heap.size = W3.heap.size + 1 := by simp
  obtain ⟨D0, hD0⟩ : ∃ D0, W3.heap.size = D0 := ⟨_, rfl⟩
  obtain ⟨W4, hW4⟩ : ∃ W4, (W3.drewN nq).alloc (.cells #[.pointer (some ⟨s, 0, none⟩)] 125) = W4 := ⟨_, rfl⟩
  rw [show (W3.drewN nq).heap.size = W3.heap.size from rfl] at Y4
  rw [hW4] at F4 N4 Y4 z4 ⊢
  rw [hD0] at Y4 z4
  try rw [hD0]
  have b4 := b3.fr N4 (fun h => h)
  have B4 := X3.fr N4 (fun h => h)
  have sl5 := sl4.nil N4
  have hS4 : SchedAt p W4 s { S with gone := S.gone + 1, ticks := S.ticks + 1 } := ⟨_, b4, sl5⟩
  have hsD : s < D0 := by have := b3.lt; omega
  have hBD : B < D0 := by have := X3.lt; omega
  have ok4 : SchedOk { S with gone := S.gone, ticks := S.ticks + 1 } := ⟨hfew, hat, hok.ticks, fun z hz => hok.gone z hz, by show 0 ≤ S.ticks + 1; omega, ht⟩
  refine (wpIn_wide (n := 3)).1 ?_
  refine wpIn_rangeFunc_ownF rfl (by omega) (gf := 164) (lb := #[.pointer (some ⟨D0, 0, none⟩)]) rfl trivial (enters_of Tryz.func164 (by kernel_rfl) rfl)
    (round_stops (n₀ := W4.heap.size) W4 hS4 hat hfew Y4 (by omega) (by omega) (Nat.le_refl _)) belowK_t (belowK_b (Nat.le_refl _)) (Below.refl _ _) (fun _ => rfl)
    (fun pre W => pre = [] ∧ Fr Nil W4 W)
    (fun cd pre W => ∃ x : Int, cd = .exit 0 ∧ pre = [x] ∧ Blk W s [.slice (some ⟨b, off, none⟩) S.wins.length c, .int .i64 x, .int .i64 0, .int .u64 (S.ticks + 1)] ∧ Fr (fun b => b = s) W4 W)
    (fun q A B' row hs hg hr => ⟨hs.1, hs.2.own (Nat.le_refl _) hg (fun r e => (hr r e).1)⟩)
    (fun cd q A B' row hs hg hr => by
      obtain ⟨x, h1, h2, h3, h4⟩ := hs
      exact ⟨x, h1, h2, h3.own (B := W4.heap.size) (by omega) hg (fun r e => (hr r e).1), h4.own (Nat.le_refl _) hg (fun r e => (hr r e).1)⟩)
    ⟨rfl, Fr.refl _ _⟩
    (fun x : Int => { tmps := #[.pointer (some ⟨s, 0, none⟩), .pointer (some ⟨B, 0, none⟩), .int .i64 (partE S), .int .i64 0, .int .i64 x, .pointer (some ⟨s, 0, none⟩), .bool false, .pointer (some ⟨s, 0, none⟩), .int .i64 (partE S), .pointer (some ⟨s, 0, none⟩), .pointer (some ⟨s, 0, none⟩), .pointer (some ⟨s, 3, none⟩), .int .u64 S.ticks, .int .u64 (S.ticks + 1), .pointer (some ⟨s, 0, none⟩), .pointer (some ⟨s, 3, none⟩), .pointer (some ⟨s, 0, none⟩), .pointer (some ⟨s, 0, none⟩), .pointer (some ⟨s, 3, none⟩), .int .u64 (S.ticks + 1), .bool false, undef, undef, undef, undef, undef, .pointer (some ⟨s, 0, none⟩), .pointer (some ⟨s, 0, none⟩), .pointer (some ⟨s, 2, none⟩), .int .i64 S.gone, .int .i64 (S.gone + 1), .pointer (some ⟨s, 0, none⟩), .pointer (some ⟨s, 2, none⟩), .pointer (some ⟨s, 0, none⟩), .pointer (some ⟨s, 0, none⟩), .pointer (some ⟨s, 2, none⟩), .int .i64 (S.gone + 1), .pointer (some ⟨s, 0, none⟩), .pointer (some ⟨s, 0, none⟩), .pointer (some ⟨s, 0, none⟩), .slice (some ⟨b, off, none⟩) S.wins.length c, .pointer (some ⟨s, 0, none⟩), .pointer (some ⟨s, 0, none⟩), .pointer (some ⟨s, 1, none⟩), .int .i64 S.at_, .pointer (some ⟨b, off + S.at_ * 2, none⟩), .pointer (some ⟨b, off + S.at_ * 2 + 1, none⟩), .int .i64 y.2, .bool true, .pointer (some ⟨s, 0, none⟩), .func (.func 164) #[] #[.pointer (some ⟨D0, 0, none⟩)], .int .i64 x, undef, undef, undef, undef, undef, undef, undef, undef, undef, undef], defers := [] }) ?assign ?body ?done ?stop
  case assign =>
    intro l x W K hK
    gi_wp2
    exact hK
  case body =>
    rintro l pre x W ⟨rfl, hF⟩ _
    have cs := (b4.fr hF (fun h => h)).cell
    have zs := (b4.fr hF (fun h => h)).frozen
    have cB := (B4.fr hF (fun h => h)).cell
    have Bs := b4.fr hF (fun h => h)
    have hmo : Tryz.prog.follows .mixedOrders = true := by kernel_rfl
    gi_wp2
    gi_region_o
    all_goals
      gi_wp2
      first
        | exact ⟨((KeepsOthers.drew _).trans (KeepsOthers.setCell _ _ _)).trans (KeepsOthers.setCell _ _ _), x, rfl, rfl, (Bs.drew.set 1 (.int .i64 x)).set 2 (.int .i64 0), (((hF.mono (T := fun b => b = s) (fun _ h => h.elim)).drew).setCell ⟨s, 1, none⟩ _ (fun _ => rfl)).setCell ⟨s, 2, none⟩ _ (fun _ => rfl)⟩
        | exact ⟨((KeepsOthers.drew _).trans (KeepsOthers.setCell _ _ _)).trans (KeepsOthers.setCell _ _ _), x, rfl, rfl, (Bs.drew.set 2 (.int .i64 0)).set 1 (.int .i64 x), (((hF.mono (T := fun b => b = s) (fun _ h => h.elim)).drew).setCell ⟨s, 2, none⟩ _ (fun _ => rfl)).setCell ⟨s, 1, none⟩ _ (fun _ => rfl)⟩
  case done =>
    rintro D ys W hD hlen ⟨rfl, hF⟩ hK
    simp at hlen
    omega
  case stop =>
    rintro D cd pre W hD hpre ⟨x, rfl, rfl, hb5, hf5⟩ hK
    simp only [List.head?_cons, Option.some.injEq] at hpre
    replace hpre : x = nextE S := hpre
    obtain ⟨n0, n1⟩ := next_lt hok
    have hxn : x = ((nextE S).toNat : Nat) := by omega
    have hS5 : SchedAt p W s { S with at_ := (nextE S).toNat, gone := 0, ticks := S.ticks + 1 } := ⟨_, by rw [hxn] at hb5; exact hb5, sl5.fr hf5 (fun b hb e => hps (e ▸ hb))⟩
    have ok5 : SchedOk { S with at_ := (nextE S).toNat, gone := 0, ticks := S.ticks + 1 } := by
      have := tick_ok hok ht
      unfold tickS at this
      rw [HX.out, Option.map_some, Option.getD_some, if_pos HNE.out] at this
      exact this
    have B5 := (B4.fr hf5 (by show ¬ B = s; omega)).cell
    have hDl := lt_of_heap hK
    have hsW := hf5.size
    clear hxn
    have HPR := Lib.hid hpre
    clear hpre
    refine wpIn_wide.2 ?_
    go_wp2_with (go_at_call 85; refine (spart_any _ hS5 ok5).mono ?_; rintro e w6 ⟨rfl, f6⟩)
    have hK6 : w6.heap[D]? = some (.deferred (some [])) := (f6.same D hDl (fun h => h)).trans hK
    refine ⟨by simp, .inl ⟨_, _, rfl, run_takeDeferred hK6, ?_⟩⟩
    have F6 : Fr (fun b => b = s) w w6 := (F4.trans hf5 (fun _ _ h => h)).trans f6 (fun _ _ h => h.elim)
    have sF4 := F4.size
    have FD : Fr (fun b => b = D) w6 (w6.putObj D (.deferred none)) := (Fr.refl (fun b => b = D) w6).putObj D _ (fun _ => rfl)
    have sl6 := (((sl5.lt (by omega)).fr hf5 (fun b hb e => hps (e ▸ hb.1))).nil f6).fr FD (fun b hb e => by have := hb.2; omega)
    have bb6 := (hb5.fr f6 (fun h => h)).fr FD (by show ¬ s = D; omega)
    rw [show (Value.int .i64 x) = .int .i64 ((nextE S).toNat : Nat) by rw [HPR.out]; (try congr 1); (try omega)] at bb6
    exact ⟨_, results_tmp2 rfl _ _ _, rfl, ⟨_, bb6, sl6.mono (fun b hb => hb.1)⟩, F6.trans FD (fun b hb e => by omega)⟩
/-- Tick. -/
theorem tick_any {p : Nat → Prop} {s : Nat} {S : SchedSt} (w : World) (h : SchedAt p w s S) (hok : SchedOk S) (hps : ¬ p s) (ht : S.ticks + 1 < 1000000) :
    Calls Tryz.prog 86 #[.pointer (some ⟨s, 0, none⟩)] w fun e w' => e = .returned (.tuple #[.int .i64 (partE S), .int .i64 (partE (tickS S))]) ∧ SchedAt p w' s (tickS S) ∧ Fr (fun b => b = s) w w' := by
  obtain ⟨x, hx⟩ : ∃ x, S.wins[S.at_]? = some x := ⟨S.wins[S.at_]'hok.at_lt, by rw [List.getElem?_eq_getElem hok.at_lt]⟩
  unfold tickS
  rw [hx, Option.map_some, Option.getD_some]
  split
  · rename_i e; exact tick_turns w h hok hps ht hx e
  · rename_i e; exact tick_stays w h hok hps ht hx e
end Go.Priory
