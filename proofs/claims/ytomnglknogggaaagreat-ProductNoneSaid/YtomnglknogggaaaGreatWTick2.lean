/- What Tick of a schedule does. No condition. -/
import Derived.Test.YtomnglknogggaaaGreatWTick
namespace Go.Priory
open Go.RowKit Go.Proofs Go.Shelf
attribute [local go_sem] Oper.semAt_some
set_option maxRecDepth 100000

def tickS (S : SchedSt) : SchedSt :=
  if S.gone + 1 = ((S.wins[S.at_]?).map (·.2)).getD 0 then { S with at_ := (nextE S).toNat, gone := 0, ticks := S.ticks + 1 } else { S with gone := S.gone + 1, ticks := S.ticks + 1 }
theorem next_lt {S : SchedSt} (hok : SchedOk S) : 0 ≤ nextE S ∧ nextE S < S.wins.length := by
  have := hok.at_lt
  unfold nextE
  exact ⟨Int.emod_nonneg _ (by omega), Int.emod_lt_of_pos _ (by omega)⟩
theorem tick_ok {S : SchedSt} (hok : SchedOk S) (h : S.ticks + 1 < 1000000) : SchedOk (tickS S) := by
  have h1 := hok.few
  have h2 := hok.at_lt
  have h3 := next_lt hok
  have h4 := hok.lo
  obtain ⟨x, hx⟩ : ∃ x, S.wins[S.at_]? = some x := ⟨S.wins[S.at_], by rw [List.getElem?_eq_getElem h2]⟩
  obtain ⟨h5, h6⟩ := hok.gone x hx
  unfold tickS
  rw [hx, Option.map_some, Option.getD_some]
  split
  · refine ⟨h1, by show (nextE S).toNat < S.wins.length; omega, hok.ticks, fun y hy => ⟨by show (0 : Int) ≤ 0; omega, ?_⟩, by show 0 ≤ S.ticks + 1; omega, h⟩
    have := hok.ticks y (List.mem_of_getElem? hy)
    show 0 < y.2
    omega
  · rename_i hne
    refine ⟨h1, h2, hok.ticks, fun y hy => ?_, by show 0 ≤ S.ticks + 1; omega, h⟩
    have e : y = x := by rw [show S.wins[S.at_]? = some y from hy] at hx; exact Option.some.inj hx
    subst e
    show 0 ≤ S.gone + 1 ∧ S.gone + 1 < y.2
    omega
set_option maxHeartbeats 2000000 in
theorem tick_stays {p : Nat → Prop} {s : Nat} {S : SchedSt} (w : World) (h : SchedAt p w s S) (hok : SchedOk S) (hps : ¬ p s) (ht : S.ticks + 1 < 1000000) {x : Int × Int} (hx : S.wins[S.at_]? = some x) (hne : S.gone + 1 ≠ x.2) :
    Calls Tryz.prog 86 #[.pointer (some ⟨s, 0, none⟩)] w fun e w' => e = .returned (.tuple #[.int .i64 (partE S), .int .i64 (partE S)]) ∧ SchedAt p w' s { S with gone := S.gone + 1, ticks := S.ticks + 1 } ∧ Fr (fun b => b = s) w w' := by
  obtain ⟨B, hB⟩ : ∃ B, w.heap.size = B := ⟨_, rfl⟩
  have F0 : Fr Nil w (w.alloc (.cells #[.pointer (some ⟨s, 0, none⟩)] 125)) := (Fr.refl _ _).alloc _
  have X0 := Blk.new w [.pointer (some ⟨s, 0, none⟩)] 125
  have hs0 := h.nil F0
  have hX0 := X0.cell
  obtain ⟨W0, hW0⟩ : ∃ W0, w.alloc (.cells #[.pointer (some ⟨s, 0, none⟩)] 125) = W0 := ⟨_, rfl⟩
  have hlo := hok.lo
  obtain ⟨hg0, hg1⟩ := hok.gone x hx
  have hx2 := hok.ticks x (List.mem_of_getElem? hx)
  obtain ⟨hx21, hx22⟩ := hx2
  have hslt : s < w.heap.size := by obtain ⟨v, hb, _⟩ := h; exact hb.lt
  have hk2 : ((S.ticks + 1 : Int) == 0) = false := by rw [beq_eq_false_iff_ne]; omega
  have hk3 : ((S.gone + 1 : Int) == x.2) = false := by rw [beq_eq_false_iff_ne]; exact hne
  have hat := hok.at_lt
  have hfew := hok.few
  rw [hW0] at F0 X0 hs0 hX0
  rw [hB] at X0 hX0 hslt
  have hpart := Lib.hid (show ∀ S' : SchedSt, S'.wins = S.wins → S'.at_ = S.at_ → SchedOk S' → partE S' = partE S from fun S' e1 e2 _ => by unfold partE; rw [e1, e2])
  have hP1 := spart_any W0 hs0 hok
  have hN1 := snone_any W0 hs0 hok
  obtain ⟨v, hb0, hsl⟩ := hs0
  have hc0 := hb0.cell
  have hz0 := hb0.frozen
  clear h
  go_enter Tryz.func86, Tryz.ntmps86
  go_wp2_with (first
    | (go_at_call 120; refine hN1.mono ?_; clear hN1; rintro e w1 ⟨rfl, rfl⟩)
    | (go_at_call 85; refine hP1.mono ?_; clear hP1; rintro e w2 ⟨rfl, f2⟩; have hb2 := hb0.fr f2 (fun h => h); have hc2 := hb2.cell; have hz2 := hb2.frozen; have X2 := (X0.fr f2 (fun h => h)).cell))
  have b3 := (hb2.set 3 (.int .u64 (S.ticks + 1))).set 2 (.int .i64 (S.gone + 1))
  have f3 : Fr (fun b => b = s) w2 ((w2.setCell ⟨s, 3, none⟩ (.int .u64 (S.ticks + 1))).setCell ⟨s, 2, none⟩ (.int .i64 (S.gone + 1))) := ((Fr.refl (fun b => b = s) w2).setCell ⟨s, 3, none⟩ _ (fun _ => rfl)).setCell ⟨s, 2, none⟩ _ (fun _ => rfl)
  have X3 := ((X0.fr f2 (fun h => h)).fr f3 (by show ¬ B = s; omega)).cell
  have sl3 := (hsl.nil f2).fr f3 (fun b hb e => hps (e ▸ hb))
  generalize (w2.setCell ⟨s, 3, none⟩ (.int .u64 (S.ticks + 1))).setCell ⟨s, 2, none⟩ (.int .i64 (S.gone + 1)) = W3 at *
  have hS3 : SchedAt p W3 s { S with gone := S.gone + 1, ticks := S.ticks + 1 } := ⟨v, b3, sl3⟩
  have ok3 : SchedOk { S with gone := S.gone + 1, ticks := S.ticks + 1 } := ⟨hfew, hat, hok.ticks, fun y hy => by
    have e : y = x := by rw [show S.wins[S.at_]? = some y from hy] at hx; exact Option.some.inj hx
    subst e
    show 0 ≤ S.gone + 1 ∧ S.gone + 1 < y.2
    omega, by show 0 ≤ S.ticks + 1; omega, ht⟩
  obtain ⟨a, m, c, rfl, hlen, hmax, hc⟩ := sl3
  rw [flat_pair_len] at hlen
  obtain rfl : m = S.wins.length := by omega
  rcases hc with hz | ⟨b, off, rfl, hp, hc⟩
  · omega
  have e2 : W3.cell? ⟨b, off + S.at_ * 2 + 1, none⟩ = some (.int .i64 x.2) := hc _ _ (flat_pair _ _ _ hx).2
  have c3 := b3.cell
  have hat0 : (0 : Int) ≤ (S.at_ : Int) := by omega
  have hat1 : (S.at_ : Int) < (S.wins.length : Int) := by omega
  have HP := Lib.hid (show partE { S with gone := S.gone + 1, ticks := S.ticks + 1 } = partE S from rfl)
  have HX := Lib.hid hx
  clear hlen hc hx hc0 hz0 hc2 hz2 X2 hX0
  go_quiet (fail)
  go_wp2_with (go_at_call 85; refine (spart_any _ (hS3.nil ((Fr.refl Nil _).drewN _)) ok3).mono ?_; rintro e w4 ⟨rfl, f4⟩)
  go_ret2
  have F3 : Fr (fun b => b = s) w W3 := ((F0.trans f2 (fun _ _ h => h)).mono (T := fun b => b = s) (fun _ h => h.elim)).trans f3 (fun _ _ h => h)
  exact ⟨by rw [HP.out]; rfl, (hS3.nil ((Fr.refl Nil _).drewN _)).nil f4, (F3.drewN _).trans f4 (fun _ _ h => h.elim)⟩
end Go.Priory
