/- ProductNone, walked. No condition. -/
import Derived.Test.YtomnglknogggaaaGreatWPN
namespace Go.Priory
open Go.RowKit Go.Proofs
set_option maxRecDepth 100000

set_option maxHeartbeats 1000000 in
theorem productNone_any (w : World) (x y z a b : Int) : Calls Tryz.prog 11 #[.agg #[.int .i64 x, .int .i64 y, .int .u32 z], .int .i64 a, .int .i64 b] w fun e w' => e = .returned (.bool true) ∧ Fr Nil w w' := by
  obtain ⟨B, hB⟩ : ∃ B, w.heap.size = B := ⟨_, rfl⟩
  have F0 : Fr Nil w ((w.alloc (.cells #[.int .i64 x, .int .i64 y, .int .u32 z] 43)).alloc (.cells #[.pointer none, .pointer none, .slice none 0 0] 128)) := ((Fr.refl _ _).alloc _).alloc _
  have X0 := (Blk.new w [.int .i64 x, .int .i64 y, .int .u32 z] 43).alloc (.cells #[.pointer none, .pointer none, .slice none 0 0] 128)
  have Y0 := Blk.new (w.alloc (.cells #[.int .i64 x, .int .i64 y, .int .u32 z] 43)) [.pointer none, .pointer none, .slice none 0 0] 128
  rw [World.size_alloc] at Y0
  rw [hB] at X0 Y0
  go_enter Tryz.func11, Tryz.ntmps11
  go_wp2_with fail
  go_loopw [7, 9] (fun p i wr => ∃ k : Nat, k ≤ 2 ∧ i = .int .i64 k ∧ (k < 2 → p = .pointer none) ∧ Fr Nil w wr ∧ Blk wr B [.int .i64 x, .int .i64 y, .int .u32 z] ∧ Blk wr (B + 1) [.pointer none, .pointer none, .slice none 0 0]) (fun _ i _ => 2 - (intOf i).toNat)
  case atStart => exact ⟨0, by omega, rfl, fun _ => rfl, F0, X0, Y0⟩
  case round =>
    clear F0 X0 Y0
    obtain ⟨k, hk, rfl, hp, hf, hX, hY⟩ := hrel
    have hXc := hX.cell
    have hk3 : k = 0 ∨ k = 1 ∨ k = 2 := by omega
    rcases hk3 with rfl | rfl | rfl
    · obtain rfl := hp (by omega)
      clear hp
      go_wp2_with (first
        | (go_at_call 40; refine (pnow_none wr (pnone_none wr)).mono ?_; rintro e w1 ⟨rfl, rfl⟩)
        | (go_at_call 39; refine (pstep_none wr (fun w' _ => pnone_none w') x y z).mono ?_; rintro e w2 ⟨rfl, f2⟩)
        | (go_at_call 42; refine (pleft_none w2 (pnone_none w2) a b).mono ?_; rintro e w3 ⟨rfl, rfl⟩)
        | (go_at_call 41; refine (pused_none w2 (pnone_none w2) a).mono ?_; rintro e w3 ⟨rfl, rfl⟩)
        | (go_at_call 48; refine (pwaits_none w2 (pnone_none w2) a).mono ?_; rintro e w3 ⟨rfl, rfl⟩))
      go_roundw
      case rel => exact ⟨1, by omega, rfl, fun _ => rfl, hf.trans f2 (fun _ _ h => h), hX.fr f2 (fun h => h), hY.fr f2 (fun h => h)⟩
      case measure => simp [intOf]
    · obtain rfl := hp (by omega)
      clear hp
      have hY2 : ∀ w', Fr Nil wr w' → Calls Tryz.prog 84 #[.pointer (some ⟨B + 1, 0, none⟩)] w' fun e w1 => e = .returned (.bool true) ∧ w' = w1 := fun w' f => pnone_zero w' (hY.fr f (fun h => h))
      go_wp2_with (first
        | (go_at_call 40; refine (pnow_none wr (hY2 wr (Fr.refl _ _))).mono ?_; rintro e w1 ⟨rfl, rfl⟩)
        | (go_at_call 39; refine (pstep_none wr hY2 x y z).mono ?_; rintro e w2 ⟨rfl, f2⟩; have hY3 := hY2 w2 f2)
        | (go_at_call 42; refine (pleft_none w2 hY3 a b).mono ?_; rintro e w3 ⟨rfl, rfl⟩)
        | (go_at_call 41; refine (pused_none w2 hY3 a).mono ?_; rintro e w3 ⟨rfl, rfl⟩)
        | (go_at_call 48; refine (pwaits_none w2 hY3 a).mono ?_; rintro e w3 ⟨rfl, rfl⟩))
      go_roundw
      case rel => exact ⟨2, by omega, rfl, fun h => by omega, hf.trans f2 (fun _ _ h => h), hX.fr f2 (fun h => h), hY.fr f2 (fun h => h)⟩
      case measure => simp [intOf]
    · clear hp hX hY hXc
      go_wp2_with (go_at_call 37; refine (awake26_any _).mono ?_; rintro e w1 ⟨rfl, f1⟩)
      go_ret
      exact ⟨rfl, hf.trans f1 (fun _ _ h => h)⟩
end Go.Priory
