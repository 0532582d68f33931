/- slots.Table.Add. No condition. -/
import Derived.Test.YtomnglknogggaaaGreatWSlots
namespace Go.Priory
open Go.RowKit Go.Proofs
set_option maxRecDepth 100000

/-- The first number, from n on, that is no process's; there are k to ask. -/
def freeFrom (l : Procs) : Nat → Int → Option Int
  | 0, _ => none
  | k + 1, n => if (mget n l).isNone then some n else freeFrom l k (n + 1)
def addE (most : Int) (l : Procs) (parent : Int) : Int :=
  match mget parent l with
  | none => 4
  | some p => if p.state = 3 then 9 else match freeFrom l most.toNat 1 with | none => 3 | some _ => 0
def addN (most : Int) (l : Procs) (parent : Int) : Int := if addE most l parent = 0 then (freeFrom l most.toNat 1).getD 0 else 0
def addP (most : Int) (l : Procs) (parent : Int) : Procs := if addE most l parent = 0 then mput (addN most l parent) ⟨parent, 1, 0⟩ l else l
set_option maxHeartbeats 2000000 in
theorem tadd_any {b m : Nat} {most : Int} {l : Procs} (w : World) (h : TableAt w b m most l) (hok : ProcsOk most l) (hbm : b ≠ m) (parent : Int) :
    Calls Tryz.prog 174 #[.pointer (some ⟨b, 0, none⟩), .int .i64 parent] w fun e w' => e = .returned (.tuple #[.int .i64 (addN most l parent), .int .i64 (addE most l parent)]) ∧ TableAt w' b m most (addP most l parent) ∧ Fr (fun x => x = m) w w' := by
  have key := there_any w h parent
  unfold thereV at key
  have hlow := hok.low
  have hhigh := hok.high
  cases hk : mget parent l with
  | none =>
    simp only [hk] at key
    have HE := Lib.hid (show addE most l parent = 4 by unfold addE; rw [hk])
    have HN := Lib.hid (show addN most l parent = 0 by unfold addN; rw [HE.out]; rfl)
    have HP := Lib.hid (show addP most l parent = l by unfold addP; rw [HE.out]; rfl)
    clear hk
    go_enter Tryz.func174, Tryz.ntmps174
    go_wp2_with (go_at_call 215; refine key.mono ?_; rintro e w1 ⟨rfl, f1⟩)
    go_ret2
    refine ⟨by rw [HE.out, HN.out]; rfl, ?_, ((f1.alloc _).mono (fun _ h => h.elim))⟩
    rw [HP.out]; exact h.fr (f1.alloc _) (fun h => h) (fun h => h)
  | some p =>
    simp only [hk] at key
    by_cases hz : p.state = 3
    · have HE := Lib.hid (show addE most l parent = 9 by unfold addE; rw [hk]; simp only [hz, if_true])
      have HN := Lib.hid (show addN most l parent = 0 by unfold addN; rw [HE.out]; rfl)
      have HP := Lib.hid (show addP most l parent = l by unfold addP; rw [HE.out]; rfl)
      clear hk
      rw [hz] at key
      go_enter Tryz.func174, Tryz.ntmps174
      go_wp2_with (go_at_call 215; refine key.mono ?_; rintro e w1 ⟨rfl, f1⟩)
      go_ret2
      refine ⟨by rw [HE.out, HN.out]; rfl, ?_, ((f1.alloc _).mono (fun _ h => h.elim))⟩
      rw [HP.out]; exact h.fr (f1.alloc _) (fun h => h) (fun h => h)
    · have HE := Lib.hid (show addE most l parent = (match freeFrom l most.toNat 1 with | none => 3 | some _ => 0) by unfold addE; rw [hk]; simp only [hz, if_false])
      have hz' : (p.state == 3) = false := by simpa using hz
      have hnot := run_not'
      clear hk
      go_enter Tryz.func174, Tryz.ntmps174
      go_wp2_with (go_at_call 215; refine key.mono ?_; rintro e w1 ⟨rfl, f1⟩)
      go_loopw [8] (fun i wr => ∃ k : Nat, (k : Int) ≤ most ∧ i = .int .i64 (k + 1) ∧ freeFrom l most.toNat 1 = freeFrom l (most.toNat - k) (k + 1) ∧ Fr Nil w wr) (fun i _ => 20 - (intOf i).toNat)
      case atStart => exact ⟨0, by omega, rfl, by simp, f1.alloc _⟩
      case round =>
        obtain ⟨k, hkm, rfl, hff, f2⟩ := hrel
        have h2 := h.fr f2 (fun h => h) (fun h => h)
        have hc := h2.1.cell
        have hl2 := h2.2.lookup2 Tryz.underlying191 Tryz.underlying3 ((k : Int) + 1) zero190
        rw [mget_procVal] at hl2
        have hS := procs_sorted hok.sorted
        by_cases hlt : (k : Int) + 1 ≤ most
        · cases hn : mget ((k : Int) + 1) l with
          | none =>
            rw [hn] at hl2
            simp only [Option.map_none] at hl2
            have hz0 : freeFrom l most.toNat 1 = some ((k : Int) + 1) := by
              rw [hff, show most.toNat - k = (most.toNat - k - 1) + 1 by omega]
              unfold freeFrom
              rw [hn]; rfl
            have HE0 := Lib.hid (show addE most l parent = 0 by rw [HE.out, hz0])
            have HN0 := Lib.hid (show addN most l parent = (k : Int) + 1 by unfold addN; rw [if_pos HE0.out, hz0]; rfl)
            have HP0 := Lib.hid (show addP most l parent = mput ((k : Int) + 1) ⟨parent, 1, 0⟩ l by unfold addP; rw [if_pos HE0.out, HN0.out])
            have hm3 := (h2.2).alloc (.cells #[.int .i64 0, .int .i64 0, .int .i64 0, .int .u32 0] 190)
            have hc2 := (h2.1.alloc (.cells #[.int .i64 0, .int .i64 0, .int .i64 0, .int .u32 0] 190)).cell
            clear hff hz0 hn HE
            go_wp2_with (at_mapUpdate; refine wpList_mapSet rfl _ _ _ 191 rfl 3 190 Tryz.underlying191 Tryz.underlying3 _ _ _ _ rfl rfl rfl hm3 hS ?_; intro ob hm2; dsimp only [Act.put])
            go_ret2
            refine ⟨by rw [HE0.out, HN0.out]; rfl, ⟨?_, ?_⟩, ((f2.mono (T := fun x => x = m) (fun _ h => h.elim)).alloc _).putObj _ _ (fun _ => rfl)⟩
            · exact (h2.1.alloc _).putOther _ _ hbm
            · rw [HP0.out, ← mput_procVal]; exact hm2
          | some x =>
            rw [hn] at hl2
            have hz0 : freeFrom l most.toNat 1 = freeFrom l (most.toNat - (k + 1)) (((k + 1 : Nat) : Int) + 1) := by
              rw [hff, show most.toNat - k = (most.toNat - (k + 1)) + 1 by omega]
              conv => lhs; unfold freeFrom
              rw [hn]; rfl
            have HZ := Lib.hid hz0
            clear hff hz0 hn HE
            go_wp2
            go_roundw
            case rel => exact ⟨k + 1, by omega, by go_num, HZ.out, f2.alloc _⟩
            case measure => simp [intOf]; omega
        · have hz0 : freeFrom l most.toNat 1 = none := by
            rw [hff, show most.toNat - k = 0 by omega]; rfl
          have HE0 := Lib.hid (show addE most l parent = 3 by rw [HE.out, hz0])
          have HN0 := Lib.hid (show addN most l parent = 0 by unfold addN; rw [HE0.out]; rfl)
          have HP0 := Lib.hid (show addP most l parent = l by unfold addP; rw [HE0.out]; rfl)
          clear hff hz0 HE
          go_wp2
          go_ret2
          exact ⟨by rw [HE0.out, HN0.out]; rfl, by rw [HP0.out]; exact h2, f2.mono (fun _ h => h.elim)⟩
end Go.Priory
