/- What conf.Frames and conf.Check do. No condition. -/
import Derived.Test.YtomnglknogggaaaGreatWConf
import Derived.Test.YtomnglknogggaaaGreatDraw
namespace Go.Priory
open Go.RowKit Go.Proofs
set_option maxRecDepth 100000

def byE (n m : Int) : Int := (n + m - 1) / m
theorem by_any (w : World) (n m : Int) (h0 : 0 ≤ n) (hn : n ≤ 100000) (hm : 1 ≤ m) (hm2 : m ≤ 1000) : Calls Tryz.prog 129 #[.int .i64 n, .int .i64 m] w fun e w' => e = .returned (.int .i64 (byE n m)) ∧ w = w' := by
  have h1 : (m == 0) = false := by simp; omega
  have h2 : (n + m - 1).tdiv m = byE n m := by unfold byE; rw [Int.tdiv_eq_ediv_of_nonneg (by omega)]
  have hb : (0 : Int) ≤ byE n m ∧ byE n m ≤ 101000 := by
    unfold byE
    refine ⟨Int.ediv_nonneg (by omega) (by omega), ?_⟩
    have := Int.ediv_le_self m (show 0 ≤ n + m - 1 by omega)
    omega
  obtain ⟨hb1, hb2⟩ := hb
  go_enter Tryz.func129, Tryz.ntmps129
  go_wp2
  go_ret
  exact ⟨rfl, rfl⟩
theorem byE_few {n m : Int} (h0 : 0 ≤ n) (hn : n ≤ 100000) (hm : 1 ≤ m) : 0 ≤ byE n m ∧ byE n m ≤ n + m := by
  unfold byE
  refine ⟨Int.ediv_nonneg (by omega) (by omega), ?_⟩
  have := Int.ediv_le_self m (show 0 ≤ n + m - 1 by omega)
  omega
def partFrames (p : Int × Int) : Int := p.1 + byE p.2 3
def chanFrames (x : Chan) : Int := byE (x.cap * (x.words + 1)) 32
def framesE (c : Conf) : Int := (c.parts.map partFrames).sum + (c.chans.map chanFrames).sum
open Classical in
noncomputable def checkE (c : Conf) : Int := if NumbersOk c then (if 1024 < framesE c then 3 else 0) else 2
theorem sum_snoc (l : List Int) (x : Int) : (l ++ [x]).sum = l.sum + x := by simp
theorem sum_bounds {l : List Int} {m : Int} (h : ∀ x ∈ l, 0 ≤ x ∧ x ≤ m) : 0 ≤ l.sum ∧ l.sum ≤ m * l.length := by
  induction l with
  | nil => simp
  | cons y l ih =>
    have h1 := h y (.head _)
    have h2 := ih (fun x hx => h x (.tail _ hx))
    simp only [List.sum_cons, List.length_cons]
    have : m * ((l.length + 1 : Nat) : Int) = m * l.length + m := by rw [Int.natCast_add, Int.mul_add]; simp
    omega

theorem chan_few {m : Nat} {p : Chan} (h : (0 ≤ p.from_ ∧ p.from_ ≤ (m : Int) - 1) ∧ (0 ≤ p.to ∧ p.to ≤ (m : Int) - 1) ∧ p.from_ ≠ p.to ∧ (1 ≤ p.cap ∧ p.cap ≤ 8) ∧ (1 ≤ p.words ∧ p.words ≤ 8)) :
    0 ≤ p.cap * (p.words + 1) ∧ p.cap * (p.words + 1) ≤ 72 := by
  obtain ⟨_, _, _, ⟨h1, h2⟩, h3, h4⟩ := h
  refine ⟨Int.mul_nonneg (by omega) (by omega), ?_⟩
  have : p.cap * (p.words + 1) ≤ 8 * 9 := Int.mul_le_mul h2 (by omega) (by omega) (by omega)
  omega
theorem numbers_ok {p : Nat → Prop} {v : Value} {c : Conf} (w : World) (h : ConfIs p w v c) (hok : NumbersOk c) :
    Calls Tryz.prog 93 #[v] w fun e w' => e = .returned (.int .i64 0) ∧ Fr Nil w w' :=
  (numbers_any w h).mono fun e w' ⟨h1, h2⟩ => ⟨h1.elim (·.2) (fun h => absurd hok h.1), h2⟩
set_option maxHeartbeats 4000000 in
theorem frames_any {p : Nat → Prop} {v : Value} {c : Conf} (w : World) (h : ConfIs p w v c) (hok : NumbersOk c) :
    Calls Tryz.prog 94 #[v] w fun e w' => e = .returned (.int .i64 (framesE c)) ∧ Fr Nil w w' := by
  have hc := h
  obtain ⟨v1, v2, v3, rfl, ⟨a1, n1, k1, rfl, hl1, hm1, hc1⟩, ⟨a2, n2, k2, rfl, hl2, hm2, hc2⟩, ⟨a3, n3, k3, rfl, hl3, hm3, hc3⟩⟩ := h
  rw [flat_pair_len] at hl1 hl2
  rw [flat_chan_len] at hl3
  obtain rfl : n1 = c.parts.length := by omega
  obtain rfl : n2 = c.wins.length := by omega
  obtain rfl : n3 = c.chans.length := by omega
  clear hl1 hl2 hl3
  have HC1 := Lib.hid hc1
  have HC3 := Lib.hid hc3
  clear hc1 hc2 hc3
  have hlp := hok.lp
  have hlc := hok.lc
  unfold between at hlp
  have HPo := Lib.hid hok.parts
  have HCo := Lib.hid hok.chans
  have HP1 : ∀ k, 0 ≤ ((c.parts.take k).map partFrames).sum ∧ ((c.parts.take k).map partFrames).sum ≤ 300 * 8 := fun k => by
    have h1 := sum_bounds (l := (c.parts.take k).map partFrames) (m := 300) (fun x hx => by
      obtain ⟨p, hp, rfl⟩ := List.mem_map.1 hx
      have := hok.parts p (List.mem_of_mem_take hp)
      unfold partOk between at this
      have := byE_few (n := p.2) (m := 3) (by omega) (by omega) (by omega)
      unfold partFrames; omega)
    have h2 : ((c.parts.take k).map partFrames).length ≤ 8 := by simp; omega
    omega
  have HC1' : ∀ k, 0 ≤ ((c.chans.take k).map chanFrames).sum ∧ ((c.chans.take k).map chanFrames).sum ≤ 105 * 16 := fun k => by
    have h1 := sum_bounds (l := (c.chans.take k).map chanFrames) (m := 105) (fun x hx => by
      obtain ⟨p, hp, rfl⟩ := List.mem_map.1 hx
      have := hok.chans p (List.mem_of_mem_take hp)
      unfold chanOk between at this
      have h9 := chan_few this
      have := byE_few (n := p.cap * (p.words + 1)) (m := 32) (by omega) (by omega) (by omega)
      unfold chanFrames; omega)
    have h2 : ((c.chans.take k).map chanFrames).length ≤ 16 := by simp; omega
    omega
  have HS1 := Lib.hid HP1
  have HS2 := Lib.hid HC1'
  clear HP1 HC1'
  have HA := (Blk.new w [.slice a1 c.parts.length k1, .slice a2 c.wins.length k2, .slice a3 c.chans.length k3] 26)
  have HF : Fr Nil w (w.alloc (.cells #[.slice a1 c.parts.length k1, .slice a2 c.wins.length k2, .slice a3 c.chans.length k3] 26)) := (Fr.refl _ _).alloc _
  have hA0 := HA.cell
  have hcA := hc.nil HF
  clear hc
  go_enter Tryz.func94, Tryz.ntmps94
  go_wp2_with (go_at_call 93; refine (numbers_ok _ hcA hok).mono ?_; rintro e w1 ⟨rfl, hf1⟩; have HA1 := HA.fr hf1 (fun h => h); have hA1 := HA1.cell; have HF1 := HF.trans hf1 (fun _ _ h => h))
  go_loopw [3, 14] (fun n i wr => ∃ k : Nat, k ≤ c.parts.length ∧ i = .int .i64 k ∧ n = .int .i64 ((c.parts.take k).map partFrames).sum ∧ Fr Nil w wr ∧
      Blk wr w.heap.size [.slice a1 c.parts.length k1, .slice a2 c.wins.length k2, .slice a3 c.chans.length k3]) (fun _ i _ => c.parts.length - (intOf i).toNat)
  case atStart => exact ⟨0, Nat.zero_le _, rfl, rfl, HF1, HA1⟩
  case round =>
    clear HF HA hA0 HF1 HA1 hA1 hcA hf1
    obtain ⟨k, hk, rfl, rfl, hf, hA⟩ := hrel
    have hAc := hA.cell
    by_cases hlt : k < c.parts.length
    · obtain ⟨x, hx⟩ : ∃ x, c.parts[k]? = some x := ⟨c.parts[k], by simp [hlt]⟩
      rcases HC1.out with hz | ⟨b, off, rfl, hp, hc⟩
      · omega
      · have e1 := cell_nil (hc _ _ (flat_pair _ _ _ hx).1) hf
        have e2 : wr.cell? ⟨b, off + k * 2 + 1, none⟩ = some (.int .i64 x.2) := cell_nil (hc _ _ (flat_pair _ _ _ hx).2) hf
        clear hc
        have hpo := HPo.out x (List.mem_of_getElem? hx)
        unfold partOk between at hpo
        obtain ⟨⟨o1, o2⟩, o3, o4⟩ := hpo
        obtain ⟨s1, s2⟩ := HS1.out k
        obtain ⟨s3, s4⟩ := HS1.out (k + 1)
        have hsn : ((c.parts.take (k + 1)).map partFrames).sum = ((c.parts.take k).map partFrames).sum + (x.1 + byE x.2 3) := by
          rw [List.take_add_one, hx, Option.toList_some, List.map_append, List.map_singleton, sum_snoc]; rfl
        have HSN := Lib.hid hsn
        rw [hsn] at s3 s4
        clear hsn
        have HX := Lib.hid hx
        clear hx
        generalize ((c.parts.take k).map partFrames).sum = S at *
        obtain ⟨o5, o6⟩ := byE_few (n := x.2) (m := 3) (by omega) (by omega) (by omega)
        obtain ⟨W5, hW5⟩ : ∃ W5, wr.alloc (.cells #[.int .i64 x.1, .int .i64 x.2] 66) = W5 := ⟨_, rfl⟩
        have hX0 := Blk.new wr [.int .i64 x.1, .int .i64 x.2] 66
        have hf5 := hf.alloc (.cells #[.int .i64 x.1, .int .i64 x.2] 66)
        have hA5 := hA.alloc (.cells #[.int .i64 x.1, .int .i64 x.2] 66)
        rw [hW5] at hX0 hf5 hA5
        have hX1 := hX0.drew.cls (S := Nil) (fun h => h)
        have hN : ∀ x' : Cls Nil W5.drew, Calls Tryz.prog 129 #[.int .i64 x.2, .int .i64 3] x'.w fun e w' => e = .returned (.int .i64 (byE x.2 3)) ∧ x'.w = w' := fun x' => by_any x'.w x.2 3 (by omega) (by omega) (by omega) (by omega)
        go_wp2_with fail
        refine wp_draw_m [true, true, true, true, true, true, true, true, false] Nil (by kernel_rfl) (by kernel_rfl) (by kernel_rfl) (by kernel_rfl) ?_
        simp only [pickL, restL]
        repeat (go_big_quiet_step (((go_at_call 129; exact Calls.cls_same (hN _)))))
        refine wpQuiet_nil ?_
        intro z
        refine wpSeq_step (fun K hK => ?_)
        go_simp
        refine ⟨z.fr, hK _ _ (wpSeq_nil ?_)⟩
        go_wp2
        refine ⟨⟨k + 1, by omega, by go_num, by rw [HSN.out], hf5.drew.trans z.fr (fun _ _ h => h), hA5.drew.fr z.fr (fun h => h)⟩, by simp [intOf]; omega⟩
    · obtain rfl : k = c.parts.length := by omega
      rw [List.take_length]
      obtain ⟨s1, s2⟩ := HS1.out c.parts.length
      rw [List.take_length] at s1 s2
      obtain ⟨S, hS⟩ : ∃ S, (c.parts.map partFrames).sum = S := ⟨_, rfl⟩
      rw [hS] at s1 s2 ⊢
      go_wp2_with fail
      go_loopw [3, 30] (fun n i wr2 => ∃ k : Nat, k ≤ c.chans.length ∧ i = .int .i64 k ∧ n = .int .i64 (S + ((c.chans.take k).map chanFrames).sum) ∧ Fr Nil w wr2 ∧
          Blk wr2 w.heap.size [.slice a1 c.parts.length k1, .slice a2 c.wins.length k2, .slice a3 c.chans.length k3]) (fun _ i _ => c.chans.length - (intOf i).toNat)
      case atStart => exact ⟨0, Nat.zero_le _, rfl, by simp, hf, hA⟩
      case round =>
        clear hf hA hAc
        obtain ⟨k, hk, rfl, rfl, hf, hA⟩ := hrel
        have hAc := hA.cell
        by_cases hlt2 : k < c.chans.length
        · obtain ⟨x, hx⟩ : ∃ x, c.chans[k]? = some x := ⟨c.chans[k], by simp [hlt2]⟩
          rcases HC3.out with hz | ⟨b, off, rfl, hp, hc⟩
          · omega
          · obtain ⟨g1, g2, g3, g4⟩ := flat_chan _ _ _ hx
            have e1 := cell_nil (hc _ _ g1) hf
            have e2 : wr.cell? ⟨b, off + k * 4 + 1, none⟩ = some (.int .i64 x.to) := cell_nil (hc _ _ g2) hf
            have e3 : wr.cell? ⟨b, off + k * 4 + 2, none⟩ = some (.int .i64 x.cap) := cell_nil (hc _ _ g3) hf
            have e4 : wr.cell? ⟨b, off + k * 4 + 3, none⟩ = some (.int .i64 x.words) := cell_nil (hc _ _ g4) hf
            clear hc g1 g2 g3 g4
            have hco := HCo.out x (List.mem_of_getElem? hx)
            unfold chanOk between at hco
            obtain ⟨m1, m2⟩ := chan_few hco
            obtain ⟨_, _, _, ⟨o1, o2⟩, o3, o4⟩ := hco
            obtain ⟨s5, s6⟩ := HS2.out k
            obtain ⟨s3, s4⟩ := HS2.out (k + 1)
            have hsn : ((c.chans.take (k + 1)).map chanFrames).sum = ((c.chans.take k).map chanFrames).sum + byE (x.cap * (x.words + 1)) 32 := by
              rw [List.take_add_one, hx, Option.toList_some, List.map_append, List.map_singleton, sum_snoc]; rfl
            have HSN := Lib.hid hsn
            rw [hsn] at s3 s4
            clear hsn
            have HX := Lib.hid hx
            clear hx
            generalize ((c.chans.take k).map chanFrames).sum = S2 at *
            obtain ⟨o5, o6⟩ := byE_few (n := x.cap * (x.words + 1)) (m := 32) (by omega) (by omega) (by omega)
            obtain ⟨W5, hW5⟩ : ∃ W5, wr.alloc (.cells #[.int .i64 x.from_, .int .i64 x.to, .int .i64 x.cap, .int .i64 x.words] 109) = W5 := ⟨_, rfl⟩
            have hX0 := Blk.new wr [.int .i64 x.from_, .int .i64 x.to, .int .i64 x.cap, .int .i64 x.words] 109
            have hf5 := hf.alloc (.cells #[.int .i64 x.from_, .int .i64 x.to, .int .i64 x.cap, .int .i64 x.words] 109)
            have hA5 := hA.alloc (.cells #[.int .i64 x.from_, .int .i64 x.to, .int .i64 x.cap, .int .i64 x.words] 109)
            rw [hW5] at hX0 hf5 hA5
            have hX1 := hX0.cell
            go_wp2_with (go_at_call 129; refine (by_any _ _ _ (by omega) (by omega) (by omega) (by omega)).mono ?_; rintro e w' ⟨rfl, rfl⟩)
            go_roundw
            case rel => exact ⟨k + 1, by omega, by go_num, by rw [HSN.out, ← Int.add_assoc], hf5, hA5⟩
            case measure => simp [intOf]; omega
        · obtain rfl : k = c.chans.length := by omega
          rw [List.take_length]
          go_wp2
          go_ret
          exact ⟨ret_int (by unfold framesE; rw [hS]), hf⟩

theorem check_any {p : Nat → Prop} {v : Value} {c : Conf} (w : World) (h : ConfIs p w v c) :
    Calls Tryz.prog 50 #[v] w fun e w' => e = .returned (.int .i64 (checkE c)) ∧ Fr Nil w w' := by
  have hc := h
  obtain ⟨v1, v2, v3, rfl, h1, h2, h3⟩ := h
  have HA := (Blk.new w [v1, v2, v3] 26)
  have HF : Fr Nil w (w.alloc (.cells #[v1, v2, v3] 26)) := (Fr.refl _ _).alloc _
  have hA0 := HA.cell
  have hcA := hc.nil HF
  by_cases hok : NumbersOk c
  · by_cases hb : 1024 < framesE c
    · have HE := Lib.hid (show checkE c = 3 by unfold checkE; rw [if_pos hok, if_pos hb])
      go_enter Tryz.func50, Tryz.ntmps50
      go_wp2_with (first
        | (go_at_call 93; refine (numbers_ok _ hcA hok).mono ?_; rintro e w1 ⟨rfl, hf1⟩; have hA1 := (HA.fr hf1 (fun h => h)).cell; have hcB := hcA.nil hf1)
        | (go_at_call 94; refine (frames_any _ hcB hok).mono ?_; rintro e w2 ⟨rfl, hf2⟩))
      go_ret
      exact ⟨ret_int HE.out.symm, (HF.trans hf1 (fun _ _ h => h)).trans hf2 (fun _ _ h => h)⟩
    · have HE := Lib.hid (show checkE c = 0 by unfold checkE; rw [if_pos hok, if_neg hb])
      have hb' : framesE c ≤ 1024 := by omega
      go_enter Tryz.func50, Tryz.ntmps50
      go_wp2_with (first
        | (go_at_call 93; refine (numbers_ok _ hcA hok).mono ?_; rintro e w1 ⟨rfl, hf1⟩; have hA1 := (HA.fr hf1 (fun h => h)).cell; have hcB := hcA.nil hf1)
        | (go_at_call 94; refine (frames_any _ hcB hok).mono ?_; rintro e w2 ⟨rfl, hf2⟩))
      go_ret
      exact ⟨ret_int HE.out.symm, (HF.trans hf1 (fun _ _ h => h)).trans hf2 (fun _ _ h => h)⟩
  · have HE := Lib.hid (show checkE c = 2 by unfold checkE; rw [if_neg hok])
    go_enter Tryz.func50, Tryz.ntmps50
    go_wp2_with (go_at_call 93; refine (numbers_any _ hcA).mono ?_; rintro e w1 ⟨⟨hbad, _⟩ | ⟨_, rfl⟩, hf1⟩; first | exact absurd hbad hok | skip)
    go_ret
    exact ⟨ret_int HE.out.symm, HF.trans hf1 (fun _ _ h => h)⟩
end Go.Priory
