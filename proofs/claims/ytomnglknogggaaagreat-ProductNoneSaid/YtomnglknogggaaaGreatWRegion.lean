/- What fits, Check, Find of package region do, on areas that are right. No condition. -/
import Derived.Test.YtomnglknogggaaaGreatWCharge
namespace Go.Priory
open Go.RowKit Go.Proofs
set_option maxRecDepth 100000

def Fits (from_ many : Int) : Prop := 0 ≤ from_ ∧ from_ < 1024 ∧ 1 ≤ many ∧ many ≤ 1024 - from_
instance (a b : Int) : Decidable (Fits a b) := by unfold Fits; infer_instance
theorem ret_bool {a b : Bool} (h : a = b) : Ending.returned (.bool a) = Ending.returned (.bool b) := by rw [h]
theorem fits_any (w : World) (a b : Int) (ha : -100000000000 ≤ a ∧ a ≤ 100000000000) : Calls Tryz.prog 208 #[.int .i64 a, .int .i64 b] w fun e w' => e = .returned (.bool (decide (Fits a b))) ∧ w = w' := by
  obtain ⟨ha1, ha2⟩ := ha
  go_enter Tryz.func208, Tryz.ntmps208
  go_wp2
  all_goals (go_ret; refine ⟨ret_bool ?_, rfl⟩; symm; first | exact decide_eq_true (p := Fits a b) (by unfold Fits; omega) | exact decide_eq_false (p := Fits a b) (by unfold Fits; omega) | exact decide_eq_decide.2 (by unfold Fits; omega))
structure AreasOk (l : List Area) : Prop where
  few : l.length ≤ 8
  fits : ∀ a ∈ l, Fits a.from_ a.many
  apart : ∀ (i : Nat) (a b : Area), l[i]? = some a → l[i + 1]? = some b → a.from_ + a.many < b.from_ ∨ (a.from_ + a.many = b.from_ ∧ a.write ≠ b.write)
theorem flat_area (l : List Area) (i : Nat) (x : Area) (h : l[i]? = some x) : (l.flatMap areaCells)[i * 3]? = some (.int .i64 x.from_) ∧ (l.flatMap areaCells)[i * 3 + 1]? = some (.int .i64 x.many) ∧ (l.flatMap areaCells)[i * 3 + 2]? = some (.bool x.write) := by
  induction l generalizing i with
  | nil => simp at h
  | cons y l ih =>
    cases i with
    | zero => simp at h; subst h; exact ⟨rfl, rfl, rfl⟩
    | succ i =>
      have := ih i (by simpa using h)
      rw [List.flatMap_cons]
      unfold areaCells at *
      rw [List.getElem?_append_right (by simp; omega), List.getElem?_append_right (by simp; omega), List.getElem?_append_right (by simp; omega)]
      simp only [List.length_cons, List.length_nil]
      rw [show (i + 1) * 3 - (0 + 1 + 1 + 1) = i * 3 by omega, show (i + 1) * 3 + 1 - (0 + 1 + 1 + 1) = i * 3 + 1 by omega, show (i + 1) * 3 + 2 - (0 + 1 + 1 + 1) = i * 3 + 2 by omega]
      exact this
theorem flat_area_len (l : List Area) : (l.flatMap areaCells).length = l.length * 3 := by
  induction l with
  | nil => rfl
  | cons y l ih => rw [List.flatMap_cons, List.length_append, ih]; simp [areaCells]; omega
set_option maxHeartbeats 2000000 in
theorem rcheck_any {p : Nat → Prop} {v : Value} {l : List Area} (w : World) (h : SlcIn p w 3 v (l.flatMap areaCells)) (hok : AreasOk l) :
    Calls Tryz.prog 184 #[v] w fun e w' => e = .returned (.int .i64 0) ∧ Fr Nil w w' := by
  obtain ⟨a, n, cap, rfl, hlen, hmax, hc⟩ := h
  rw [flat_area_len] at hlen
  obtain rfl : n = l.length := by omega
  have hfew := hok.few
  have hnot := run_not'
  have HC := Lib.hid hc
  clear hc hlen
  go_enter Tryz.func184, Tryz.ntmps184
  go_wp2_with fail
  go_loopw [11] (fun i wr => ∃ k : Nat, k ≤ l.length ∧ i = .int .i64 k ∧ Fr Nil w wr) (fun i _ => l.length - (intOf i).toNat)
  case atStart => exact ⟨0, Nat.zero_le _, rfl, Fr.refl _ _⟩
  case round =>
    obtain ⟨k, hk, rfl, hf⟩ := hrel
    by_cases hlt : k < l.length
    · obtain ⟨x, hx⟩ : ∃ x, l[k]? = some x := ⟨l[k], by simp [hlt]⟩
      rcases HC.out with hz | ⟨b, off, rfl, -, hc⟩
      · omega
      obtain ⟨g1, g2, g3⟩ := flat_area _ _ _ hx
      have e1 := cell_nil (hc _ _ g1) hf
      have e2 : wr.cell? ⟨b, off + k * 3 + 1, none⟩ = some (.int .i64 x.many) := cell_nil (hc _ _ g2) hf
      have e3 : wr.cell? ⟨b, off + k * 3 + 2, none⟩ = some (.bool x.write) := cell_nil (hc _ _ g3) hf
      have hfx := hok.fits x (List.mem_of_getElem? hx)
      have hd : decide (Fits x.from_ x.many) = true := by simpa using hfx
      unfold Fits at hfx
      obtain ⟨q1, q2, q3, q4⟩ := hfx
      cases k with
      | zero =>
        clear hc g1 g2 g3 hx
        simp only [Nat.zero_mul, Nat.add_zero] at e1 e2 e3
        go_wp2_with (go_at_call 208; refine (fits_any _ _ _ (by omega)).mono ?_; rintro e w' ⟨rfl, rfl⟩; rw [hd])
        go_roundw
        case rel => exact ⟨1, by omega, by go_num, hf.alloc _⟩
        case measure => simp [intOf]; omega
      | succ j =>
        obtain ⟨y, hy⟩ : ∃ y, l[j]? = some y := ⟨l[j]'(by omega), by rw [List.getElem?_eq_getElem]⟩
        obtain ⟨k1, k2, k3⟩ := flat_area _ _ _ hy
        have hap := hok.apart j y x hy hx
        have hfy := hok.fits y (List.mem_of_getElem? hy)
        unfold Fits at hfy
        obtain ⟨r1, r2, r3, r4⟩ := hfy
        obtain ⟨W5, hW5⟩ : ∃ W5, wr.alloc (.cells #[.int .i64 x.from_, .int .i64 x.many, .bool x.write] 286) = W5 := ⟨_, rfl⟩
        have f5 := hf.alloc (.cells #[.int .i64 x.from_, .int .i64 x.many, .bool x.write] 286)
        have X5 := Blk.new wr [.int .i64 x.from_, .int .i64 x.many, .bool x.write] 286
        rw [hW5] at f5 X5
        have d1 : ∀ z : Cls Nil W5.drew, z.w.cell? ⟨b, off + j * 3, none⟩ = some (.int .i64 y.from_) := fun z => cell_nil (cell_nil (hc _ _ k1) f5.drew) z.fr
        have d2 : ∀ z : Cls Nil W5.drew, z.w.cell? ⟨b, off + j * 3 + 1, none⟩ = some (.int .i64 y.many) := fun z => cell_nil (cell_nil (hc _ _ k2) f5.drew) z.fr
        have d3 : ∀ W : World, Fr Nil W5 W → W.cell? ⟨b, off + j * 3 + 2, none⟩ = some (.bool y.write) := fun W f => cell_nil (cell_nil (hc _ _ k3) f5) f
        have D3 := Lib.hid d3
        have x5 := X5.cell
        clear hc g1 g2 g3 k1 k2 k3 hx hy d3
        go_wp2_with (go_at_call 208; refine (fits_any _ _ _ (by omega)).mono ?_; rintro e w' ⟨rfl, rfl⟩; rw [hd])
        refine wp_draw_all Nil (by kernel_rfl) (by kernel_rfl) (by kernel_rfl) ?_
        repeat (go_big_quiet_step (fail))
        refine wpQuiet_nil ?_
        intro z
        have f6 : Fr Nil W5 z.w.drew := ((Fr.refl Nil _).drew.trans z.fr (fun _ _ h => h)).drew
        have c1 : ∀ u : Cls Nil z.w.drew, u.w.cell? ⟨b, off + j * 3 + 2, none⟩ = some (.bool y.write) := fun u => D3.out _ (f6.trans u.fr (fun _ _ h => h))
        have c2 : ∀ (u : Cls Nil z.w.drew) (o : Nat), u.w.cell? ⟨wr.heap.size, o, none⟩ = [Value.int .i64 x.from_, .int .i64 x.many, .bool x.write][o]? := fun u => (X5.fr (f6.trans u.fr (fun _ _ h => h)) (fun h => h)).cell
        have f7 := f5.trans f6 (fun _ _ h => h)
        clear d1 d2 x5
        rcases hap with hap | ⟨hap, hw⟩
        · have t1 : decide (x.from_ < y.from_ + y.many) = false := by simp; omega
          have t2 : (x.from_ == y.from_ + y.many) = false := by simp; omega
          clear c1
          go_wp2_with fail
          refine wp_draw_all Nil (by kernel_rfl) (by kernel_rfl) (by kernel_rfl) ?_
          repeat (go_big_quiet_step (fail))
          refine wpQuiet_nil ?_
          intro u
          go_wp2
          refine ⟨⟨j + 2, by omega, by go_num, f7.trans u.fr (fun _ _ h => h)⟩, by simp [intOf]; omega⟩
        · have t1 : decide (x.from_ < y.from_ + y.many) = false := by simp; omega
          have t2 : (x.from_ == y.from_ + y.many) = true := by simp; omega
          have t3 : (x.write == y.write) = false := by simpa using Ne.symm hw
          clear hap
          go_wp2_with fail
          refine wp_draw_all Nil (by kernel_rfl) (by kernel_rfl) (by kernel_rfl) ?_
          repeat (go_big_quiet_step (fail))
          refine wpQuiet_nil ?_
          intro u
          go_wp2
          refine ⟨⟨j + 2, by omega, by go_num, f7.trans u.fr (fun _ _ h => h)⟩, by simp [intOf]; omega⟩
    · obtain rfl : k = l.length := by omega
      go_wp2
      go_ret
      exact ⟨rfl, hf⟩
def inArea (page : Int) (a : Area) : Bool := decide (a.from_ ≤ page ∧ page < a.from_ + a.many)
def findE (l : List Area) (page : Int) : Option Bool := (l.find? (inArea page)).map Area.write
def findV (o : Option Bool) : Value := .tuple #[.bool (o.getD false), .bool o.isSome]
set_option maxHeartbeats 2000000 in
theorem rfind_any {p : Nat → Prop} {v : Value} {l : List Area} (w : World) (h : SlcIn p w 3 v (l.flatMap areaCells)) (hok : AreasOk l) (page : Int) :
    Calls Tryz.prog 147 #[v, .int .i64 page] w fun e w' => e = .returned (findV (findE l page)) ∧ Fr Nil w w' := by
  have hS := h
  obtain ⟨a, n, cap, rfl, hlen, hmax, hc⟩ := h
  rw [flat_area_len] at hlen
  obtain rfl : n = l.length := by omega
  have hfew := hok.few
  have HC := Lib.hid hc
  clear hc hlen
  go_enter Tryz.func147, Tryz.ntmps147
  go_wp2_with (go_at_call 184; refine (rcheck_any _ hS hok).mono ?_; rintro e w1 ⟨rfl, f1⟩)
  go_loopw [13] (fun i wr => ∃ k : Nat, k ≤ l.length ∧ i = .int .i64 k ∧ findE l page = findE (l.drop k) page ∧ Fr Nil w wr) (fun i _ => l.length - (intOf i).toNat)
  case atStart => exact ⟨0, Nat.zero_le _, rfl, by simp, f1⟩
  case round =>
    obtain ⟨k, hk, rfl, hfd, hf⟩ := hrel
    by_cases hlt : k < l.length
    · obtain ⟨x, hx⟩ : ∃ x, l[k]? = some x := ⟨l[k], by simp [hlt]⟩
      have hdr : l.drop k = x :: l.drop (k + 1) := by
        rw [List.drop_eq_getElem_cons hlt]; congr 1
        rw [List.getElem?_eq_getElem hlt] at hx; exact Option.some.inj hx
      rw [hdr] at hfd
      rcases HC.out with hz | ⟨b, off, rfl, -, hc⟩
      · omega
      obtain ⟨g1, g2, g3⟩ := flat_area _ _ _ hx
      have e1 := cell_nil (hc _ _ g1) hf
      have e2 : wr.cell? ⟨b, off + k * 3 + 1, none⟩ = some (.int .i64 x.many) := cell_nil (hc _ _ g2) hf
      have e3 : wr.cell? ⟨b, off + k * 3 + 2, none⟩ = some (.bool x.write) := cell_nil (hc _ _ g3) hf
      have hfx := hok.fits x (List.mem_of_getElem? hx)
      unfold Fits at hfx
      obtain ⟨q1, q2, q3, q4⟩ := hfx
      by_cases hin : x.from_ ≤ page ∧ page < x.from_ + x.many
      · have HF := Lib.hid (show findE l page = some x.write by rw [hfd]; unfold findE; rw [List.find?_cons_of_pos (by unfold inArea; simpa using hin)]; rfl)
        obtain ⟨i1, i2⟩ := hin
        clear hc g1 g2 g3 hx hfd hdr
        go_wp2
        go_ret2
        exact ⟨by rw [HF.out]; rfl, hf.alloc _⟩
      · have HF := Lib.hid (show findE l page = findE (l.drop (k + 1)) page by rw [hfd]; unfold findE; rw [List.find?_cons_of_neg (by unfold inArea; simpa using hin)])
        clear hc g1 g2 g3 hx hfd hdr
        by_cases i1 : x.from_ ≤ page
        · have i2 : x.from_ + x.many ≤ page := by omega
          clear hin
          go_wp2
          go_roundw
          case rel => exact ⟨k + 1, by omega, by go_num, HF.out, hf.alloc _⟩
          case measure => simp [intOf]; omega
        · clear hin
          go_wp2
          go_roundw
          case rel => exact ⟨k + 1, by omega, by go_num, HF.out, hf.alloc _⟩
          case measure => simp [intOf]; omega
    · obtain rfl : k = l.length := by omega
      have HF := Lib.hid (show findE l page = none by rw [hfd]; simp [findE])
      clear hfd
      go_wp2
      go_ret2
      exact ⟨by rw [HF.out]; rfl, hf⟩
end Go.Priory
