/- What conf.Check does: numbers, by its panics and its recover. No condition. -/
import Derived.Test.YtomnglknogggaaaGreatSlc
import Derived.Test.YtomnglknogggaaaGreatWBudget
import Derived.Test.YtomnglknogggaaaGreatWContB
import Derived.Defers
import Derived.Recover
namespace Go.Priory
open Go.RowKit Go.Proofs
set_option maxRecDepth 100000

structure Chan where
  from_ : Int
  to : Int
  cap : Int
  words : Int
structure Conf where
  parts : List (Int × Int)
  wins : List (Int × Int)
  chans : List Chan
def pairCells (p : Int × Int) : List Value := [.int .i64 p.1, .int .i64 p.2]
def chanCells (x : Chan) : List Value := [.int .i64 x.from_, .int .i64 x.to, .int .i64 x.cap, .int .i64 x.words]
def ConfIs (p : Nat → Prop) (w : World) (v : Value) (c : Conf) : Prop :=
  ∃ v1 v2 v3, v = .agg #[v1, v2, v3] ∧ SlcIn p w 2 v1 (c.parts.flatMap pairCells) ∧ SlcIn p w 2 v2 (c.wins.flatMap pairCells) ∧ SlcIn p w 4 v3 (c.chans.flatMap chanCells)
theorem ConfIs.fr {p S : Nat → Prop} {w w' : World} {v : Value} {c : Conf} (h : ConfIs p w v c) (f : Fr S w w') (hn : ∀ b, p b → ¬ S b) : ConfIs p w' v c := by
  obtain ⟨v1, v2, v3, e, h1, h2, h3⟩ := h; exact ⟨v1, v2, v3, e, h1.fr f hn, h2.fr f hn, h3.fr f hn⟩
theorem ConfIs.nil {p : Nat → Prop} {w w' : World} {v : Value} {c : Conf} (h : ConfIs p w v c) (f : Fr Nil w w') : ConfIs p w' v c := h.fr f (fun _ _ h => h)

theorem in_any (w : World) (n lo hi : Int) : Calls Tryz.prog 127 #[.int .i64 n, .int .i64 lo, .int .i64 hi] w fun e w' => e = .returned (.bool (decide (lo ≤ n ∧ n ≤ hi))) ∧ w = w' := by
  go_enter Tryz.func127, Tryz.ntmps127
  go_wp2
  all_goals (go_ret; refine ⟨?_, rfl⟩; congr 2; simp only [eq_iff_iff, decide_eq_true_eq, decide_eq_false_iff_not, Bool.eq_iff_iff] at *; first | omega | (simp; omega))
def wrongs : PanicEntry := { v := .iface 280 (.agg #[.int .i64 2]), recovered := false }
theorem must_true (w : World) (e : Int) : Calls Tryz.prog 126 #[.bool true, .int .i64 e] w fun r w' => r = .returned (.tuple #[]) ∧ w = w' := by
  go_enter Tryz.func126, Tryz.ntmps126
  go_wp2
  go_end0
  exact ⟨rfl, rfl⟩
theorem must_false (w : World) : Calls Tryz.prog 126 #[.bool false, .int .i64 2] w fun r w' => r = .panicked [wrongs] ∧ w = w' := by
  go_enter Tryz.func126, Tryz.ntmps126
  go_wp2
  exact ⟨rfl, rfl, rfl⟩
theorem assert280 (w : World) (n : Int) : (Instr.typeAssert (.iface 280 (.agg #[.int .i64 n])) 20 280 false).run Tryz.prog w = .ok (.agg #[.int .i64 n]) w := by kernel_rfl
theorem field280 (w : World) (n : Int) : (Instr.field 280 (.agg #[.int .i64 n]) 0).run Tryz.prog w = .ok (.int .i64 n) w := by kernel_rfl
theorem caught_panicking (b : Nat) (x : Value) (w : World) (hc : w.cell? ⟨b, 0, none⟩ = some x) (hz : w.frozen? ⟨b, 0, none⟩ = false) :
    CallsD Tryz.prog 125 #[.pointer (some ⟨b, 0, none⟩)] (.panicking [wrongs]) w fun e u' w' =>
      e = .returned (.tuple #[]) ∧ u' = .panicking [{ v := .iface 280 (.agg #[.int .i64 2]), recovered := true }] ∧ w' = w.setCell ⟨b, 0, none⟩ (.int .i64 2) := by
  refine callsD_of_wpS Tryz.func125 rfl fun c₀ cs hu => ?_
  unfold wrongs at hu
  apply wpS_seq
  apply wpS_region
  simp [wpOpsS, go_sem, recoverD, hu, Tryz.ntmps125, Exit.thenS]
  apply wpS_seq
  apply wpS_region
  simp [wpOpsS, go_sem, recoverD, hu, Tryz.ntmps125, Exit.thenS]
  refine wpS_cond (t := true) (by simp [Act.eval, Array.replicate]) ?_
  simp only [if_true]
  apply wpS_region
  simp [wpOpsS, go_sem, hc, hz, assert280, field280, bodyPostS, results, Tryz.results125]
theorem caught_idle (b : Nat) (w : World) :
    CallsD Tryz.prog 125 #[.pointer (some ⟨b, 0, none⟩)] .returning w fun e u' w' => e = .returned (.tuple #[]) ∧ u' = .returning ∧ w' = w := by
  refine callsD_of_wpS Tryz.func125 rfl fun c₀ cs hu => ?_
  apply wpS_seq
  apply wpS_region
  simp [wpOpsS, go_sem, recoverD, hu, Tryz.ntmps125, Exit.thenS]
  apply wpS_seq
  apply wpS_region
  simp [wpOpsS, go_sem, recoverD, hu, Tryz.ntmps125, Exit.thenS]
  refine wpS_cond (t := false) (by simp [Act.eval, Array.replicate]) ?_
  simp only [Bool.false_eq_true, if_false]
  refine wpS_of_wp (wp_skip ?_)
  cases c₀
  simp_all [bodyPostS, results, Tryz.results125]
theorem must_any (w : World) (b : Bool) : Calls Tryz.prog 126 #[.bool b, .int .i64 2] w fun r w' => w = w' ∧ ((b = true ∧ r = .returned (.tuple #[])) ∨ (b = false ∧ r = .panicked [wrongs])) := by
  cases b with
  | true => exact (must_true w 2).mono fun r w' h => ⟨h.2, .inl ⟨rfl, h.1⟩⟩
  | false => exact (must_false w).mono fun r w' h => ⟨h.2, .inr ⟨rfl, h.1⟩⟩

theorem run_not' (x : Bool) (w : World) : (Op.unary .not (.bool x)).run Tryz.prog w = .ok (.bool (!x)) w := rfl
def between (n lo hi : Int) : Prop := lo ≤ n ∧ n ≤ hi
instance (n lo hi : Int) : Decidable (between n lo hi) := by unfold between; infer_instance
def partOk (p : Int × Int) : Prop := between p.1 4 256 ∧ between p.2 1 8
def winOk (m : Nat) (p : Int × Int) : Prop := between p.1 0 (m - 1) ∧ between p.2 1 255
def chanOk (m : Nat) (x : Chan) : Prop := between x.from_ 0 (m - 1) ∧ between x.to 0 (m - 1) ∧ x.from_ ≠ x.to ∧ between x.cap 1 8 ∧ between x.words 1 8
instance (p : Int × Int) : Decidable (partOk p) := by unfold partOk; infer_instance
instance (m : Nat) (p : Int × Int) : Decidable (winOk m p) := by unfold winOk; infer_instance
instance (m : Nat) (x : Chan) : Decidable (chanOk m x) := by unfold chanOk; infer_instance
structure NumbersOk (c : Conf) : Prop where
  lp : between c.parts.length 1 8
  lw : between c.wins.length 1 32
  lc : (c.chans.length : Int) ≤ 16
  parts : ∀ p ∈ c.parts, partOk p
  wins : ∀ p ∈ c.wins, winOk c.parts.length p
  each : ∀ i : Nat, i < c.parts.length → ∃ p ∈ c.wins, p.1 = i
  chans : ∀ x ∈ c.chans, chanOk c.parts.length x

theorem flat_pair (l : List (Int × Int)) (i : Nat) (x : Int × Int) (h : l[i]? = some x) : (l.flatMap pairCells)[i * 2]? = some (.int .i64 x.1) ∧ (l.flatMap pairCells)[i * 2 + 1]? = some (.int .i64 x.2) := by
  induction l generalizing i with
  | nil => simp at h
  | cons y l ih =>
    cases i with
    | zero => simp at h; subst h; exact ⟨rfl, rfl⟩
    | succ i =>
      have := ih i (by simpa using h)
      rw [List.flatMap_cons]
      unfold pairCells at *
      rw [List.getElem?_append_right (by simp; omega), List.getElem?_append_right (by simp; omega)]
      simp only [List.length_cons, List.length_nil]
      rw [show (i + 1) * 2 - (0 + 1 + 1) = i * 2 by omega, show (i + 1) * 2 + 1 - (0 + 1 + 1) = i * 2 + 1 by omega]
      exact this
theorem flat_pair_len (l : List (Int × Int)) : (l.flatMap pairCells).length = l.length * 2 := by
  induction l with
  | nil => rfl
  | cons y l ih => rw [List.flatMap_cons, List.length_append, ih]; simp [pairCells]; omega
theorem flat_chan (l : List Chan) (i : Nat) (x : Chan) (h : l[i]? = some x) : (l.flatMap chanCells)[i * 4]? = some (.int .i64 x.from_) ∧ (l.flatMap chanCells)[i * 4 + 1]? = some (.int .i64 x.to) ∧ (l.flatMap chanCells)[i * 4 + 2]? = some (.int .i64 x.cap) ∧ (l.flatMap chanCells)[i * 4 + 3]? = some (.int .i64 x.words) := by
  induction l generalizing i with
  | nil => simp at h
  | cons y l ih =>
    cases i with
    | zero => simp at h; subst h; exact ⟨rfl, rfl, rfl, rfl⟩
    | succ i =>
      have := ih i (by simpa using h)
      rw [List.flatMap_cons]
      unfold chanCells at *
      rw [List.getElem?_append_right (by simp; omega), List.getElem?_append_right (by simp; omega), List.getElem?_append_right (by simp; omega), List.getElem?_append_right (by simp; omega)]
      simp only [List.length_cons, List.length_nil]
      rw [show (i + 1) * 4 - (0 + 1 + 1 + 1 + 1) = i * 4 by omega, show (i + 1) * 4 + 1 - (0 + 1 + 1 + 1 + 1) = i * 4 + 1 by omega, show (i + 1) * 4 + 2 - (0 + 1 + 1 + 1 + 1) = i * 4 + 2 by omega, show (i + 1) * 4 + 3 - (0 + 1 + 1 + 1 + 1) = i * 4 + 3 by omega]
      exact this
theorem flat_chan_len (l : List Chan) : (l.flatMap chanCells).length = l.length * 4 := by
  induction l with
  | nil => rfl
  | cons y l ih => rw [List.flatMap_cons, List.length_append, ih]; simp [chanCells]; omega

theorem numbers_door {R : Ending → World → Prop} {tmps : Array Value} {B : Nat} {x : Value} {w : World} (ht : tmps[2]? = some (.pointer (some ⟨B, 0, none⟩))) (hB : Blk w B [x])
    (h : R (.returned (.int .i64 2)) (w.setCell ⟨B, 0, none⟩ (.int .i64 2))) :
    bodyPostD Tryz.prog Tryz.f93 R (.panic [wrongs]) { tmps := tmps, defers := [{ target := .fn (.func 125) #[], args := #[.pointer (some ⟨B, 0, none⟩)] }] } w := by
  have hc : w.cell? ⟨B, 0, none⟩ = some x := hB.cell 0
  refine leaves_cons (f := 125) (args := #[.pointer (some ⟨B, 0, none⟩)]) (by simp) (by simp [go_sem]) ?_
  refine (caught_panicking B x w hc (hB.frozen 0)).mono ?_
  rintro e u' w'' ⟨rfl, rfl, rfl⟩
  refine ⟨.int .i64 2, ?_, h⟩
  have h2 : (w.setCell ⟨B, 0, none⟩ (.int .i64 2)).cell? ⟨B, 0, none⟩ = some (.int .i64 2) := (hB.set 0 (.int .i64 2)).cell 0
  simp [results, Tryz.results93, ht, go_sem, h2]
theorem numbers_home {R : Ending → World → Prop} {tmps : Array Value} {B : Nat} {x : Value} {w : World} (ht : tmps[2]? = some (.pointer (some ⟨B, 0, none⟩))) (hB : Blk w B [x])
    (h : R (.returned x) w) (hx : ∃ n, x = .int .i64 n) :
    bodyPostD Tryz.prog Tryz.f93 R .ret { tmps := tmps, defers := [{ target := .fn (.func 125) #[], args := #[.pointer (some ⟨B, 0, none⟩)] }] } w := by
  obtain ⟨n, rfl⟩ := hx
  have hc : w.cell? ⟨B, 0, none⟩ = some (.int .i64 n) := hB.cell 0
  refine leaves_cons (f := 125) (args := #[.pointer (some ⟨B, 0, none⟩)]) (by simp) (by simp [go_sem]) ?_
  refine (caught_idle B w).mono ?_
  rintro e u' w'' ⟨rfl, rfl, rfl⟩
  refine ⟨_, ?_, h⟩
  simp [results, Tryz.results93, ht, go_sem, hc]

theorem cell_nil {w w' : World} {a : Addr} {u : Value} (h : w.cell? a = some u) (f : Fr Nil w w') : w'.cell? a = some u := by
  rw [f.cell (World.block_lt_of_cell? _ _ h) (fun h => h)]; exact h
set_option maxHeartbeats 4000000 in
theorem numbers_any {p : Nat → Prop} {v : Value} {c : Conf} (w : World) (h : ConfIs p w v c) :
    Calls Tryz.prog 93 #[v] w fun e w' => ((NumbersOk c ∧ e = .returned (.int .i64 0)) ∨ (¬ NumbersOk c ∧ e = .returned (.int .i64 2))) ∧ Fr Nil w w' := by
  obtain ⟨v1, v2, v3, rfl, ⟨a1, n1, k1, rfl, hl1, hm1, hc1⟩, ⟨a2, n2, k2, rfl, hl2, hm2, hc2⟩, ⟨a3, n3, k3, rfl, hl3, hm3, hc3⟩⟩ := h
  rw [flat_pair_len] at hl1 hl2
  rw [flat_chan_len] at hl3
  obtain rfl : n1 = c.parts.length := by omega
  obtain rfl : n2 = c.wins.length := by omega
  obtain rfl : n3 = c.chans.length := by omega
  clear hl1 hl2 hl3
  have HC1 := Lib.hid hc1
  have HC2 := Lib.hid hc2
  have HC3 := Lib.hid hc3
  clear hc1 hc2 hc3
  have HB := Blk.new (w.alloc (.cells #[.slice a1 c.parts.length k1, .slice a2 c.wins.length k2, .slice a3 c.chans.length k3] 26)) [.int .i64 0] 32
  have HA := (Blk.new w [.slice a1 c.parts.length k1, .slice a2 c.wins.length k2, .slice a3 c.chans.length k3] 26).alloc (.cells #[.int .i64 0] 32)
  have HF : Fr Nil w ((w.alloc (.cells #[.slice a1 c.parts.length k1, .slice a2 c.wins.length k2, .slice a3 c.chans.length k3] 26)).alloc (.cells #[.int .i64 0] 32)) := ((Fr.refl _ _).alloc _).alloc _
  rw [World.size_alloc] at HB
  go_enter_defers Tryz.func93, Tryz.ntmps93
  go_wp2_with (first
    | (go_at_call 127; refine (in_any _ _ _ _).mono ?_; rintro e w' ⟨rfl, rfl⟩)
    | (go_at_call 126; refine (must_any _ _).mono ?_; rintro e w' ⟨rfl, ⟨hb, rfl⟩ | ⟨hb, rfl⟩⟩ <;> try (cases hb; done)))
  rotate_left
  · exact numbers_door rfl HB ⟨.inr ⟨fun h => by have := h.lc; simp at hb; omega, rfl⟩, HF.setCell _ _ (fun h => by simp at h; omega)⟩
  · exact numbers_door rfl HB ⟨.inr ⟨fun h => by have := h.lw; unfold between at this; omega, rfl⟩, HF.setCell _ _ (fun h => by simp at h; omega)⟩
  · exact numbers_door rfl HB ⟨.inr ⟨fun h => by have := h.lp; unfold between at this; omega, rfl⟩, HF.setCell _ _ (fun h => by simp at h; omega)⟩
  have hlp : between c.parts.length 1 8 := by unfold between; assumption
  have hlw : between c.wins.length 1 32 := by unfold between; assumption
  simp only [decide_eq_true_eq] at hb
  generalize ((w.alloc (.cells #[.slice a1 c.parts.length k1, .slice a2 c.wins.length k2, .slice a3 c.chans.length k3] 26)).alloc (.cells #[.int .i64 0] 32)) = W at *
  go_loopw [30] (fun i wr => ∃ k : Nat, k ≤ c.parts.length ∧ i = .int .i64 k ∧ (∀ j x, j < k → c.parts[j]? = some x → partOk x) ∧ Fr Nil w wr ∧
      Blk wr w.heap.size [.slice a1 c.parts.length k1, .slice a2 c.wins.length k2, .slice a3 c.chans.length k3] ∧ Blk wr (w.heap.size + 1) [.int .i64 0]) (fun i _ => c.parts.length - (intOf i).toNat)
  case atStart =>
    exact ⟨0, Nat.zero_le _, rfl, fun j x hj => absurd hj (Nat.not_lt_zero _), HF, HA, HB⟩
  case round =>
    obtain ⟨k, hk, rfl, hj, hf, hA, hB⟩ := hrel
    have hAc := hA.cell
    have HJ := Lib.hid hj
    clear hj
    by_cases hlt : k < c.parts.length
    · obtain ⟨x, hx⟩ : ∃ x, c.parts[k]? = some x := ⟨c.parts[k], by simp [hlt]⟩
      rcases HC1.out with hz | ⟨b, off, rfl, hp, hc⟩
      · omega
      · have e1 := cell_nil (hc _ _ (flat_pair _ _ _ hx).1) hf
        have e2 : wr.cell? ⟨b, off + k * 2 + 1, none⟩ = some (.int .i64 x.2) := cell_nil (hc _ _ (flat_pair _ _ _ hx).2) hf
        clear hc
        go_wp2_with (first
          | (go_at_call 127; refine (in_any _ _ _ _).mono ?_; rintro e w' ⟨rfl, rfl⟩)
          | (go_at_call 126; refine (must_any _ _).mono ?_; rintro e w' ⟨rfl, ⟨hb2, rfl⟩ | ⟨hb2, rfl⟩⟩ <;> try (cases hb2; done)))
        · have hpo : partOk x := ⟨by unfold between; assumption, by simp at hb2; exact hb2⟩
          refine ⟨⟨k + 1, by omega, by go_num, fun j y hj hy => ?_, hf.alloc _, hA.alloc _, hB.alloc _⟩, by simp [intOf]; omega⟩
          by_cases hjk : j = k
          · subst hjk; rw [hx] at hy; cases hy; exact hpo
          · exact HJ.out j y (by omega) hy
        · exact numbers_door rfl (hB.alloc _) ⟨.inr ⟨fun h => by have := (h.parts x (List.mem_of_getElem? hx)).2; unfold between at this; simp at hb2; omega, rfl⟩, (hf.alloc _).setCell _ _ (fun h => by simp at h; omega)⟩
        · exact numbers_door rfl (hB.alloc _) ⟨.inr ⟨fun h => by have := (h.parts x (List.mem_of_getElem? hx)).1; unfold between at this; omega, rfl⟩, (hf.alloc _).setCell _ _ (fun h => by simp at h; omega)⟩
    · obtain rfl : k = c.parts.length := by omega
      have hParts : ∀ x ∈ c.parts, partOk x := fun x hx => by
        obtain ⟨j, hj, e⟩ := List.mem_iff_getElem.1 hx
        exact HJ.out j x hj (by rw [List.getElem?_eq_getElem hj, e])
      have HP := Lib.hid hParts
      clear hParts HJ
      have hX := Blk.new wr [.bool false, .bool false, .bool false, .bool false, .bool false, .bool false, .bool false, .bool false] 243
      have hXs := hf.size
      have hA2 := (hA.alloc (.cells #[.bool false, .bool false, .bool false, .bool false, .bool false, .bool false, .bool false, .bool false] 243)).cell
      go_wp2_with fail
      have hf8 := hf.alloc (.cells #[.bool false, .bool false, .bool false, .bool false, .bool false, .bool false, .bool false, .bool false] 243)
      have hA8 := hA.alloc (.cells #[.bool false, .bool false, .bool false, .bool false, .bool false, .bool false, .bool false, .bool false] 243)
      have hB8 := hB.alloc (.cells #[.bool false, .bool false, .bool false, .bool false, .bool false, .bool false, .bool false, .bool false] 243)
      have hlB := hB.lt
      clear hf hA hB hAc hA2 hXs
      obtain ⟨X, hXX⟩ : ∃ X, wr.heap.size = X := ⟨_, rfl⟩
      obtain ⟨W8, hW8⟩ : ∃ W8, wr.alloc (.cells #[.bool false, .bool false, .bool false, .bool false, .bool false, .bool false, .bool false, .bool false] 243) = W8 := ⟨_, rfl⟩
      rw [hW8] at hX hf8 hA8 hB8 ⊢
      rw [hXX] at hX hlB ⊢
      go_loopw [47] (fun i wr2 => ∃ (k : Nat) (bs : List Bool), k ≤ c.wins.length ∧ i = .int .i64 k ∧ (∀ j x, j < k → c.wins[j]? = some x → winOk c.parts.length x) ∧
          bs.length = 8 ∧ (∀ n : Nat, n < 8 → (bs[n]? = some true ↔ ∃ j x, j < k ∧ c.wins[j]? = some x ∧ x.1 = n)) ∧ Fr Nil w wr2 ∧
          Blk wr2 w.heap.size [.slice a1 c.parts.length k1, .slice a2 c.wins.length k2, .slice a3 c.chans.length k3] ∧ Blk wr2 (w.heap.size + 1) [.int .i64 0] ∧ Blk wr2 X (bs.map Value.bool)) (fun i _ => c.wins.length - (intOf i).toNat)
      case atStart =>
        refine ⟨0, [false, false, false, false, false, false, false, false], Nat.zero_le _, rfl, fun j x hj => absurd hj (Nat.not_lt_zero _), rfl, fun n hn => ⟨fun h => ?_, fun ⟨j, x, hj, _⟩ => absurd hj (Nat.not_lt_zero _)⟩, hf8, hA8, hB8, hX⟩
        have : ∀ n, n < 8 → [false, false, false, false, false, false, false, false][n]? = some false := by decide
        rw [this n hn] at h; cases h
      case round =>
        clear hX hf8 hA8 hB8 hW8
        rename_i wr8
        obtain ⟨k, bs, hk, rfl, hj, hbl, hbs, hf, hA, hB, hX⟩ := hrel
        have hAc := hA.cell
        have hXl := hX.lt
        have HJ := Lib.hid hj
        have HS := Lib.hid hbs
        clear hj hbs
        by_cases hlt2 : k < c.wins.length
        · obtain ⟨x, hx⟩ : ∃ x, c.wins[k]? = some x := ⟨c.wins[k], by simp [hlt2]⟩
          rcases HC2.out with hz | ⟨b, off, rfl, hp, hc⟩
          · omega
          · have e1 := cell_nil (hc _ _ (flat_pair _ _ _ hx).1) hf
            have e2 : wr.cell? ⟨b, off + k * 2 + 1, none⟩ = some (.int .i64 x.2) := cell_nil (hc _ _ (flat_pair _ _ _ hx).2) hf
            have hfz := (hX.alloc (.cells #[.int .i64 x.1, .int .i64 x.2] 107)).frozen
            have hcX := (hX.alloc (.cells #[.int .i64 x.1, .int .i64 x.2] 107)).cell
            have hAc2 := (hA.alloc (.cells #[.int .i64 x.1, .int .i64 x.2] 107)).cell
            clear hc
            by_cases hxi : 0 ≤ x.1 ∧ x.1 ≤ (c.parts.length : Int) - 1
            · have hxr : x.1.toNat < bs.length := by unfold between at hlp; omega
              have hco := hcX x.1.toNat
              rw [List.getElem?_map, List.getElem?_eq_getElem hxr] at hco
              simp only [Option.map_some] at hco
              have hxlo := hxi.1
              have hxhi : x.1 < 8 := by unfold between at hlp; omega
              clear hcX
              go_wp2_with (first
                | (go_at_call 127; refine (in_any _ _ _ _).mono ?_; rintro e w' ⟨rfl, rfl⟩)
                | (go_at_call 126; refine (must_any _ _).mono ?_; rintro e w' ⟨rfl, ⟨hb2, rfl⟩ | ⟨hb2, rfl⟩⟩ <;> try (cases hb2; done)))
              · have hwo : winOk c.parts.length x := ⟨hxi, by simp at hb2; exact hb2⟩
                have hX9 := (hX.set x.1.toNat (.bool true)).alloc (.cells #[.int .i64 x.1, .int .i64 x.2] 107)
                refine ⟨⟨k + 1, bs.set x.1.toNat true, by omega, by go_num, fun j y hj hy => ?_, by simpa using hbl, fun n hn => ?_, ?_, ?_, ?_, by rw [List.map_set]; exact hX9⟩, by simp [intOf]; omega⟩
                · by_cases hjk : j = k
                  · subst hjk; rw [hx] at hy; cases hy; exact hwo
                  · exact HJ.out j y (by omega) hy
                · by_cases hnx : x.1.toNat = n
                  · subst hnx
                    rw [List.getElem?_set_self hxr]
                    exact ⟨fun _ => ⟨k, x, by omega, hx, by omega⟩, fun _ => rfl⟩
                  · rw [List.getElem?_set_ne hnx, HS.out n hn]
                    constructor
                    · rintro ⟨j, y, hj, hy, e⟩; exact ⟨j, y, by omega, hy, e⟩
                    · rintro ⟨j, y, hj, hy, e⟩
                      by_cases hjk : j = k
                      · subst hjk; rw [hx] at hy; cases hy; omega
                      · exact ⟨j, y, by omega, hy, e⟩
                · exact (hf.setCell ⟨X, _, none⟩ _ (fun h => by simp at h; omega)).alloc _
                · exact (hA.setOther ⟨X, _, none⟩ _ (by simp; omega)).alloc _
                · exact (hB.setOther ⟨X, _, none⟩ _ (by simp; omega)).alloc _
              · exact numbers_door rfl (hB.alloc _) ⟨.inr ⟨fun h => by have := (h.wins x (List.mem_of_getElem? hx)).2; unfold between at this; simp at hb2; omega, rfl⟩, (hf.alloc _).setCell _ _ (fun h => by simp at h; omega)⟩
            · go_wp2_with (first
                | (go_at_call 127; refine (in_any _ _ _ _).mono ?_; rintro e w' ⟨rfl, rfl⟩)
                | (go_at_call 126; refine (must_any _ _).mono ?_; rintro e w' ⟨rfl, ⟨hb2, rfl⟩ | ⟨hb2, rfl⟩⟩ <;> try (cases hb2; done)))
              exact numbers_door rfl (hB.alloc _) ⟨.inr ⟨fun h => by have := (h.wins x (List.mem_of_getElem? hx)).1; unfold between at this; omega, rfl⟩, (hf.alloc _).setCell _ _ (fun h => by simp at h; omega)⟩
        · obtain rfl : k = c.wins.length := by omega
          have hWins : ∀ x ∈ c.wins, winOk c.parts.length x := fun x hx => by
            obtain ⟨j, hj, e⟩ := List.mem_iff_getElem.1 hx
            exact HJ.out j x hj (by rw [List.getElem?_eq_getElem hj, e])
          have HW := Lib.hid hWins
          have hEach : (false ∉ bs.take c.parts.length) ↔ ∀ i : Nat, i < c.parts.length → ∃ p ∈ c.wins, p.1 = i := by
            unfold between at hlp
            constructor
            · intro hno i hi
              have hi8 : i < 8 := by omega
              have : bs[i]? = some true := by
                cases hb' : bs[i]'(by omega) with
                | true => rw [List.getElem?_eq_getElem (by omega), hb']
                | false => exact absurd (List.mem_iff_getElem.2 ⟨i, by simp; omega, by simp [hb']⟩) hno
              obtain ⟨j, x, hj, hx, e⟩ := (HS.out i hi8).1 this
              exact ⟨x, List.mem_of_getElem? hx, e⟩
            · intro hall hm
              obtain ⟨i, hi, e⟩ := List.mem_iff_getElem.1 hm
              simp only [List.length_take] at hi
              simp only [List.getElem_take] at e
              obtain ⟨x, hx, ex⟩ := hall i (by omega)
              obtain ⟨j, hj, ej⟩ := List.mem_iff_getElem.1 hx
              have := (HS.out i (by omega)).2 ⟨j, x, hj, by rw [List.getElem?_eq_getElem hj, ej], ex⟩
              rw [List.getElem?_eq_getElem (by omega), e] at this
              cases this
          have HE := Lib.hid hEach
          have hm8 : c.parts.length ≤ 8 := by unfold between at hlp; omega
          have hS : SlcIn (fun b => b = X) wr 1 (.slice (some ⟨X, 0, none⟩) c.parts.length 8) ((bs.take c.parts.length).map Value.bool) :=
            ⟨_, _, _, rfl, by simp; omega, by omega, .inr ⟨X, 0, rfl, rfl, fun j u hj => by
              rw [List.map_take, List.getElem?_take] at hj
              split at hj
              · rw [hX.cell, Nat.zero_add, hj]
              · cases hj⟩⟩
          have hnot := run_not'
          clear hWins hEach HJ HS
          by_cases hno : false ∈ bs.take c.parts.length
          · have hd : decide (false ∈ bs.take c.parts.length) = true := by simpa using hno
            go_wp2_with (first
              | (go_at_call 128; refine (containsB_any _ hS _).mono ?_; rintro e w' ⟨rfl, rfl⟩; rw [hd])
              | (go_at_call 126; refine (must_any _ _).mono ?_; rintro e w' ⟨rfl, ⟨hb2, rfl⟩ | ⟨hb2, rfl⟩⟩ <;> try (cases hb2; done)))
            exact numbers_door rfl hB ⟨.inr ⟨fun h => HE.out.2 h.each hno, rfl⟩, hf.setCell _ _ (fun h => by simp at h; omega)⟩
          · have hd : decide (false ∈ bs.take c.parts.length) = false := by simpa using hno
            have HN := Lib.hid (HE.out.1 hno)
            go_wp2_with (first
              | (go_at_call 128; refine (containsB_any _ hS _).mono ?_; rintro e w' ⟨rfl, rfl⟩; rw [hd])
              | (go_at_call 126; refine (must_any _ _).mono ?_; rintro e w' ⟨rfl, ⟨hb2, rfl⟩ | ⟨hb2, rfl⟩⟩ <;> try (cases hb2; done)))
            clear hX hS hXl hbl hno hd
            go_loopw [78] (fun i wr3 => ∃ k : Nat, k ≤ c.chans.length ∧ i = .int .i64 k ∧ (∀ j x, j < k → c.chans[j]? = some x → chanOk c.parts.length x) ∧ Fr Nil w wr3 ∧
                Blk wr3 w.heap.size [.slice a1 c.parts.length k1, .slice a2 c.wins.length k2, .slice a3 c.chans.length k3] ∧ Blk wr3 (w.heap.size + 1) [.int .i64 0]) (fun i _ => c.chans.length - (intOf i).toNat)
            case atStart =>
              exact ⟨0, Nat.zero_le _, rfl, fun j x hj => absurd hj (Nat.not_lt_zero _), hf, hA, hB⟩
            case round =>
              clear hf hA hB hAc
              obtain ⟨k, hk, rfl, hj, hf, hA, hB⟩ := hrel
              have hAc := hA.cell
              have HJ := Lib.hid hj
              clear hj
              by_cases hlt3 : k < c.chans.length
              · obtain ⟨x, hx⟩ : ∃ x, c.chans[k]? = some x := ⟨c.chans[k], by simp [hlt3]⟩
                rcases HC3.out with hz | ⟨b, off, rfl, hp, hc⟩
                · omega
                · obtain ⟨g1, g2, g3, g4⟩ := flat_chan _ _ _ hx
                  have e1 := cell_nil (hc _ _ g1) hf
                  have e2 : wr.cell? ⟨b, off + k * 4 + 1, none⟩ = some (.int .i64 x.to) := cell_nil (hc _ _ g2) hf
                  have e3 : wr.cell? ⟨b, off + k * 4 + 2, none⟩ = some (.int .i64 x.cap) := cell_nil (hc _ _ g3) hf
                  have e4 : wr.cell? ⟨b, off + k * 4 + 3, none⟩ = some (.int .i64 x.words) := cell_nil (hc _ _ g4) hf
                  have hAc2 := (hA.alloc (.cells #[.int .i64 x.from_, .int .i64 x.to, .int .i64 x.cap, .int .i64 x.words] 109)).cell
                  clear hc g1 g2 g3 g4
                  have HX := Lib.hid hx
                  clear hx
                  go_wp2_with (first
                    | (go_at_call 127; refine (in_any _ _ _ _).mono ?_; rintro e w' ⟨rfl, rfl⟩)
                    | (go_at_call 126; refine (must_any _ _).mono ?_; rintro e w' ⟨rfl, ⟨hb2, rfl⟩ | ⟨hb2, rfl⟩⟩ <;> try (cases hb2; done)))
                  rotate_left
                  · have hco : chanOk c.parts.length x := by
                      simp only [Bool.and_eq_true, bne_iff_ne, ne_eq, decide_eq_true_eq] at hb2
                      exact ⟨by unfold between; assumption, by unfold between; assumption, hb2.1, by unfold between; assumption, hb2.2⟩
                    refine ⟨⟨k + 1, by omega, by go_num, fun j y hj hy => ?_, hf.alloc _, hA.alloc _, hB.alloc _⟩, by simp [intOf]; omega⟩
                    by_cases hjk : j = k
                    · subst hjk; rw [HX.out] at hy; cases hy; exact hco
                    · exact HJ.out j y (by omega) hy
                  all_goals
                    refine numbers_door rfl (hB.alloc _) ⟨.inr ⟨fun h => ?_, rfl⟩, (hf.alloc _).setCell _ _ (fun h => by simp at h; omega)⟩
                    obtain ⟨q1, q2, q3, q4, q5⟩ := h.chans x (List.mem_of_getElem? HX.out)
                    unfold between at q1 q2 q4 q5
                    try simp only [Bool.and_eq_false_iff, bne_eq_false_iff_eq, decide_eq_false_iff_not] at hb2
                    omega
              · obtain rfl : k = c.chans.length := by omega
                have hChans : ∀ x ∈ c.chans, chanOk c.parts.length x := fun x hx => by
                  obtain ⟨j, hj, e⟩ := List.mem_iff_getElem.1 hx
                  exact HJ.out j x hj (by rw [List.getElem?_eq_getElem hj, e])
                have HQ : NumbersOk c := ⟨hlp, hlw, hb, HP.out, HW.out, HN.out, hChans⟩
                have HQ := Lib.hid HQ
                clear HJ hChans
                have hfz := hB.frozen 0
                have hB0 := hB.cell 0
                go_wp2
                have hB9 := hB.set 0 (.int .i64 0)
                exact numbers_home rfl hB9 ⟨.inl ⟨HQ.out, rfl⟩, hf.setCell ⟨w.heap.size + 1, 0, none⟩ _ (fun h => by simp at h; omega)⟩ ⟨0, rfl⟩
end Go.Priory
