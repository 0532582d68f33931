/- What product.New does. No condition. -/
import Derived.Test.YtomnglknogggaaaGreatWProd3
namespace Go.Priory
open Go.RowKit Go.Proofs
set_option maxRecDepth 100000

theorem info58 : (Tryz.prog.info? 58).map (fun i => (i.zero, i.size, i.bytes)) = some (some (.pointer none), 1, 8) := by kernel_rfl
def NewPost (q : Nat) (n : Int) (x : Int × Int) (w : World) (e : Ending) (w' : World) : Prop :=
  (∃ k cb A, e = .returned (.tuple #[.pointer (some ⟨cb, 0, none⟩), .int .i64 0]) ∧ CellAt k w' cb A (.pointer (some ⟨q, 0, none⟩)) (newSt n x.2 x.1) ∧ ∀ b, Own k b → w.heap.size ≤ b ∧ b < w'.heap.size) ∧ Fr Nil w w'
theorem new1_any {p pq : Nat → Prop} {v1 v2 v3 : Value} {c : Conf} {q bl cb qb : Nat} {s : Qs} {rb : Nat → Option Nat} (w : World) (hB : Blk w cb [v1, v2, v3]) (hQ : Blk w qb [.pointer (some ⟨q, 0, none⟩)])
    (h : ConfIs p w (.agg #[v1, v2, v3]) c) (n : Int) (hq : QueuesAt pq w q s bl rb) (hok : checkE c = 0) (h0 : 0 ≤ n) (x : Int × Int) (hx : c.parts[n.toNat]? = some x) (hsame : c = s.conf) :
    Calls Tryz.prog 83 #[.int .i64 n, .pointer (some ⟨cb, 0, none⟩), .pointer (some ⟨qb, 0, none⟩)] w (NewPost q n x w) := by
  have key := cellNew_any w h n hq hok h0 x hx hsame
  have c1 := hB.cell
  have c2 := hQ.cell
  clear hsame hx hok
  go_enter Tryz.func83, Tryz.ntmps83
  go_wp2_with (go_at_call 24; refine key.mono ?_; clear key; rintro e w1 ⟨⟨k, cb', A', rfl, hC, hO⟩, f1⟩)
  go_ret2
  exact ⟨⟨k, cb', A', rfl, hC, hO⟩, f1⟩
/-- So many cells have been made. -/
structure Made (B q : Nat) (c : Conf) (wr : World) (v : Value) (k : Nat) (cb : Nat → Nat) (ks : Nat → Nat → Kind) (a : Nat → Addrs) : Prop where
  row : wr.ownsRow B 58 1 v k (cellPtrs cb k)
  cell : ∀ i x, i < k → c.parts[i]? = some x → CellAt (ks i) wr (cb i) (a i) (.pointer (some ⟨q, 0, none⟩)) (newSt i x.2 x.1)
  lo : ∀ i x, i < k → Own (ks i) x → B ≤ x ∧ x < wr.heap.size
  apart : ∀ i j x, i < k → j < k → i ≠ j → Own (ks i) x → ¬ Own (ks j) x
  off : ∀ g, v.ownBlock = some g → ∀ i, i < k → ¬ Own (ks i) g
theorem cellPtrs_snoc (c : Nat → Nat) (k : Nat) (x : Nat) : cellPtrs (upd c k x) (k + 1) = cellPtrs c k ++ [.pointer (some ⟨x, 0, none⟩)] := by
  unfold cellPtrs
  rw [List.range_succ, List.map_append]
  congr 1
  · refine List.map_congr_left fun i hi => ?_
    have := List.mem_range.1 hi
    rw [upd_other _ _ (by omega)]
  · simp [upd]
theorem owns_lt {w : World} {B e k n : Nat} {v : Value} {xs : List Value} (h : w.ownsRow B e k v n xs) : ∀ b, v.ownBlock = some b → b < w.heap.size := by
  obtain ⟨h1, h2⟩ := h
  rcases h2 with ⟨rfl, rfl⟩ | ⟨g, cap, cur, rfl, hg, hh, _⟩
  · intro b hb; cases hb
  · intro b hb; simp [Value.ownBlock] at hb; subst hb; exact lt_of_heap hh
theorem Made.step {B q : Nat} {c : Conf} {wr w1 w2 : World} {v v' : Value} {k : Nat} {cb : Nat → Nat} {ks : Nat → Nat → Kind} {a : Nat → Addrs} (h : Made B q c wr v k cb ks a) (hB : B ≤ wr.heap.size) (f1 : Fr Nil wr w1) {k1 : Nat → Kind} {c1 : Nat} {a1 : Addrs} {y : Int × Int} (hy : c.parts[k]? = some y)
    (hC : CellAt k1 w1 c1 a1 (.pointer (some ⟨q, 0, none⟩)) (newSt k y.2 y.1)) (hO : ∀ b, Own k1 b → wr.heap.size ≤ b ∧ b < w1.heap.size) (o : Obj)
    (hrow : w2.ownsRow B 58 1 v' (k + 1) (cellPtrs cb k ++ [.pointer (some ⟨c1, 0, none⟩)])) (hg : (w1.alloc o).grownBy w2 v.ownBlock) (hat : v'.ownBlock = v.ownBlock ∨ v'.ownBlock = some (w1.alloc o).heap.size) :
    Made B q c w2 v' (k + 1) (upd cb k c1) (upd ks k k1) (upd a k a1) := by
  have s1 := f1.size
  have s2 := hg.size
  have hv := owns_lt h.row
  rw [World.size_alloc] at s2 hat
  have F2 : Fr (fun b => some b = v.ownBlock) w1 w2 := ((Fr.refl (fun b => some b = v.ownBlock) w1).alloc o).trans (Fr.of_grown hg) (fun x _ e => e)
  refine ⟨by rw [cellPtrs_snoc]; exact hrow, fun i x hi hx => ?_, fun i x hi hx => ?_, fun i j x hi hj hne hx => ?_, fun g hgv i hi hx => ?_⟩
  · by_cases e : i = k
    · subst e
      obtain rfl : y = x := by rw [hy] at hx; exact Option.some.inj hx
      rw [upd_same, upd_same, upd_same]
      exact hC.apart F2 (fun x hx e => by have := hv x e.symm; have := hO x hx; omega)
    · rw [upd_other _ _ e, upd_other _ _ e, upd_other _ _ e]
      exact ((h.cell i x (by omega) hx).nil f1).apart F2 (fun x hx e' => h.off x e'.symm i (by omega) hx)
  · by_cases e : i = k
    · subst e
      rw [upd_same] at hx
      have := hO x hx
      omega
    · rw [upd_other _ _ e] at hx
      have := h.lo i x (by omega) hx
      omega
  · by_cases e : i = k
    · subst e
      rw [upd_same] at hx
      rw [upd_other _ _ (Ne.symm hne)]
      intro hx2
      have := hO x hx
      have := h.lo j x (by omega) hx2
      omega
    · rw [upd_other _ _ e] at hx
      by_cases e2 : j = k
      · subst e2
        rw [upd_same]
        intro hx2
        have := hO x hx2
        have := h.lo i x (by omega) hx
        omega
      · rw [upd_other _ _ e2]
        exact h.apart i j x (by omega) (by omega) hne hx
  · by_cases e : i = k
    · subst e
      rw [upd_same] at hx
      have h3 := hO g hx
      rcases hat with e3 | e3
      · have := hv g (by rw [← e3]; exact hgv)
        omega
      · rw [e3] at hgv; cases hgv; omega
    · rw [upd_other _ _ e] at hx
      have h3 := h.lo i g (by omega) hx
      rcases hat with e3 | e3
      · exact h.off g (by rw [← e3]; exact hgv) i (by omega) hx
      · rw [e3] at hgv; cases hgv; omega
set_option maxHeartbeats 2000000 in
theorem several_any {p pq : Nat → Prop} {v1 v2 v3 : Value} {c : Conf} {q bl cb qb : Nat} {s : Qs} {rb : Nat → Option Nat} (w : World) (hB : Blk w cb [v1, v2, v3]) (hQ : Blk w qb [.pointer (some ⟨q, 0, none⟩)])
    (h : ConfIs p w (.agg #[v1, v2, v3]) c) (hq : QueuesAt pq w q s bl rb) (hok : checkE c = 0) (hsame : c = s.conf) :
    Calls Tryz.prog 82 #[.int .i64 c.parts.length, .func (.func 83) #[] #[.pointer (some ⟨cb, 0, none⟩), .pointer (some ⟨qb, 0, none⟩)]] w fun e w' =>
      ∃ v cs ks a, e = .returned (.tuple #[v, .int .i64 0]) ∧ Made w.heap.size q c w' v c.parts.length cs ks a ∧ Fr Nil w w' := by
  obtain ⟨hn, -⟩ := checkE_ok.1 hok
  obtain ⟨l1, l2⟩ := hn.lp
  obtain ⟨i0, hi, hz0, hz1, hz2⟩ := info_parts info58
  have HSAME := Lib.hid hsame
  have HOK := Lib.hid hok
  clear hsame hok
  go_enter Tryz.func82, Tryz.ntmps82
  go_wp2_with fail
  go_loopw [6, 11] (fun v i wr => ∃ k : Nat, k ≤ c.parts.length ∧ i = .int .i64 k ∧ (∃ cs ks a, Made w.heap.size q c wr v k cs ks a) ∧ Fr Nil w wr) (fun _ i _ => c.parts.length - (intOf i).toNat)
  case atStart => exact ⟨0, Nat.zero_le _, rfl, ⟨fun _ => 0, fun _ _ => .no, fun _ => ⟨0, 0, 0, 0, 0, fun _ => 0, fun _ => 0⟩, ⟨by simp [cellPtrs], .inl ⟨rfl, rfl⟩⟩, fun i x hi => by omega, fun i x hi => by omega, fun i j x hi => by omega, fun g hg => by cases hg⟩, Fr.refl _ _⟩
  case round =>
    obtain ⟨k, hk, rfl, ⟨cs, ks, a, hM⟩, hf⟩ := hrel
    by_cases hlt : k < c.parts.length
    · obtain ⟨y, hy⟩ : ∃ y, c.parts[k]? = some y := ⟨c.parts[k], by simp [hlt]⟩
      have key := new1_any wr (hB.fr hf (fun h => h)) (hQ.fr hf (fun h => h)) (h.nil hf) k (hq.nil hf) HOK.out (by omega) y (by rw [Int.toNat_natCast]; exact hy) HSAME.out
      have HY := Lib.hid hy
      have hsz := hf.size
      clear hy
      go_wp2_with (first
        | (go_at_call 83; refine key.mono ?_; clear key; rintro e w1 ⟨⟨k1, c1, a1, rfl, hC, hO⟩, f1⟩; have hown := owns_fr hM.row f1 (fun _ _ h => h); have hs1 := f1.size)
        | (at_builtin; refine wpList_append_own_at _ rfl _ _ 126 rfl w.heap.size 58 i0 (.pointer none) 1 8 Tryz.underlying126 hi hz0 hz1 hz2 rfl (by decide) _ _ _ rfl (hown.alloc _) ⟨w1.heap.size, 0, none⟩ 1 1 [.pointer (some ⟨c1, 0, none⟩)] rfl rfl (cell_one_new _ _ _) (by simp [Value.oneCell']) (by unfold maxLen; omega) (by omega) (by simp; omega) ?_; intro v' w2 hown2 hgrow _ hat))
      have hM2 := hM.step hsz f1 HY.out hC hO _ hown2 hgrow hat
      go_roundw
      case rel => exact ⟨k + 1, by omega, by go_num, ⟨_, _, _, hM2⟩, ((hf.trans f1 (fun _ _ h => h)).alloc _).grown hgrow (fun b hb e => absurd (owns_row_new hM.row b e) (by omega))⟩
      case measure => simp [intOf]; omega
    · obtain rfl : k = c.parts.length := by omega
      go_wp2
      go_ret2
      exact ⟨_, cs, ks, a, rfl, hM, hf⟩
end Go.Priory
