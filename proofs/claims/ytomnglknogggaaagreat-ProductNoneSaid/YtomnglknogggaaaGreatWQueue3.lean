/- What Pop, Turn, Drop, New of package queue do. No condition. -/
import Derived.Test.YtomnglknogggaaaGreatWQueue2
namespace Go.Priory
open Go.RowKit Go.Proofs
set_option maxRecDepth 100000

theorem queueNew_any (w : World) : Calls Tryz.prog 64 #[] w fun e w' => e = .returned (.pointer (some ⟨w.heap.size, 0, none⟩)) ∧ QueueIs w' w.heap.size [] ∧ Fr Nil w w' ∧ w'.heap.size = w.heap.size + 1 := by
  go_enter Tryz.func64, Tryz.ntmps64
  go_wp2_with fail
  go_ret
  refine ⟨rfl, ⟨List.replicate 8 0, 0, by simp, by omega, by simp, Blk.new w _ _, fun k x h => by simp at h⟩, (Fr.refl _ _).alloc _, by simp⟩

theorem head_nil {b : Nat} (w : World) (h : QueueIs w b []) : Calls Tryz.prog 68 #[.pointer (some ⟨b, 0, none⟩)] w fun e w' => e = .returned (.tuple #[.int .i64 0, .bool false]) ∧ Fr Nil w w' := head_any w h
theorem head_cons {b : Nat} {n : Int} {q : List Int} (w : World) (h : QueueIs w b (n :: q)) : Calls Tryz.prog 68 #[.pointer (some ⟨b, 0, none⟩)] w fun e w' => e = .returned (.tuple #[.int .i64 n, .bool true]) ∧ Fr Nil w w' := head_any w h
theorem run_not (x : Bool) (w : World) : (Op.unary .not (.bool x)).run Tryz.prog w = .ok (.bool (!x)) w := rfl
theorem qpop_none {b : Nat} (w : World) (h : QueueIs w b []) : Calls Tryz.prog 117 #[.pointer (some ⟨b, 0, none⟩)] w fun e w' => e = .returned (.tuple #[.int .i64 0, .int .i64 4]) ∧ QueueIs w' b [] ∧ Fr (fun x => x = b) w w' := by
  have h' := h
  obtain ⟨ring, at_, hq⟩ := h
  have ha : qaskedE 1 = 0 := by decide
  have hnot := run_not
  go_enter Tryz.func117, Tryz.ntmps117
  go_wp2_with (first
    | (go_at_call 130; refine (qasked_any _ hq.blk (ring_at hq.len).2.2 _).mono ?_; rintro e w' ⟨rfl, rfl⟩; rw [ha])
    | (go_at_call 68; refine (head_nil _ h').mono ?_; rintro e w' ⟨rfl, hf⟩))
  go_ret2
  exact ⟨rfl, h'.fr hf (fun h => h), hf.mono (fun _ h => h.elim)⟩
set_option maxHeartbeats 1000000 in
theorem qpop_any {b : Nat} {n : Int} {q : List Int} (w : World) (h : QueueIs w b (n :: q)) : Calls Tryz.prog 117 #[.pointer (some ⟨b, 0, none⟩)] w fun e w' => e = .returned (.tuple #[.int .i64 n, .int .i64 0]) ∧ QueueIs w' b q ∧ Fr (fun x => x = b) w w' := by
  have h' := h
  obtain ⟨ring, at_, hq⟩ := h
  have ha : qaskedE 1 = 0 := by decide
  have hnot := run_not
  have hat := hq.lt
  have hfew := hq.few
  simp only [List.length_cons] at hfew
  have m8 : (((at_ : Int) + 1) % 8) = (((at_ + 1) % 8 : Nat) : Int) := by omega
  go_enter Tryz.func117, Tryz.ntmps117
  go_wp2_with (first
    | (go_at_call 130; refine (qasked_any _ hq.blk (ring_at hq.len).2.2 _).mono ?_; rintro e w' ⟨rfl, rfl⟩; rw [ha])
    | (go_at_call 68; refine (head_cons _ h').mono ?_; rintro e w3 ⟨rfl, hf⟩; have hq3 := hq.fr hf (fun h => h); have e9 := hq3.c9; have e10 := hq3.c10; have fz := hq3.blk.frozen))
  have hs1 : (IntKind.i64.wrap ((at_ : Int) + 1)).tmod 8 = (((at_ + 1) % 8 : Nat) : Int) := by
    rw [show IntKind.i64.wrap ((at_ : Int) + 1) = (at_ : Int) + 1 from IntWalk.i64_in _ (by omega), Int.tmod_eq_emod_of_nonneg (by omega)]; omega
  have hs1 := Lib.hid hs1
  have hs2 : IntKind.i64.wrap (q.length : Int) = (q.length : Int) := IntWalk.i64_in _ (by omega)
  simp only [List.length_cons] at e10
  have Z := (hq3.blk.set 9 (.int .i64 (((at_ + 1) % 8 : Nat) : Int))).set 10 (.int .i64 (q.length : Int))
  rw [queue_set9 hq.len, queue_set10 hq.len] at Z
  have HZ : QueueIs ((w3.setCell ⟨b, 9, none⟩ (.int .i64 (((at_ + 1) % 8 : Nat) : Int))).setCell ⟨b, 10, none⟩ (.int .i64 (q.length : Int))) b q :=
    ⟨ring, (at_ + 1) % 8, hq.len, by omega, by omega, Z, fun k x hk => by
      have := hq.row (k + 1) x hk
      rw [show ((at_ + 1) % 8 + k) % 8 = (at_ + (k + 1)) % 8 by omega]; exact this⟩
  have HF : Fr (fun x => x = b) w ((w3.setCell ⟨b, 9, none⟩ (.int .i64 (((at_ + 1) % 8 : Nat) : Int))).setCell ⟨b, 10, none⟩ (.int .i64 (q.length : Int))) :=
    ((hf.mono (T := fun x => x = b) (fun _ h => h.elim)).setCell ⟨b, 9, none⟩ _ (fun _ => rfl)).setCell ⟨b, 10, none⟩ _ (fun _ => rfl)
  have HZ9 := Lib.hid HZ
  have HF9 := Lib.hid HF
  clear Z hf h' hq hq3 m8 HZ HF
  go_region
  all_goals (go_wp2; go_ret2; exact ⟨rfl, HZ9.out.fr (Fr.refl Nil _).drew (fun h => h), HF9.out.drew⟩)

def turnE (q : List Int) : Int := if q = [] then 4 else 0
def turnN : List Int → List Int
  | [] => []
  | n :: q => q ++ [n]
theorem turn_ok {q : List Int} (h : RowOk q) : RowOk (turnN q) := by
  cases q with
  | nil => exact h
  | cons n q =>
    refine ⟨?_, fun x hx => h.2 x (by unfold turnN at hx; simp at hx ⊢; exact hx.symm)⟩
    have := h.1
    unfold turnN
    rw [List.nodup_append]
    rw [List.nodup_cons] at this
    exact ⟨this.2, by simp, fun a ha b hb => by rw [List.mem_singleton.1 hb]; exact fun e => this.1 (e ▸ ha)⟩
theorem RowOk.tail {n : Int} {q : List Int} (h : RowOk (n :: q)) : RowOk q ∧ pushE q n = 0 ∧ pushN q n = q ++ [n] := by
  have h1 := (List.nodup_cons.1 h.1)
  have h2 := h.2 n (.head _)
  have : pushE q n = 0 := by unfold pushE qaskedE; rw [if_neg (by simp; omega), if_neg h1.1]
  exact ⟨⟨h1.2, fun x hx => h.2 x (.tail _ hx)⟩, this, by unfold pushN; rw [if_pos this]⟩
theorem qturn_any {b : Nat} {q : List Int} (w : World) (h : QueueIs w b q) (hok : RowOk q) : Calls Tryz.prog 76 #[.pointer (some ⟨b, 0, none⟩)] w fun e w' => e = .returned (.int .i64 (turnE q)) ∧ QueueIs w' b (turnN q) ∧ Fr (fun x => x = b) w w' := by
  cases q with
  | nil =>
    go_enter Tryz.func76, Tryz.ntmps76
    go_wp2_with (go_at_call 117; refine (qpop_none _ h).mono ?_; rintro e w' ⟨rfl, h1, hf⟩)
    go_ret
    exact ⟨rfl, h1, hf⟩
  | cons n q =>
    obtain ⟨h3, h4, h5⟩ := hok.tail
    go_enter Tryz.func76, Tryz.ntmps76
    go_wp2_with (first
      | (go_at_call 117; refine (qpop_any _ h).mono ?_; rintro e w' ⟨rfl, h1, hf⟩)
      | (go_at_call 101; refine (push_any _ h1 h3 _).mono ?_; rintro e w2 ⟨rfl, h2, hf2⟩; rw [h4]; rw [h5] at h2))
    go_ret
    exact ⟨rfl, h2, hf.trans hf2 (fun _ _ h => h)⟩

/-- A row one of which has moved: the numbers before i already as behind the end. -/
structure Moving (w : World) (b : Nat) (q ring : List Int) (at_ k i : Nat) : Prop where
  len : ring.length = 8
  lt : at_ < 8
  few : q.length ≤ 8
  hk : k ≤ i
  hi : i < q.length
  blk : Blk w b (queueCells ring at_ q.length)
  low : ∀ j x, j < i → (q.eraseIdx k)[j]? = some x → ring[(at_ + j) % 8]? = some x
  high : ∀ j x, i ≤ j → q[j]? = some x → ring[(at_ + j) % 8]? = some x
theorem Moving.fr {S : Nat → Prop} {w w' : World} {b : Nat} {q ring : List Int} {at_ k i : Nat} (h : Moving w b q ring at_ k i) (f : Fr S w w') (hn : ¬ S b) : Moving w' b q ring at_ k i :=
  ⟨h.len, h.lt, h.few, h.hk, h.hi, h.blk.fr f hn, h.low, h.high⟩
set_option maxHeartbeats 1000000 in
theorem forward_any {b pb : Nat} {q ring : List Int} {at_ k i : Nat} (w : World) (h : Moving w b q ring at_ k i) (hi : i + 1 < q.length) (Pb : Blk w pb [.pointer (some ⟨b, 0, none⟩)]) (hpb : pb ≠ b) :
    Calls Tryz.prog 217 #[.int .i64 i, .pointer (some ⟨pb, 0, none⟩)] w fun e w' => e = .returned (.tuple #[]) ∧ (∃ ring', Moving w' b q ring' at_ k (i + 1)) ∧ Fr (fun x => x = b) w w' := by
  have hat := h.lt
  have hfew := h.few
  obtain ⟨y, hy⟩ : ∃ y, q[i + 1]? = some y := ⟨q[i + 1], by simp [hi]⟩
  let U : World → Prop := fun w' => Fr (fun x => x = b) w.drew w' ∧ ∃ z : Int, Blk w' b (queueCells (ring.set ((at_ + i) % 8) z) at_ q.length)
  have hi8 : (at_ + i) % 8 < ring.length := by rw [h.len]; omega
  have hU : U w.drew := ⟨Fr.refl _ _, ring[(at_ + i) % 8], by rw [List.set_getElem_self]; exact h.blk.drew⟩
  have U1 : ∀ (w1 w2 : World), U w1 → Fr Nil w1 w2 → U w2 := fun w1 w2 h f => ⟨h.1.trans f (fun _ _ h => h.elim), by obtain ⟨z, hz⟩ := h.2; exact ⟨z, hz.fr f (fun h => h)⟩⟩
  have hN : ∀ (j : Int) (x : UCls U), 0 ≤ j → j < 16 → Calls Tryz.prog 102 #[.pointer (some ⟨b, 0, none⟩), .int .i64 j] x.w fun e w' => e = .returned (.pointer (some ⟨b, 1 + (at_ + j.toNat) % 8, none⟩)) ∧ U w' :=
    fun j x h0 hj => by
      obtain ⟨z, hz⟩ := x.fr.2
      refine (place_any x.w hz (ring_at (by simp [h.len])).1 (by omega) h0 hj).mono ?_
      rintro e w' ⟨he, hf⟩
      exact ⟨he, U1 _ _ x.fr hf⟩
  have cp : ∀ x : UCls U, x.w.cell? ⟨pb, 0, none⟩ = some (.pointer (some ⟨b, 0, none⟩)) := fun x => (Pb.drew.fr x.fr.1 hpb).cell 0
  have cy : ∀ x : UCls U, x.w.cell? ⟨b, 1 + (at_ + (i + 1)) % 8, none⟩ = some (.int .i64 y) := fun x => by
    obtain ⟨z, hz⟩ := x.fr.2
    rw [hz.cell]; exact ring_cell (by omega) (by simp [h.len]) (by rw [List.getElem?_set_ne (by omega)]; exact h.high (i + 1) y (by omega) hy)
  have i8 : i < 8 := by omega
  have hEnd : ∀ x : UCls U, ∃ z, x.w.cell? ⟨b, 1 + (at_ + i) % 8, none⟩ = some (.int .i64 z) ∧ x.w.frozen? ⟨b, 1 + (at_ + i) % 8, none⟩ = false ∧
      U (x.w.setCell ⟨b, 1 + (at_ + i) % 8, none⟩ (.int .i64 y)) ∧ Fr (fun x => x = b) w (x.w.setCell ⟨b, 1 + (at_ + i) % 8, none⟩ (.int .i64 y)) ∧ Blk (x.w.setCell ⟨b, 1 + (at_ + i) % 8, none⟩ (.int .i64 y)) b (queueCells (ring.set ((at_ + i) % 8) y) at_ q.length) := fun x => by
    obtain ⟨z, hz⟩ := x.fr.2
    have hset := hz.set (1 + (at_ + i) % 8) (.int .i64 y)
    rw [queue_set (by omega) (by simp [h.len]), List.set_set] at hset
    exact ⟨z, by rw [hz.cell]; exact ring_cell (by omega) (by simp [h.len]) (by rw [List.getElem?_set_self hi8]), hz.frozen _, ⟨x.fr.1.setCell ⟨b, _, none⟩ _ (fun _ => rfl), y, hset⟩, ((Fr.refl _ _).drew.trans x.fr.1 (fun _ _ h => h)).setCell ⟨b, _, none⟩ _ (fun _ => rfl), hset⟩
  have HL := Lib.hid (show ∀ w', Blk w' b (queueCells (ring.set ((at_ + i) % 8) y) at_ q.length) → Moving w' b q (ring.set ((at_ + i) % 8) y) at_ k (i + 1) from fun w' hb =>
    ⟨by simp [h.len], h.lt, h.few, by have := h.hk; omega, hi, hb, fun j x hj hx => by
      by_cases hji : j = i
      · subst hji
        have : y = x := by
          rw [List.getElem?_eraseIdx_of_ge h.hk] at hx
          rw [hx] at hy; exact (Option.some.inj hy).symm
        rw [List.getElem?_set_self hi8, this]
      · have hjl : j < q.length := by omega
        rw [List.getElem?_set_ne (by omega)]
        exact h.low j x (by omega) hx, fun j x hj hx => by
      have hjl : j < q.length := (List.getElem?_eq_some_iff.1 hx).1
      rw [List.getElem?_set_ne (by omega)]
      exact h.high j x (by omega) hx⟩)
  have HU := hU
  clear h U1 hy
  have HU := hU
  clear_value U
  go_enter Tryz.func217, Tryz.ntmps217
  go_wp2_with fail
  have hNonU : Nonempty (UCls U) := ⟨⟨_, HU⟩⟩
  refine wp_draw_u [true, true, true, true, true, true, true, true, true, true, false] U HU (by kernel_rfl) (by kernel_rfl) (by kernel_rfl) (by kernel_rfl) ?_
  simp only [pickL, restL]
  repeat (go_big_quiet_step (((go_at_call 102; exact Calls.u (hN _ _ (by omega) (by omega))))))
  refine wpQuiet_nil ?_
  intro z
  obtain ⟨o, c1, c2, c3, c4, c5⟩ := hEnd z
  refine wpSeq_step (fun K hK => ?_)
  go_simp
  refine ⟨c3, hK _ _ (wpSeq_nil ?_)⟩
  go_wp2
  go_end0
  exact ⟨rfl, ⟨_, HL.out _ c5⟩, c4⟩

def dropE (q : List Int) (n : Int) : Int := if qaskedE n ≠ 0 then 2 else if n ∈ q then 0 else 4
def dropN (q : List Int) (n : Int) : List Int := if dropE q n = 0 then q.erase n else q
theorem dropN_ok {q : List Int} (h : RowOk q) (n : Int) : RowOk (dropN q n) := by
  unfold dropN; split
  · exact ⟨h.1.erase _, fun x hx => h.2 x (List.mem_of_mem_erase hx)⟩
  · exact h
theorem erase_index : ∀ {q : List Int} {n : Int} {k : Nat}, indexOf n q = some k → q.erase n = q.eraseIdx k
  | [], _, _, h => by simp [indexOf] at h
  | x :: q, n, k, h => by
    unfold indexOf at h
    by_cases e : x = n
    · subst e; simp at h; subst h; simp
    · rw [if_neg (fun h => e h.symm)] at h
      cases hi : indexOf n q with
      | none => rw [hi] at h; simp at h
      | some j =>
        rw [hi] at h; simp at h; subst h
        rw [List.erase_cons_tail (by simpa using e), erase_index hi]; rfl
/-- All but the last are where they should be. -/
theorem Moving.done {w : World} {b : Nat} {q ring : List Int} {at_ k i : Nat} (h : Moving w b q ring at_ k i) (hi : i + 1 = q.length) : QueueIs (w.setCell ⟨b, 10, none⟩ (.int .i64 ((q.length - 1 : Nat) : Int))) b (q.eraseIdx k) := by
  have hl : (q.eraseIdx k).length = q.length - 1 := by rw [List.length_eraseIdx, if_pos (by have := h.hk; have := h.hi; omega)]
  have Z := h.blk.set 10 (.int .i64 ((q.length - 1 : Nat) : Int))
  rw [queue_set10 h.len] at Z
  refine ⟨ring, at_, h.len, h.lt, by have := h.few; omega, by rw [hl]; exact Z, fun j x hx => ?_⟩
  have := (List.getElem?_eq_some_iff.1 hx).1
  exact h.low j x (by omega) hx
set_option maxHeartbeats 1000000 in
theorem qdrop_any {b : Nat} {q : List Int} (w : World) (h : QueueIs w b q) (n : Int) :
    Calls Tryz.prog 179 #[.pointer (some ⟨b, 0, none⟩), .int .i64 n] w fun e w' => e = .returned (.int .i64 (dropE q n)) ∧ QueueIs w' b (dropN q n) ∧ Fr (fun x => x = b) w w' := by
  have hblt : b < w.heap.size := by obtain ⟨_, _, hq⟩ := h; exact hq.blk.lt
  have f1 : Fr Nil w (w.alloc (.cells #[.pointer (some ⟨b, 0, none⟩)] 93)) := (Fr.refl _ _).alloc _
  have hA := h.fr f1 (fun h => h)
  have PA := Blk.new w [.pointer (some ⟨b, 0, none⟩)] 93
  have hpb : w.heap.size ≠ b := by omega
  have hmf := makeFunc_any
  by_cases ha : qaskedE n = 0
  · by_cases hm : n ∈ q
    · have HE := Lib.hid (show dropE q n = 0 by unfold dropE; rw [if_neg (by simpa using ha), if_pos hm])
      have HN := Lib.hid (show dropN q n = q.erase n by unfold dropN; rw [if_pos HE.out])
      obtain ⟨k, hk⟩ : ∃ k, indexOf n q = some k := by
        cases hi : indexOf n q with
        | none => exact absurd hm (indexOf_none.1 hi)
        | some k => exact ⟨k, rfl⟩
      have hp : placeOf n q = k := by unfold placeOf; rw [hk]
      have HK := Lib.hid (erase_index hk)
      have hkl := (indexOf_some hk).1
      clear hm hk
      go_enter Tryz.func179, Tryz.ntmps179
      go_wp2_with (first
        | (go_at_call 130; obtain ⟨ring, at_, hq⟩ := hA; refine (qasked_any _ hq.blk (ring_at hq.len).2.2 _).mono ?_; rintro e w' ⟨rfl, rfl⟩; rw [ha])
        | (go_at_call 132; refine (qall_any _ ⟨_, _, hq⟩).mono ?_; rintro e w1 ⟨v, rfl, hs, hf⟩; have PB := (PA.fr hf (fun h => h)))
        | (go_at_call 166; refine (index_any _ hs _).mono ?_; rintro e w2 ⟨rfl, rfl⟩; rw [hp]))
      go_loopw [8] (fun i wr => ∃ (j : Nat) (ring' : List Int), i = .int .i64 j ∧ Moving wr b q ring' at_ k j ∧ Fr (fun x => x = b) w wr ∧ Blk wr w.heap.size [.pointer (some ⟨b, 0, none⟩)]) (fun i _ => q.length - (intOf i).toNat)
      case atStart =>
        exact ⟨k, ring, rfl, Moving.fr ⟨hq.len, hq.lt, hq.few, Nat.le_refl _, hkl, hq.blk, fun j x hj hx => by
            rw [List.getElem?_eraseIdx_of_lt hj] at hx; exact hq.row j x hx, fun j x _ hx => hq.row j x hx⟩ hf (fun h => h), (f1.trans hf (fun _ _ h => h)).mono (fun _ h => h.elim), PB⟩
      case round =>
        obtain ⟨j, ring', rfl, hM, hF, hP⟩ := hrel
        have c10 : wr.cell? ⟨b, 10, none⟩ = some (.int .i64 q.length) := by rw [hM.blk.cell]; exact (ring_at hM.len).2.1
        have cp := hP.cell 0
        have hfew := hM.few
        have hjl := hM.hi
        have hFb := hM.blk.frozen 10
        by_cases hlt : j + 1 < q.length
        · go_wp2_with (go_at_call 217; refine (forward_any _ hM hlt hP hpb).mono ?_; rintro e w' ⟨rfl, ⟨ring2, hM2⟩, hf2⟩)
          go_roundw
          case rel => exact ⟨j + 1, ring2, by go_num, hM2, hF.trans hf2 (fun _ _ h => h), hP.fr hf2 hpb⟩
          case measure => simp [intOf]; omega
        · go_wp2
          go_ret
          have hd := hM.done (by omega)
          exact ⟨ret_int HE.out.symm, by rw [HN.out, HK.out]; first | exact hd | (rw [show ((q.length : Int) - 1) = ((q.length - 1 : Nat) : Int) by omega]; exact hd), hF.setCell ⟨b, 10, none⟩ _ (fun _ => rfl)⟩
    · have HE := Lib.hid (show dropE q n = 4 by unfold dropE; rw [if_neg (by simpa using ha), if_neg hm])
      have HN := Lib.hid (show dropN q n = q by unfold dropN; rw [if_neg (by rw [HE.out]; omega)])
      have hp : placeOf n q = -1 := by unfold placeOf; rw [indexOf_none.2 hm]
      clear hm
      go_enter Tryz.func179, Tryz.ntmps179
      go_wp2_with (first
        | (go_at_call 130; obtain ⟨ring, at_, hq⟩ := hA; refine (qasked_any _ hq.blk (ring_at hq.len).2.2 _).mono ?_; rintro e w' ⟨rfl, rfl⟩; rw [ha])
        | (go_at_call 132; refine (qall_any _ ⟨_, _, hq⟩).mono ?_; rintro e w1 ⟨v, rfl, hs, hf⟩; have PB := (PA.fr hf (fun h => h)))
        | (go_at_call 166; refine (index_any _ hs _).mono ?_; rintro e w2 ⟨rfl, rfl⟩; rw [hp]))
      go_ret
      have f2 := f1.trans hf (fun _ _ h => h)
      exact ⟨ret_int HE.out.symm, by rw [HN.out]; exact h.fr f2 (fun h => h), f2.mono (fun _ h => h.elim)⟩
  · have HE := Lib.hid (show dropE q n = 2 by unfold dropE; rw [if_pos ha])
    have HN := Lib.hid (show dropN q n = q by unfold dropN; rw [if_neg (by rw [HE.out]; omega)])
    have hq2 : qaskedE n = 2 := by unfold qaskedE at ha ⊢; split <;> simp_all
    clear ha
    go_enter Tryz.func179, Tryz.ntmps179
    go_wp2_with (go_at_call 130; obtain ⟨ring, at_, hq⟩ := hA; refine (qasked_any _ hq.blk (ring_at hq.len).2.2 _).mono ?_; rintro e w' ⟨rfl, rfl⟩; rw [hq2])
    go_ret
    exact ⟨ret_int HE.out.symm, by rw [HN.out]; exact h.fr f1 (fun h => h), f1.mono (fun _ h => h.elim)⟩
end Go.Priory
