/- What Refund, Open, Close and New of package budget do. Conditions: the numbers in the budget are at most 65536, its Ids from 1 to 8. -/
import Derived.Test.YtomnglknogggaaaGreatWBudget
namespace Go.Priory
open Go.RowKit Go.Proofs
set_option maxRecDepth 100000

set_option maxHeartbeats 1000000 in
theorem refund_any {S : Nat → Prop} {b : Nat} {l : Nodes} (w : World) (h : BudgetIs S w b l) (hl : NodesOk l) (id n : Int) :
    Calls Tryz.prog 177 #[.pointer (some ⟨b, 0, none⟩), .int .i64 id, .int .i64 n] w fun e w' => e = .returned (.int .i64 (refundE l id n)) ∧ BudgetIs S w' b (refundN l id n) ∧ Fr S w w' := by
  by_cases ha : askedE l id n = 0
  · obtain ⟨x, hx⟩ := asked_ok ha
    have hb := hl.2 _ (mget_mem hx)
    obtain ⟨hn1, hn2⟩ : 0 ≤ n ∧ n ≤ 65536 := by
      unfold askedE at ha; split at ha
      · simp at ha
      · omega
    obtain ⟨bm, nb, hA⟩ := h
    have h' : BudgetIs S w b l := ⟨bm, nb, hA⟩
    have c1 := hA.blk.cell
    have c2 := (hA.node _ (mget_mem hx)).2.cell
    have f2 := (hA.node _ (mget_mem hx)).2.frozen
    have hlk := hA.look_some hx
    unfold nodeCells at c2
    simp only at c2 f2 hb
    by_cases hlt : x.used < n
    · have hE : refundE l id n = 9 := by unfold refundE; rw [if_neg (by simpa using ha), hx, if_pos (by simpa using hlt)]
      have hN : refundN l id n = l := by unfold refundN; rw [if_neg (by rw [hE]; omega)]
      have HE := Lib.hid hE
      clear hE
      go_enter Tryz.func177, Tryz.ntmps177
      go_wp2_with (go_at_call 109; refine (asked_any _ h' _ _).mono ?_; rintro e w' ⟨rfl, rfl⟩; rw [ha])
      go_ret
      exact ⟨ret_int HE.out.symm, by rw [hN]; exact h', Fr.refl _ _⟩
    · have hE : refundE l id n = 0 := by unfold refundE; rw [if_neg (by simpa using ha), hx, if_neg (by simpa using hlt)]
      have hN : refundN l id n = nupd id (fun x => { x with used := x.used - n }) l := by unfold refundN; rw [if_pos hE]
      have HE := Lib.hid hE
      clear hE
      go_enter Tryz.func177, Tryz.ntmps177
      go_wp2_with (go_at_call 109; refine (asked_any _ h' _ _).mono ?_; rintro e w' ⟨rfl, rfl⟩; rw [ha])
      go_ret
      refine ⟨ret_int HE.out.symm, ?_, ?_⟩
      · rw [hN]; exact ⟨bm, nb, hA.set hl.1 hx _ _ _ rfl⟩
      · exact (Fr.refl _ _).setCell _ _ (fun _ => (hA.node _ (mget_mem hx)).1)
  · have hE : refundE l id n = askedE l id n := by unfold refundE; rw [if_pos ha]
    have hN : refundN l id n = l := by unfold refundN; rw [if_neg (by rw [hE]; exact ha)]
    have hab := nz ha
    clear ha
    go_enter Tryz.func177, Tryz.ntmps177
    go_wp2_with (go_at_call 109; refine (asked_any _ h _ _).mono ?_; rintro e w' ⟨rfl, rfl⟩)
    go_ret
    exact ⟨ret_int hE.symm, by rw [hN]; exact h, Fr.refl _ _⟩

theorem asked_cases (l : Nodes) (id n : Int) : askedE l id n = 0 ∨ askedE l id n = 2 ∨ askedE l id n = 4 := by
  unfold askedE; split
  · simp
  · split <;> simp

theorem mapsTo_open {nb : Int → Nat} {l : Nodes} {id : Int} {N : Nat} {x : Node} (hs : Sorted l) :
    (mput id x l).map (nodePtr fun k => if k = id then N else nb k) = mput id (.pointer (some ⟨N, 0, none⟩)) (l.map (nodePtr nb)) := by
  have s1 : Sorted ((mput id x l).map (nodePtr fun k => if k = id then N else nb k)) := by
    unfold Sorted; rw [List.pairwise_map]; exact sorted_mput hs
  have s0 : Sorted (l.map (nodePtr nb)) := by unfold Sorted; rw [List.pairwise_map]; exact hs
  refine sorted_ext s1 (sorted_mput s0) fun q => ?_
  rw [mem_mput s0, List.mem_map, List.mem_map]
  constructor
  · rintro ⟨p, hp, rfl⟩
    rcases (mem_mput hs).1 hp with rfl | ⟨hp, hne⟩
    · exact .inl (by simp [nodePtr])
    · exact .inr ⟨⟨p, hp, by simp [nodePtr, hne]⟩, hne⟩
  · rintro (rfl | ⟨⟨p, hp, rfl⟩, hne⟩)
    · exact ⟨(id, x), (mem_mput hs).2 (.inl rfl), by simp [nodePtr]⟩
    · have hne' : p.1 ≠ id := hne
      exact ⟨p, (mem_mput hs).2 (.inr ⟨hp, hne'⟩), by simp [nodePtr, hne']⟩

set_option maxHeartbeats 2000000 in
theorem open_any {S : Nat → Prop} {b : Nat} {l : Nodes} (w : World) (h : BudgetIs S w b l) (hl : NodesOk l) (id up n : Int) :
    Calls Tryz.prog 175 #[.pointer (some ⟨b, 0, none⟩), .int .i64 id, .int .i64 up, .int .i64 n] w fun e w' => e = .returned (.int .i64 (openE l id up n)) ∧ BudgetIs (Gr S w w') w' b (openN l id up n) ∧ Fr S w w' := by
  have stay : openE l id up n ≠ 0 → openN l id up n = l := fun h => by unfold openN; rw [if_neg h]
  rcases asked_cases l up n with ha | ha | ha
  · by_cases hid : id < 1 ∨ 8 < id
    · have hE : openE l id up n = 2 := by unfold openE; rw [if_pos (by omega)]
      have HN := Lib.hid (stay (by rw [hE]; omega))
      have HE := Lib.hid hE
      clear stay
      clear hE
      go_enter Tryz.func175, Tryz.ntmps175
      go_wp2_with (go_at_call 109; refine (asked_any _ h _ _).mono ?_; rintro e w' ⟨rfl, rfl⟩; rw [ha])
      all_goals (go_ret; exact ⟨ret_int HE.out.symm, by rw [HN.out]; exact h.mono Gr.sub, Fr.refl _ _⟩)
    · have hid' : 1 ≤ id ∧ id ≤ 8 := by omega
      obtain ⟨hid1, hid2⟩ := hid'
      obtain ⟨bm, nb, hA⟩ := h
      have h' : BudgetIs S w b l := ⟨bm, nb, hA⟩
      have c1 := hA.blk.cell
      have hlk := hA.look id
      cases hx : mget id l with
      | some x =>
        have hE : openE l id up n = 5 := by unfold openE; rw [if_neg (by omega), if_neg (by simpa using ha), hx]; rfl
        have HN := Lib.hid (stay (by rw [hE]; omega))
        have HE := Lib.hid hE
        clear stay
        rw [hx] at hlk
        simp only [Option.map_some] at hlk
        clear hE hid
        go_enter Tryz.func175, Tryz.ntmps175
        go_wp2_with (go_at_call 109; refine (asked_any _ h' _ _).mono ?_; rintro e w' ⟨rfl, rfl⟩; rw [ha])
        go_ret
        exact ⟨ret_int HE.out.symm, by rw [HN.out]; exact h'.mono Gr.sub, Fr.refl _ _⟩
      | none =>
        rw [hx] at hlk
        simp only [Option.map_none] at hlk
        by_cases hlt : left l up < n
        · have hE : openE l id up n = 3 := by unfold openE; rw [if_neg (by omega), if_neg (by simpa using ha), hx, if_neg (by simp), if_pos hlt]
          have HN := Lib.hid (stay (by rw [hE]; omega))
          have HE := Lib.hid hE
          clear stay
          clear hE hid
          go_enter Tryz.func175, Tryz.ntmps175
          go_wp2_with (first
            | (go_at_call 109; refine (asked_any _ h' _ _).mono ?_; rintro e w' ⟨rfl, rfl⟩; rw [ha])
            | (go_at_call 71; refine (left_any _ h' hl _).mono ?_; rintro e w' ⟨rfl, hf⟩))
          go_ret
          exact ⟨ret_int HE.out.symm, by rw [HN.out]; exact (h'.nil hf).mono Gr.sub, hf.mono (fun _ h => h.elim)⟩
        · have hE : openE l id up n = 0 := by unfold openE; rw [if_neg (by omega), if_neg (by simpa using ha), hx, if_neg (by simp), if_neg hlt]
          have HN := Lib.hid (show openN l id up n = mput id ⟨up, n, 0⟩ l by unfold openN; rw [if_pos hE])
          have HE := Lib.hid hE
          clear stay
          have hS : Sorted (l.map (nodePtr nb)) := by unfold Sorted; rw [List.pairwise_map]; exact hl.1
          have HX := Lib.hid hx
          clear hE hid hx
          go_enter Tryz.func175, Tryz.ntmps175
          go_wp2_with (first
            | (go_at_call 109; refine (asked_any _ h' _ _).mono ?_; rintro e w' ⟨rfl, rfl⟩; rw [ha])
            | (go_at_call 71; refine (left_any _ h' hl _).mono ?_; rintro e w' ⟨rfl, hf⟩; have hA1 := hA.fr hf (fun _ _ h => h); have d1 := hA1.blk.cell; have hM := hA1.map)
            | (at_mapUpdate; refine wpList_mapSet rfl _ _ _ 197 rfl 3 194 Tryz.underlying197 Tryz.underlying3 bm _ _ _ rfl rfl rfl (hM.alloc _) hS ?_; intro ob hm2))
          go_ret
          have hsz : w.heap.size ≤ w'.heap.size := hf.size
          have hB := Blk.new w' [.int .i64 id, .int .i64 up, .int .i64 n, .int .i64 0] 196
          have hnb : b ≠ bm := hA1.blk.ne_map hM
          have hbm := hM.lt
          refine ⟨ret_int HE.out.symm, ?_, ?_⟩
          · rw [HN.out]
            refine ⟨bm, fun k => if k = id then w'.heap.size else nb k, .inl hA1.sb, .inl hA1.sm, (hA1.blk.alloc _).putOther _ _ hnb, by rw [mapsTo_open hl.1]; exact hm2, fun p hp => ?_⟩
            rcases (mem_mput hl.1).1 hp with rfl | ⟨hp, hne⟩
            · simp only [if_true]
              exact ⟨.inr ⟨hsz, by simp⟩, hB.putOther _ _ (by omega)⟩
            · simp only [if_neg hne]
              have := hA1.node p hp
              exact ⟨.inl this.1, (this.2.alloc _).putOther _ _ (this.2.ne_map hM)⟩
          · exact ((hf.mono (fun _ h => h.elim)).alloc _).putObj _ _ (fun _ => hA1.sm)
  · have hE : openE l id up n = 2 := by unfold openE; rw [if_pos (by omega)]
    have HN := Lib.hid (stay (by rw [hE]; omega))
    have HE := Lib.hid hE
    clear stay
    clear hE
    go_enter Tryz.func175, Tryz.ntmps175
    go_wp2_with (go_at_call 109; refine (asked_any _ h _ _).mono ?_; rintro e w' ⟨rfl, rfl⟩; rw [ha])
    go_ret
    exact ⟨ret_int HE.out.symm, by rw [HN.out]; exact h.mono Gr.sub, Fr.refl _ _⟩
  · by_cases hid : id < 1 ∨ 8 < id
    · have hE : openE l id up n = 2 := by unfold openE; rw [if_pos (by omega)]
      have HN := Lib.hid (stay (by rw [hE]; omega))
      have HE := Lib.hid hE
      clear stay
      clear hE
      go_enter Tryz.func175, Tryz.ntmps175
      go_wp2_with (go_at_call 109; refine (asked_any _ h _ _).mono ?_; rintro e w' ⟨rfl, rfl⟩; rw [ha])
      all_goals (go_ret; exact ⟨ret_int HE.out.symm, by rw [HN.out]; exact h.mono Gr.sub, Fr.refl _ _⟩)
    · have hE : openE l id up n = 4 := by unfold openE; rw [if_neg (by omega), if_pos (by rw [ha]; simp)]
      have HN := Lib.hid (stay (by rw [hE]; omega))
      have HE := Lib.hid hE
      clear stay
      have hid' : 1 ≤ id ∧ id ≤ 8 := by omega
      obtain ⟨hid1, hid2⟩ := hid'
      clear hE hid
      go_enter Tryz.func175, Tryz.ntmps175
      go_wp2_with (go_at_call 109; refine (asked_any _ h _ _).mono ?_; rintro e w' ⟨rfl, rfl⟩; rw [ha])
      go_ret
      exact ⟨ret_int HE.out.symm, by rw [HN.out]; exact h.mono Gr.sub, Fr.refl _ _⟩

set_option maxHeartbeats 1000000 in
theorem newBudget_any (w : World) (n : Int) (h0 : 0 ≤ n) (h1 : n ≤ 65536) :
    Calls Tryz.prog 63 #[.int .i64 n] w fun e w' => ∃ b, e = .returned (.tuple #[.pointer (some ⟨b, 0, none⟩), .int .i64 0]) ∧ BudgetIs (Gr Nil w w') w' b [(1, ⟨0, n, 0⟩)] ∧ Fr Nil w w' := by
  have hmm := @run_makeMap Tryz.prog
  have M := (MapIs.new w).alloc (.cells #[.int .i64 1, .int .i64 0, .int .i64 n, .int .i64 0] 196)
  have N := Blk.new (w.alloc (.map #[] 0)) [.int .i64 1, .int .i64 0, .int .i64 n, .int .i64 0] 196
  simp only [World.size_alloc] at N
  go_enter Tryz.func63, Tryz.ntmps63
  go_wp2_with (refine wpList_mapIns rfl _ _ _ 197 rfl 3 194 Tryz.underlying197 Tryz.underlying3 w.heap.size _ _ _ rfl rfl rfl M List.Pairwise.nil ?_; intro ob hm2)
  go_ret2
  have N2 : Blk ((((w.alloc (.map #[] 0)).alloc (.cells #[.int .i64 1, .int .i64 0, .int .i64 n, .int .i64 0] 196))).putObj w.heap.size ob) (w.heap.size + 1) _ := N.putOther _ _ (by omega)
  have B := Blk.new ((((w.alloc (.map #[] 0)).alloc (.cells #[.int .i64 1, .int .i64 0, .int .i64 n, .int .i64 0] 196))).putObj w.heap.size ob) [.map (some w.heap.size)] 199
  simp only [World.putObj_size, World.size_alloc] at B
  refine ⟨w.heap.size + 1 + 1, rfl, ⟨w.heap.size, fun _ => w.heap.size + 1, .inr ⟨by omega, by simp⟩, .inr ⟨by omega, by simp; omega⟩, B, hm2.alloc _, fun p hp => ?_⟩, (((((Fr.refl _ _).alloc _).alloc _).putObj _ _ (fun h => absurd h (by omega))).alloc _)⟩
  rw [List.mem_singleton.1 hp]
  exact ⟨.inr ⟨by omega, by simp⟩, N2.alloc _⟩
end Go.Priory
