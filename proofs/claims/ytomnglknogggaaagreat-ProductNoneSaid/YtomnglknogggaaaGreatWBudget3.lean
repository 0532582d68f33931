/- What Close of package budget does. Conditions: the numbers in the budget are at most 65536, its Ids from 1 to 8. -/
import Derived.Test.YtomnglknogggaaaGreatWBudget2
namespace Go.Priory
open Go.RowKit Go.Proofs
set_option maxRecDepth 100000

def closed (id u : Int) (p : Int × Node) : Int × Node := (p.1, { p.2 with up := if p.2.up = id then u else p.2.up })
theorem nodePtr_closed (nb : Int → Nat) (id u : Int) (l : Nodes) : (l.map (closed id u)).map (nodePtr nb) = l.map (nodePtr nb) := by
  simp [closed, nodePtr, Function.comp_def]

set_option maxHeartbeats 2000000 in
theorem close_any {S : Nat → Prop} {b : Nat} {l : Nodes} (w : World) (h : BudgetIs S w b l) (hl : NodesOk l) (id : Int) :
    Calls Tryz.prog 178 #[.pointer (some ⟨b, 0, none⟩), .int .i64 id] w fun e w' => e = .returned (.int .i64 (closeE l id)) ∧ BudgetIs S w' b (closeN l id) ∧ Fr S w w' := by
  by_cases ha : askedE l id 0 = 0
  · obtain ⟨x, hx⟩ := asked_ok ha
    obtain ⟨bm, nb, hA⟩ := h
    have h' : BudgetIs S w b l := ⟨bm, nb, hA⟩
    have c1 := hA.blk.cell
    have c2 := (hA.node _ (mget_mem hx)).2.cell
    have hlk := hA.look_some hx
    unfold nodeCells at c2
    simp only at c2
    by_cases hbad : id = 1 ∨ x.used ≠ 0
    · have HE := Lib.hid (show closeE l id = 9 by unfold closeE; rw [if_neg (by simpa using ha), hx, if_pos (by simpa using hbad)])
      have HN := Lib.hid (show closeN l id = l by unfold closeN; rw [if_neg (by rw [HE.out]; omega)])
      by_cases h1 : id = 1
      · have hb1 : (id == 1) = true := by simpa using h1
        clear h1 hbad
        go_enter Tryz.func178, Tryz.ntmps178
        go_wp2_with (go_at_call 109; refine (asked_any _ h' _ _).mono ?_; rintro e w' ⟨rfl, rfl⟩; rw [ha])
        go_ret
        exact ⟨ret_int HE.out.symm, by rw [HN.out]; exact h', Fr.refl _ _⟩
      · have hb1 : (id == 1) = false := by simpa using h1
        have hb2 : (x.used != 0) = true := by simpa [h1] using hbad
        clear h1 hbad
        go_enter Tryz.func178, Tryz.ntmps178
        go_wp2_with (go_at_call 109; refine (asked_any _ h' _ _).mono ?_; rintro e w' ⟨rfl, rfl⟩; rw [ha])
        go_ret
        exact ⟨ret_int HE.out.symm, by rw [HN.out]; exact h', Fr.refl _ _⟩
    · have hE0 : closeE l id = 0 := by unfold closeE; rw [if_neg (by simpa using ha), hx, if_neg (by simpa using hbad)]
      have HE := Lib.hid hE0
      have HN := Lib.hid (show closeN l id = (mdel id l).map (closed id x.up) by unfold closeN; rw [if_pos hE0, hx]; rfl)
      have hb1 : (id == 1) = false := by
        have : ¬ id = 1 := fun e => hbad (.inl e)
        simpa using this
      have hb2 : (x.used != 0) = false := by
        have : x.used = 0 := by
          by_cases h : x.used = 0
          · exact h
          · exact absurd (.inr h) hbad
        simp [this]
      clear hbad hE0
      have M := hA.map
      have hbm := hA.blk.ne_map M
      have eD : mdel id (l.map (nodePtr nb)) = (mdel id l).map (nodePtr nb) := by
        unfold mdel; rw [List.filter_map]; rfl
      have hxl := mget_mem hx
      have HX := Lib.hid hx
      clear hx
      go_enter Tryz.func178, Tryz.ntmps178
      go_wp2_with (first
        | (go_at_call 109; refine (asked_any _ h' _ _).mono ?_; rintro e w' ⟨rfl, rfl⟩; rw [ha])
        | (at_delete; refine wpList_mapDel rfl _ _ 197 3 rfl 3 194 Tryz.underlying197 Tryz.underlying3 bm _ _ rfl rfl M ?_; intro ob hm2; have c3 := (hA.blk.putOther bm ob hbm).cell; obtain ⟨o9, hrg, it⟩ := hm2.range (P := Tryz.prog) Tryz.underlying197))
      have f0 : Fr S w ((w.putObj bm ob).alloc o9) := ((Fr.refl _ _).putObj _ _ (fun _ => hA.sm)).alloc _
      have N0 : ∀ p ∈ l, Blk ((w.putObj bm ob).alloc o9) (nb p.1) (nodeCells p) := fun p hp => (((hA.node p hp).2.putOther _ _ ((hA.node p hp).2.ne_map M)).alloc _)
      have B0 : Blk ((w.putObj bm ob).alloc o9) b [.map (some bm)] := (hA.blk.putOther _ _ hbm).alloc _
      simp only [World.putObj_size] at it
      rw [eD] at it
      have hmd : ∀ p ∈ mdel id l, p ∈ l ∧ p.1 ≠ id := fun p hp => mem_mdel.1 hp
      clear c1 c2 c3 hlk hrg hm2
      have hsz : ((w.putObj bm ob).alloc o9).heap.size = w.heap.size + 1 := by simp
      generalize ((w.putObj bm ob).alloc o9) = W at *
      go_loopw [] (fun wr => ∃ done rest, Iter wr w.heap.size bm ((mdel id l).map (nodePtr nb)) (rest.map (nodePtr nb)) ∧ (mdel id l).Perm (done ++ rest) ∧
          (∀ p ∈ done, Blk wr (nb p.1) (nodeCells (closed id x.up p))) ∧ (∀ p ∈ rest, Blk wr (nb p.1) (nodeCells p)) ∧ Blk wr (nb id) (nodeCells (id, x)) ∧ Blk wr b [.map (some bm)] ∧ Fr S w wr)
        (fun wr => toCome wr w.heap.size bm)
      case atStart =>
        exact ⟨[], mdel id l, it, by simp, by simp, fun p hp => N0 p (hmd p hp).1, N0 _ hxl, B0, f0⟩
      case round =>
        obtain ⟨done, rest, hit, hp, hd, hr, hX, hB, hf⟩ := hrel
        have hne : w.heap.size ≠ bm := by have := M.lt; omega
        rcases hit.step (P := Tryz.prog) hne 0 with ⟨rfl, hn⟩ | ⟨p, rest', w1, hp', hn, hen, hit', hf1, hsz1⟩
        · go_wp2
          go_ret
          refine ⟨ret_int HE.out.symm, ?_, hf⟩
          rw [HN.out]
          refine ⟨bm, nb, hA.sb, hA.sm, hB, by rw [nodePtr_closed]; exact hit.map, fun q hq => ?_⟩
          obtain ⟨p, hp1, rfl⟩ := List.mem_map.1 hq
          exact ⟨(hA.node p (hmd p hp1).1).1, hd p (by have := hp.mem_iff.1 hp1; simpa using this)⟩
        · have e1 : (nodePtr nb p).1 = p.1 := rfl
          have e2 : (nodePtr nb p).2 = .pointer (some ⟨nb p.1, 0, none⟩) := rfl
          rw [e1, e2] at hn hen
          have hpr := hp'.mem_iff.2 (.head _)
          have hpm := hmd p (hp.mem_iff.2 (List.mem_append_right _ hpr))
          have hlt : ∀ q ∈ l, nb q.1 ≠ w.heap.size := fun q hq => by have := (hA.node q hq).2.lt; omega
          have K1 : ∀ q ∈ l, ∀ c, Blk wr (nb q.1) c → Blk w1 (nb q.1) c := fun q hq c h => h.fr hf1 (hlt q hq)
          have P1 := K1 p hpm.1 _ (hr p hpr)
          have X1 := K1 _ hxl _ hX
          have B1 : Blk w1 b [.map (some bm)] := hB.fr hf1 (by have := hA.blk.lt; omega)
          have hf2 : Fr S w w1 := hf.trans hf1 (fun y hy e => by omega)
          have hpx : nb p.1 ≠ nb id := fun e => hpm.2 (hA.inj p hpm.1 _ hxl e)
          have hpp : (mdel id l).Perm ((done ++ [p]) ++ rest') := hp.trans (by simpa using hp'.append_left done)
          have hrest : ∀ q ∈ rest', q ∈ rest ∧ q ∈ l := fun q hq => ⟨hp'.mem_iff.2 (.tail _ hq), (hmd q (hp.mem_iff.2 (List.mem_append_right _ (hp'.mem_iff.2 (.tail _ hq))))).1⟩
          have hdone : ∀ q ∈ done, q ∈ l := fun q hq => (hmd q (hp.mem_iff.2 (List.mem_append_left _ hq))).1
          have hnd : (done ++ p :: rest').Nodup := by
            have h1 : (mdel id l).Nodup := List.Pairwise.of_map (·.1) (fun a b h e => h (by rw [e])) (sorted_mdel hl.1).nodup
            have := (hpp.nodup_iff).1 h1
            simpa using this
          have nbne : ∀ q ∈ l, q ≠ p → nb q.1 ≠ nb p.1 := fun q hq hne e => hne (by
            have e1 := hA.inj q hq p hpm.1 e
            have g1 := mget_of_mem hl.1.nodup (show (q.1, q.2) ∈ l from hq)
            have g2 := mget_of_mem hl.1.nodup (show (p.1, p.2) ∈ l from hpm.1)
            rw [e1, g2] at g1
            exact Prod.ext e1 (Option.some.inj g1).symm)
          have c1 := P1.cell
          have c2 := X1.cell
          have g1 := P1.frozen
          unfold nodeCells at c1 c2
          simp only at c2
          have HD := Lib.hid (And.intro hd hr)
          have hlen : rest'.length < rest.length := by have := hp'.length_eq; simp at this; omega
          clear hd hr e1 e2 hp hp'
          go_wp2
          · rename_i ht
            have ht' : p.2.up = id := by simpa using ht
            have hcl : nodeCells (closed id x.up p) = (nodeCells p).set 1 (.int .i64 x.up) := by simp [nodeCells, closed, ht']
            refine ⟨⟨done ++ [p], rest', hit'.of (Below.heap_setCell _ _ _ _ (by have := hlt p hpm.1; simp; omega)) (Below.heap_setCell _ _ _ _ (fun e => P1.ne_map hit'.map e.symm)), hpp, ?_, ?_, X1.setOther _ _ (Ne.symm hpx), B1.setOther _ _ (fun e => ?_), hf2.setCell _ _ (fun _ => (hA.node p hpm.1).1)⟩, ?_⟩
            · intro q hq
              rcases List.mem_append.1 hq with hq | hq
              · have hqp : q ≠ p := fun e => (List.nodup_append.1 hnd).2.2 q hq p (.head _) e
                exact (K1 q (hdone q hq) _ (HD.out.1 q hq)).setOther _ _ (nbne q (hdone q hq) hqp)
              · rw [List.mem_singleton.1 hq, hcl]
                exact P1.set 1 _
            · intro q hq
              have hqp : q ≠ p := fun e => (List.nodup_cons.1 (List.nodup_append.1 hnd).2.1).1 (e ▸ hq)
              exact (K1 q (hrest q hq).2 _ (HD.out.2 q (hrest q hq).1)).setOther _ _ (nbne q (hrest q hq).2 hqp)
            · have h1 := B1.cell 0
              have h2 := P1.cell 0
              rw [e, h2] at h1
              simp [nodeCells] at h1
            · have hi : Iter (w1.setCell ⟨nb p.1, 1, none⟩ (.int .i64 x.up)) _ _ _ _ := hit'.of (Below.heap_setCell _ _ _ _ (by have := hlt p hpm.1; simp; omega)) (Below.heap_setCell _ _ _ _ (fun e => P1.ne_map hit'.map e.symm))
              rw [hi.toCome, hit.toCome]; simpa using hlen
          · rename_i ht
            have ht' : ¬ p.2.up = id := by simpa using ht
            have hcl : closed id x.up p = p := by obtain ⟨k, n⟩ := p; simp only [closed] at ht' ⊢; rw [if_neg ht']
            refine ⟨⟨done ++ [p], rest', hit', hpp, ?_, ?_, X1, B1, hf2⟩, ?_⟩
            · intro q hq
              rcases List.mem_append.1 hq with hq | hq
              · exact K1 q (hdone q hq) _ (HD.out.1 q hq)
              · rw [List.mem_singleton.1 hq, hcl]; exact P1
            · exact fun q hq => K1 q (hrest q hq).2 _ (HD.out.2 q (hrest q hq).1)
            · rw [hit'.toCome, hit.toCome]; simpa using hlen
  · have HE := Lib.hid (show closeE l id = askedE l id 0 by unfold closeE; rw [if_pos ha])
    have HN := Lib.hid (show closeN l id = l by unfold closeN; rw [if_neg (by rw [HE.out]; exact ha)])
    have hab := nz ha
    clear ha
    go_enter Tryz.func178, Tryz.ntmps178
    go_wp2_with (go_at_call 109; refine (asked_any _ h _ _).mono ?_; rintro e w' ⟨rfl, rfl⟩)
    go_ret
    exact ⟨ret_int HE.out.symm, by rw [HN.out]; exact h, Fr.refl _ _⟩
end Go.Priory
