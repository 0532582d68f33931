/- The law of a statement that draws its order, where what the last operations of the end do to the world is of no matter to the head, which lies ahead of them. Condition: a Bool over the text of the statement. -/
import Derived.Test.YtomnglknogggaaaGreatDrawF
namespace Go.Priory
open Go.RowKit

def wpParG (P : Program) (ops : Array Oper) (C : List Nat) (U : World → Prop) (R : Act → World → Prop) : Nat → List Nat → Act → World → Prop
  | _, [], a, w => R a w
  | 0, _ :: _, _, _ => False
  | n + 1, T, a, w => ∀ t ∈ T, (∀ s ∈ T, edgeB ops t s = false) → ∀ o, ops[t]? = some o →
    if Region.wanted o (yielded ops a.tmps) then Oper.seqUpon P (fun v w' => (t ∈ C ∨ U w') ∧ wpParG P ops C U R n (T.erase t) (a.put o.dst v) w') ((execOp a.eval o).run P w)
    else U w ∧ wpParG P ops C U R n (T.erase t) (a.put o.dst undef) w
def wpSeqG (P : Program) (ops : Array Oper) (C : List Nat) (U : World → Prop) (R : Act → World → Prop) : List Nat → Act → World → Prop
  | [], a, w => R a w
  | t :: T, a, w => ∀ o, ops[t]? = some o →
    if Region.wanted o (yielded ops a.tmps) then Oper.seqUpon P (fun v w' => (t ∈ C ∨ U w') ∧ wpSeqG P ops C U R T (a.put o.dst v) w') ((execOp a.eval o).run P w)
    else U w ∧ wpSeqG P ops C U R T (a.put o.dst undef) w
theorem wpSeqG_nil {P : Program} {ops : Array Oper} {C : List Nat} {U : World → Prop} {R : Act → World → Prop} {a : Act} {w : World} (h : R a w) : wpSeqG P ops C U R [] a w := h
theorem wpSeqG_step {P : Program} {l : List Oper} {C : List Nat} {U : World → Prop} {R : Act → World → Prop} {t : Nat} {T : List Nat} {a : Act} {w : World} {o : Oper} (ho : l[t]? = some o)
    (h : ∀ K : Act → World → Prop, (∀ a w, wpSeqG P l.toArray C U R T a w → K a w) →
      if Region.wanted o (yielded l.toArray a.tmps) then Oper.seqUpon P (fun v w' => (t ∈ C ∨ U w') ∧ K (a.put o.dst v) w') ((execOp a.eval o).run P w) else U w ∧ K (a.put o.dst undef) w) : wpSeqG P l.toArray C U R (t :: T) a w := by
  have := h _ (fun _ _ h => h)
  unfold wpSeqG
  intro o' ho'
  rw [List.getElem?_toArray, ho] at ho'
  cases ho'
  exact this
theorem parG_of_seq {P : Program} {ops : Array Oper} {C : List Nat} {U : World → Prop} {R : Act → World → Prop} : ∀ (T : List Nat), T.Nodup → chainT ops T = true → (∀ t ∈ T, t < ops.size) → ∀ (a : Act) (w : World), wpSeqG P ops C U R T a w → wpParG P ops C U R T.length T a w
  | [], _, _, _, a, w, h => by unfold wpParG; simpa [wpSeqG] using h
  | t :: T, hn, hc, hl, a, w, h => by
    have ho : ops[t]? = some (ops[t]'(hl t (.head _))) := Array.getElem?_eq_getElem (hl t (.head _))
    unfold wpSeqG at h
    replace h := h _ ho
    unfold wpParG
    intro x hx hfree o hox
    have hxt : x = t := by
      rcases List.mem_cons.1 hx with rfl | hx'
      · rfl
      · exfalso
        obtain ⟨A, B, hAB⟩ := List.append_of_mem hx'
        rcases List.eq_nil_or_concat A with rfl | ⟨A, s, rfl⟩
        · have he : edgeB ops x t = true := chain_next [] t x B (by rw [hAB] at hc; simpa using hc)
          rw [hfree t (.head _)] at he; cases he
        · simp only [List.concat_eq_append] at hAB
          have he : edgeB ops x s = true := chain_next (t :: A) s x B (by rw [hAB] at hc; simpa using hc)
          rw [hfree s (by rw [hAB]; simp)] at he; cases he
    subst hxt
    rw [ho] at hox; cases hox
    have hc' : chainT ops T = true := by
      cases T with
      | nil => rfl
      | cons y T => simp only [chainT, Bool.and_eq_true] at hc; exact hc.2
    have ih := parG_of_seq (P := P) (C := C) (U := U) (R := R) T (List.nodup_cons.1 hn).2 hc' (fun s hs => hl s (.tail _ hs))
    rw [List.erase_cons_head]
    split
    · rename_i hw
      rw [if_pos hw] at h
      exact Oper.seqUpon_mono (fun v w' hvw => ⟨hvw.1, ih _ _ hvw.2⟩) h
    · rename_i hw
      rw [if_neg hw] at h
      exact ⟨h.1, ih _ _ h.2⟩
/-- In which state the walk of whatever order is. -/
structure DrawInvG (P : Program) (ops : Array Oper) (C : List Nat) (U : World → Prop) (R : Act → World → Prop) (T : List Nat) (val : Nat → Value) (listed : Array Bool) (a : Act) (w : World) : Prop where
  size : listed.size = ops.size
  closed : Closed ops listed
  cls : ((∀ t ∈ T, listed.getD t false = false) ∨ ∃ i ∈ headOf ops.size T, listed.getD i false = false) → U w
  head : ∀ i ∈ headOf ops.size T, listed.getD i false = false → ∃ o, ops[i]? = some o ∧ YieldsIn P ops (InU U) o (val i) (fill ops val (headOf ops.size T) listed a)
  tail : ∃ T2, (∀ t, t ∈ T2 ↔ t ∈ T ∧ listed.getD t false = false) ∧ T2.Nodup ∧
    (((∀ t ∈ T, listed.getD t false = false) ∧ ∀ x : UCls U, wpParG P ops C U R T2.length T2 (fill ops val (headOf ops.size T) listed a) x.w) ∨
     ((∃ t ∈ T, listed.getD t false = true) ∧ wpParG P ops C U R T2.length T2 (fill ops val (headOf ops.size T) listed a) w))

section
variable {P : Program} {ops : Array Oper} {C : List Nat} {U : World → Prop} {T : List Nat} {listed : Array Bool} {a : Act} {w : World} {val : Nat → Value}

theorem wpAny_drawG (D : DrawSpec ops T) (hfirst : ∀ t ∈ C, ∀ x ∈ headOf ops.size T, reachB ops 12 t x = true) {Q : Exit → Act → World → Prop} : ∀ (fuel : Nat) (listed : Array Bool) (a : Act) (w : World),
    ((List.range ops.size).filter fun i => !listed.getD i false).length ≤ fuel → DrawInvG P ops C U (fun a w => Q .normal a w) T val listed a w → wpAny P .any ops Q fuel listed a w := by
  -- where nothing is ready all is done
  have done : ∀ (listed : Array Bool) (a : Act) (w : World), DrawInvG P ops C U (fun a w => Q .normal a w) T val listed a w → (∀ i, i < ops.size → listed.getD i false = true) → Q .normal a w := by
    intro listed a w I hall
    have e : fill ops val (headOf ops.size T) listed a = a := by
      unfold fill
      rw [List.filter_eq_nil_iff.2]
      · rfl
      · intro j hj
        rw [hall j (mem_headOf.1 hj).1]; simp
    obtain ⟨T2, h1, _, h3⟩ := I.tail
    have e2 : T2 = [] := by
      cases T2 with
      | nil => rfl
      | cons t T3 =>
        have := (h1 t).1 (.head _)
        rw [hall t (D.lt t this.1)] at this; cases this.2
    subst e2
    rw [e] at h3
    rcases h3 with ⟨hn, h3⟩ | ⟨_, h3⟩
    · have := h3 ⟨w, I.cls (.inl hn)⟩
      unfold wpParG at this; exact this
    · unfold wpParG at h3; exact h3
  have some_ready : ∀ (listed : Array Bool), listed.size = ops.size → Region.ready .any ops listed = [] → ∀ n i, i < n → i < ops.size → listed.getD i false = true := by
    intro listed hs hr n
    induction n with
    | zero => intro i hi; omega
    | succ n ih =>
      intro i hi hlt
      cases hu : listed.getD i false with
      | true => rfl
      | false =>
        exfalso
        have : i ∈ Region.ready .any ops listed := by
          refine mem_ready.2 ⟨by simp [hs, hlt] at hu ⊢; exact hu, ops[i], Array.getElem?_eq_getElem hlt, fun e he hb => ?_⟩
          have hed : edgeB ops i e.on = true := edge_mk (Array.getElem?_eq_getElem hlt) he hb
          have := D.down i e.on hed
          exact ih e.on (by omega) (by omega)
        rw [hr] at this; cases this
  intro fuel
  induction fuel with
  | zero =>
    intro listed a w hc I
    have hall : ∀ i, i < ops.size → listed.getD i false = true := by
      intro i hi
      have : ((List.range ops.size).filter fun i => !listed.getD i false) = [] := List.eq_nil_of_length_eq_zero (by omega)
      have := (List.filter_eq_nil_iff.1 this) i (List.mem_range.2 hi)
      simpa using this
    refine ⟨?_, done listed a w I hall⟩
    cases hr : Region.ready .any ops listed with
    | nil => rfl
    | cons i l =>
      exfalso
      have : i ∈ Region.ready .any ops listed := by rw [hr]; exact .head _
      have h1 := (mem_ready.1 this).1
      have := hall i (by rw [← I.size]; exact lt_of_unlisted h1)
      rw [unlisted_of h1] at this; cases this
  | succ fuel ih =>
    intro listed a w hc I
    refine ⟨fun hr => done listed a w I fun i hi => some_ready listed I.size hr (i + 1) i (by omega) hi, fun i hr => ?_⟩
    have hru := (mem_ready.1 hr).1
    have hu := unlisted_of hru
    have hlt : i < ops.size := by rw [← I.size]; exact lt_of_unlisted hru
    have ho : ops[i]? = some ops[i] := Array.getElem?_eq_getElem hlt
    have hd : dstAt ops i = (ops[i]).dst := by simp [dstAt, ho]
    have hsel := Region.noSelect_spec D.nosel i ops[i]
    have blind := ready_blind D hr ho
    have hex : execOp (fill ops val (headOf ops.size T) listed a).eval ops[i] = execOp a.eval ops[i] := execOp_putAll (fun cs b => hsel cs b ho) blind
    have hwa : Region.wanted ops[i] (yielded ops (fill ops val (headOf ops.size T) listed a).tmps) = Region.wanted ops[i] (yielded ops a.tmps) := wanted_putAll blind
    have hc' : ((List.range ops.size).filter fun j => !(listed.setIfInBounds i true).getD j false).length ≤ fuel := by
      obtain ⟨l1, l2, e1, e2⟩ := filter_set (listed := listed) (List.range ops.size) List.nodup_range (List.mem_range.2 hlt) (by rw [I.size]; exact hlt) hu
      rw [e2]; rw [e1] at hc; simp at hc ⊢; omega
    have hcl := I.closed.set hr
    have hsz : (listed.setIfInBounds i true).size = ops.size := by simp [I.size]
    have keepHead : ∀ (a' : Act), fill ops val (headOf ops.size T) (listed.setIfInBounds i true) a' = fill ops val (headOf ops.size T) listed a →
        ∀ j ∈ headOf ops.size T, (listed.setIfInBounds i true).getD j false = false → ∃ o, ops[j]? = some o ∧ YieldsIn P ops (InU U) o (val j) (fill ops val (headOf ops.size T) (listed.setIfInBounds i true) a') := by
      intro a' e j hj hju
      rw [e]
      refine I.head j hj ?_
      cases hl : listed.getD j false with
      | false => rfl
      | true => rw [getD_set_true hl] at hju; cases hju
    by_cases hiT : i ∈ T
    · -- the next of the forced end
      obtain ⟨T2, h1, h2, h3⟩ := I.tail
      have hi2 : i ∈ T2 := (h1 i).2 ⟨hiT, hu⟩
      have hpar : wpParG P ops C U (fun a w => Q .normal a w) T2.length T2 (fill ops val (headOf ops.size T) listed a) w := by
        rcases h3 with ⟨hn, h3⟩ | ⟨_, h3⟩
        · exact h3 ⟨w, I.cls (.inl hn)⟩
        · exact h3
      have hfree : ∀ s ∈ T2, edgeB ops i s = false := by
        intro s hs
        cases he : edgeB ops i s with
        | false => rfl
        | true =>
          have := ready_edge hr he
          rw [((h1 s).1 hs).2] at this; cases this
      have hlen : T2.length = (T2.erase i).length + 1 := by
        rw [List.length_erase_of_mem hi2]; have := List.length_pos_of_mem hi2; omega
      have hseq : if Region.wanted ops[i] (yielded ops (fill ops val (headOf ops.size T) listed a).tmps) then
          Oper.seqUpon P (fun v w' => (i ∈ C ∨ U w') ∧ wpParG P ops C U (fun a w => Q .normal a w) (T2.erase i).length (T2.erase i) ((fill ops val (headOf ops.size T) listed a).put (ops[i]).dst v) w') ((execOp (fill ops val (headOf ops.size T) listed a).eval ops[i]).run P w)
          else U w ∧ wpParG P ops C U (fun a w => Q .normal a w) (T2.erase i).length (T2.erase i) ((fill ops val (headOf ops.size T) listed a).put (ops[i]).dst undef) w := by
        rw [hlen] at hpar
        cases T2 with
        | nil => cases hi2
        | cons t0 T0 =>
          unfold wpParG at hpar
          exact hpar i hi2 hfree _ ho
      have next : ∀ v w', (i ∈ C ∨ U w') → wpParG P ops C U (fun a w => Q .normal a w) (T2.erase i).length (T2.erase i) ((fill ops val (headOf ops.size T) listed a).put (ops[i]).dst v) w' →
          wpAny P .any ops Q fuel (listed.setIfInBounds i true) (a.put (ops[i]).dst v) w' := by
        intro v w' hw' hs
        have ef : fill ops val (headOf ops.size T) (listed.setIfInBounds i true) (a.put (ops[i]).dst v) = (fill ops val (headOf ops.size T) listed a).put (ops[i]).dst v := by rw [← hd]; exact fill_tail D hiT v
        have newcls : ((∀ t ∈ T, (listed.setIfInBounds i true).getD t false = false) ∨ ∃ j ∈ headOf ops.size T, (listed.setIfInBounds i true).getD j false = false) → U w' := by
          rintro (hn | ⟨j, hj, hju⟩)
          · have := hn i hiT; rw [getD_set_self (by rw [I.size]; exact hlt)] at this; cases this
          · rcases hw' with hC | hU
            · have := hcl.reach 12 i j (hfirst i hC j hj) (getD_set_self (by rw [I.size]; exact hlt))
              rw [hju] at this; cases this
            · exact hU
        refine ih _ _ _ hc' ⟨hsz, hcl, newcls, ?_, T2.erase i, ?_, h2.erase i, .inr ⟨⟨i, hiT, getD_set_self (by rw [I.size]; exact hlt)⟩, by rw [ef]; exact hs⟩⟩
        · intro j hj hju
          have hju' : listed.getD j false = false := by
            cases hl : listed.getD j false with
            | false => rfl
            | true => rw [getD_set_true hl] at hju; cases hju
          obtain ⟨o, hoj, hy⟩ := I.head j hj hju'
          refine ⟨o, hoj, ?_⟩
          rw [ef]
          have hns : ∀ d, (ops[i]).dst = some d → d ∉ o.looksAt ops := by
            intro d hdd hm
            have hs' : seesB ops j i = true := (sees_iff hoj).2 ⟨d, by rw [hd]; exact hdd, hm⟩
            rcases D.headSees j hj i hlt (fun e => (mem_headOf.1 hj).2 (e ▸ hiT)) hs' with this | this
            · exact (mem_headOf.1 this.1).2 hiT
            · rw [ready_edge hr this.2] at hju'; cases hju'
          exact hy.of_same (execOp_put o (fun cs b => Region.noSelect_spec D.nosel j o cs b hoj) _ _ _ hns) (wanted_put o _ _ _ hns)
        · intro t
          rw [h2.mem_erase_iff, h1 t]
          constructor
          · rintro ⟨hne, ht, hl⟩; exact ⟨ht, by rw [getD_set_ne false (Ne.symm hne)]; exact hl⟩
          · rintro ⟨ht, hl⟩
            have hne : t ≠ i := by
              rintro rfl
              rw [getD_set_self (by rw [I.size]; exact hlt)] at hl; cases hl
            exact ⟨hne, ht, by rw [getD_set_ne false (Ne.symm hne)] at hl; exact hl⟩
      unfold wpOp
      simp only [ho]
      rw [hwa, hex] at hseq
      split
      · rename_i hw
        rw [if_pos hw] at hseq
        refine .inl ?_
        unfold Oper.wp
        exact Oper.upon_of_seq (Oper.seqUpon_mono (fun v w' hvw => next v w' hvw.1 hvw.2) hseq)
      · rename_i hw
        rw [if_neg hw] at hseq
        exact next _ _ (.inr hseq.1) hseq.2
    · -- one of the head
      have hiH : i ∈ headOf ops.size T := mem_headOf.2 ⟨hlt, hiT⟩
      obtain ⟨o, ho', hy⟩ := I.head i hiH hu
      rw [ho] at ho'; cases ho'
      have ef : fill ops val (headOf ops.size T) (listed.setIfInBounds i true) (a.put (ops[i]).dst (val i)) = fill ops val (headOf ops.size T) listed a := by rw [← hd]; exact fill_head D hiH I.size hu
      obtain ⟨T2, h1, h2, h3⟩ := I.tail
      have nT : ∀ t ∈ T, (listed.setIfInBounds i true).getD t false = listed.getD t false := fun t ht => getD_set_ne false (fun e => hiT (e ▸ ht))
      have hUw : U w := I.cls (.inr ⟨i, hiH, hu⟩)
      have next : ∀ w', U w' → (w' = w ∨ ∀ t ∈ T, listed.getD t false = false) → wpAny P .any ops Q fuel (listed.setIfInBounds i true) (a.put (ops[i]).dst (val i)) w' := by
        intro w' hw' hor
        refine ih _ _ _ hc' ⟨hsz, hcl, (fun _ => hw'), keepHead _ ef, T2, fun t => (h1 t).trans ⟨fun h => ⟨h.1, by rw [nT t h.1]; exact h.2⟩, fun h => ⟨h.1, by rw [nT t h.1] at h; exact h.2⟩⟩, h2, ?_⟩
        rw [ef]
        rcases h3 with ⟨hn, h3⟩ | ⟨⟨t, ht, hl⟩, h3⟩
        · exact .inl ⟨fun t ht => by rw [nT t ht]; exact hn t ht, h3⟩
        · rcases hor with rfl | he
          · exact .inr ⟨⟨t, ht, by rw [nT t ht]; exact hl⟩, h3⟩
          · rw [he t ht] at hl; cases hl
      unfold wpOp
      simp only [ho]
      rcases hy with ⟨hw, hv⟩ | ⟨hw, hv⟩
      · rw [hwa] at hw
        rw [if_pos hw]
        refine .inl ?_
        have hq := hv w ⟨⟨w, hUw⟩, rfl⟩
        unfold Oper.quietAt at hq
        rw [hex] at hq
        refine Oper.wp_of_inv (U := U) hq (next w (hUw) (.inl rfl)) fun f args hrun x => next x.w x.fr (.inr ?_)
        -- a call of the head: nothing of the end has come up
        intro t ht
        cases hl : listed.getD t false with
        | false => rfl
        | true =>
          exfalso
          have hcall : callB ops i = true := by
            cases hcb : callB ops i with
            | true => rfl
            | false => exact (not_enter ho hcb _ _ _ _ _ hrun).elim
          have hre := D.early t ht i hiH hcall
          have := I.closed.reach 4 t i hre hl
          rw [hu] at this; cases this
      · rw [hwa] at hw
        rw [if_neg (by rw [hw]; simp)]
        rw [hv] at next
        exact next w (hUw) (.inl rfl)

theorem wp_draw_G {id : Nat} {l : List Oper} {Q : Exit → Act → World → Prop} (T C : List Nat) (U : World → Prop) (hU : U w.drew) (hm : P.follows .mixedOrders = true) (hB : (drawOkP l.toArray T && C.all fun t => (headOf l.toArray.size T).all fun h => reachB l.toArray 12 t h) = true)
    (h : wpQuiet P l.toArray (InU U) (fun a' => ∀ x : UCls U, wpParG P l.toArray C U (fun a w => Q .normal a w) T.length T a' x.w) (opsOf l.toArray (headOf l.toArray.size T)) a) :
    (Code.region id l.toArray true).wp P Q a w := by
  simp only [Bool.and_eq_true, List.all_eq_true] at hB
  have D := drawSpec hB.1
  refine wp_region_any hm ?_
  obtain ⟨val, h1, h2⟩ := head_vals _ a headOf_nodup (fun i hi => (mem_headOf.1 hi).1) h
  have hf : ∀ i, (Array.replicate l.toArray.size false).getD i false = false := fun i => by
    rcases Nat.lt_or_ge i l.toArray.size with h | h
    · simp at h; simp [h]
    · simp at h; simp [h]
  have efil : ((headOf l.toArray.size T).filter fun j => !(Array.replicate l.toArray.size false).getD j false) = headOf l.toArray.size T :=
    List.filter_eq_self.2 fun j _ => by rw [hf]; rfl
  refine wpAny_drawG (U := U) (T := T) (val := val) D (fun t ht x hx => hB.2 t ht x hx) _ _ _ _ ?_ ⟨by simp, (fun i j hi => by rw [hf] at hi; cases hi), (fun _ => hU), ?_, T, (fun t => ⟨fun h => ⟨h, hf t⟩, fun h => h.1⟩), D.nodup, .inl ⟨fun t _ => hf t, ?_⟩⟩
  · exact Nat.le_trans (List.length_filter_le _ _) (by simp)
  · intro i hi _
    obtain ⟨A, B, e⟩ := List.append_of_mem hi
    obtain ⟨o, ho, hy⟩ := h2 A i B e
    refine ⟨o, ho, ?_⟩
    have hlt := (mem_headOf.1 hi).1
    have blind : ∀ j ∈ i :: B, ∀ d, dstAt l.toArray j = some d → d ∉ o.looksAt l.toArray := by
      intro j hj d hd hm'
      have hsee : seesB l.toArray i j = true := (sees_iff ho).2 ⟨d, hd, hm'⟩
      by_cases hij : i = j
      · subst hij
        rw [D.headSelf i hi] at hsee; cases hsee
      · have hjB : j ∈ B := by
          rcases List.mem_cons.1 hj with h | h
          · exact (hij h.symm).elim
          · exact h
        have hjH : j ∈ headOf l.toArray.size T := by rw [e]; simp [hjB]
        have : j < i := by
          rcases D.headSees i hi j (mem_headOf.1 hjH).1 hij hsee with h | h
          · exact h.2.1
          · exact absurd h.1 (mem_headOf.1 hjH).2
        have hp : (A ++ i :: B).Pairwise (· < ·) := by rw [← e]; exact List.pairwise_lt_range.filter _
        have := (List.pairwise_cons.1 (List.pairwise_append.1 hp).2.1).1 j hjB
        omega
    show YieldsIn P l.toArray _ o (val i) (putAll _ val _ a)
    rw [efil, e, putAll_append]
    exact hy.of_same (execOp_putAll (fun cs b => Region.noSelect_spec D.nosel i o cs b ho) blind) (wanted_putAll blind)
  · intro x
    show wpParG P l.toArray _ _ _ _ _ (putAll _ val _ a) _
    rw [efil]
    exact h1 x


/-- m tells of each operation whether it is of the head; C: which of the end come behind all of the head; the end in its one order. -/
theorem wp_draw_chain {id : Nat} {l : List Oper} {Q : Exit → Act → World → Prop} (m : List Bool) (T C : List Nat) (U : World → Prop) (hU : U w.drew) (hm : P.follows .mixedOrders = true)
    (hB : ((drawOkP l.toArray T && C.all fun t => (headOf l.toArray.size T).all fun h => reachB l.toArray 12 t h) && chainT l.toArray T) = true)
    (eH : opsOf l.toArray (headOf l.toArray.size T) = pickL l m)
    (h : wpQuiet P l.toArray (InU U) (fun a' => ∀ x : UCls U, wpSeqG P l.toArray C U (fun a w => Q .normal a w) T a' x.w) (pickL l m) a) :
    (Code.region id l.toArray true).wp P Q a w := by
  have h1 := (Bool.and_eq_true _ _ ▸ hB : _ ∧ _)
  have h2 := (Bool.and_eq_true _ _ ▸ h1.1 : _ ∧ _)
  have D := drawSpec h2.1
  refine wp_draw_G T C U hU hm h1.1 ?_
  rw [eH]
  exact wpQuiet_mono (fun a' h' x => parG_of_seq T D.nodup h1.2 D.lt _ _ (h' x)) _ _ h
end
end Go.Priory
