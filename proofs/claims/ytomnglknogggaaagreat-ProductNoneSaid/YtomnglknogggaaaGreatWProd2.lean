/- A product in memory: what a change of one cell, or of the schedule, leaves. No condition. -/
import Derived.Test.YtomnglknogggaaaGreatWProd
import Derived.Test.YtomnglknogggaaaGreatWReach
namespace Go.Priory
open Go.RowKit Go.Proofs
set_option maxRecDepth 100000

theorem SchedAt.mono {p q : Nat → Prop} {w : World} {s : Nat} {S : SchedSt} (h : SchedAt p w s S) (hq : ∀ x, p x → q x) : SchedAt q w s S := by
  obtain ⟨v, h1, h2⟩ := h; exact ⟨v, h1, h2.mono hq⟩
theorem RowIs.mono {p q : Nat → Prop} {w : World} {v : Value} {ob : Option Nat} {ms : List (List Int)} (h : RowIs p w v ob ms) (hq : ∀ x, p x → q x) : RowIs q w v ob ms := by
  rcases h with h | ⟨b, off, cap, cells, h1, h2, h3, h4, h5, h6⟩
  · exact .inl h
  · refine .inr ⟨b, off, cap, cells, h1, h2, h3, h4, h5, fun i m hm => ?_⟩
    obtain ⟨mv, g1, g2, g3⟩ := h6 i m hm
    exact ⟨mv, g1, g2.mono hq, g3⟩
theorem ConfIs.mono {p q : Nat → Prop} {w : World} {v : Value} {c : Conf} (h : ConfIs p w v c) (hq : ∀ x, p x → q x) : ConfIs q w v c := by
  obtain ⟨v1, v2, v3, e, h1, h2, h3⟩ := h
  exact ⟨v1, v2, v3, e, h1.mono hq, h2.mono hq, h3.mono hq⟩
theorem QueuesAt.mono {p p' : Nat → Prop} {w : World} {q bl : Nat} {s : Qs} {rb : Nat → Option Nat} (h : QueuesAt p w q s bl rb) (hq : ∀ x, p x → p' x) (h1 : ¬ p' q) (h2 : ¬ p' bl) (h3 : ∀ i b, rb i = some b → ¬ p' b) : QueuesAt p' w q s bl rb where
  blk := by obtain ⟨v1, v2, v3, g1, g2⟩ := h.blk; exact ⟨v1, v2, v3, g1, g2.mono hq⟩
  len := h.len
  few := h.few
  some_ := h.some_
  rows := by
    obtain ⟨vs, g1, g2, g3⟩ := h.rows
    refine ⟨vs, g1, g2, fun i ms hi => ?_⟩
    obtain ⟨v, k1, k2, k3⟩ := g3 i ms hi
    exact ⟨v, k1, k2.mono hq, k3⟩
  nq := h1
  nbl := h2
  nrb := h3
  qbl := h.qbl
  qrb := h.qrb
  inj := h.inj
/-- What is written into blocks that are none of the cell's. -/
theorem CellAt.apart {k : Nat → Kind} {c : Nat} {A : Addrs} {q : Value} {st : CellSt} {S : Nat → Prop} {w w' : World} (h : CellAt k w c A q st) (f : Fr S w w') (ne : ∀ x, Own k x → ¬ S x) : CellAt k w' c A q st where
  kc := h.kc
  kt := h.kt
  ktm := h.ktm
  krow := h.krow
  klm := h.klm
  blk := h.blk.fr f (ne _ (show k c ≠ .no by rw [h.kc]; simp))
  table := h.table.fr f (ne _ (show k A.t ≠ .no by rw [h.kt]; simp)) (ne _ (show k A.tm ≠ .no by rw [h.ktm]; simp))
  budget := h.budget.kind f (fun x hx => ne x (show k x ≠ .no by rw [hx]; simp))
  queue := h.queue.fr f (ne _ (show k A.row ≠ .no by rw [h.krow]; simp))
  men := h.men.fr f (ne _ (show k A.lm ≠ .no by rw [h.klm]; simp))
  man := fun p hp => ⟨(h.man p hp).1, (h.man p hp).2.1, (h.man p hp).2.2.fr f (ne _ (show k (A.mb p.1) ≠ .no by rw [(h.man p hp).1]; simp)) (ne _ (show k (A.pb p.1) ≠ .no by rw [(h.man p hp).2.1]; simp)) (fun x hx => ne x (show k x ≠ .no by rw [hx]; simp))⟩
def upd {α : Type} (f : Nat → α) (i : Nat) (v : α) : Nat → α := fun j => if j = i then v else f j
theorem upd_same {α : Type} (f : Nat → α) (i : Nat) (v : α) : upd f i v i = v := by simp [upd]
theorem upd_other {α : Type} (f : Nat → α) {i j : Nat} (v : α) (h : j ≠ i) : upd f i v j = f j := by simp [upd, h]
section
variable {R : Nat → PKind} {b : Nat} {A : PAddr} {st : ProdSt}
/-- A cell has turned. -/
theorem ProdAt.turnCell {w w' : World} (h : ProdAt R w b A st) {i : Nat} {c0 c1 : CellSt} (hc : st.cells[i]? = some c0) {k' : Nat → Kind} {a' : Addrs} (g : Grew (A.k i) k' w w')
    (hn : CellAt k' w' (A.c i) a' (.pointer (some ⟨A.q, 0, none⟩)) c1) : ∃ R', ProdAt R' w' b { A with k := upd A.k i k', a := upd A.a i a' } { st with cells := st.cells.set i c1 } ∧ (∀ x, R x ≠ .no → R' x = R x) ∧ (∀ x, R' x ≠ .no → R x ≠ .no ∨ w.heap.size ≤ x) := by
  classical
  obtain ⟨hi1, hi2⟩ := h.cells i c0 hc
  let R' : Nat → PKind := fun x => if w.heap.size ≤ x ∧ x < w'.heap.size ∧ Own k' x then .cell i else R x
  have hR : ∀ x, R x ≠ .no → R' x = R x := fun x hx => by
    have := h.lo x hx
    simp only [R']
    rw [if_neg (by omega)]
  have hS : ∀ x, Own (A.k i) x → R x = .cell i := hi2
  have hno : ∀ x, R x ≠ .cell i → ¬ Own (A.k i) x := fun x hx ho => hx (hS x ho)
  have f := g.fr
  have e1 : ∀ (x : Nat) (k : PKind), k ≠ .no → R x = k → R' x = k := fun x k hk hx => by rw [hR x (by rw [hx]; exact hk), hx]
  have hlen : i < st.cells.length := (List.getElem?_eq_some_iff.1 hc).1
  refine ⟨R', ?_, hR, fun x hx => ?_⟩
  · exact {
      kb := e1 _ _ (by simp) h.kb
      ks := e1 _ _ (by simp) h.ks
      kq := e1 _ _ (by simp) h.kq
      kbl := e1 _ _ (by simp) h.kbl
      krb := fun j r hr => e1 _ _ (by simp) (h.krb j r hr)
      lo := fun x hx => by
        simp only [R'] at hx
        split at hx
        · rename_i hh; exact hh.2.1
        · exact Nat.lt_of_lt_of_le (h.lo x hx) f.size
      some_ := by
        show st.cells.set i c1 ≠ []
        intro e
        have : (st.cells.set i c1).length = 0 := by rw [e]; rfl
        rw [List.length_set] at this; omega
      few := by show (st.cells.set i c1).length ≤ 8; rw [List.length_set]; exact h.few
      blk := by
        obtain ⟨v, h1, h2⟩ := h.blk
        refine ⟨v, h1.fr f (hno _ (by rw [h.kb]; simp)), ?_⟩
        show SlcIn (fun x => R' x = .list) w' 1 v (cellPtrs A.c (st.cells.set i c1).length)
        rw [List.length_set]
        exact (h2.fr f (fun x hx => hno x (by rw [hx]; simp))).mono (fun x hx => e1 _ _ (by simp) hx)
      sched := (h.sched.fr f (hno _ (by rw [h.ks]; simp)) (fun x hx => hno x (by rw [hx]; simp))).mono (fun x hx => e1 _ _ (by simp) hx)
      queues := (h.queues.fr f (hno _ (by rw [h.kq]; simp)) (hno _ (by rw [h.kbl]; simp)) (fun j r hr => hno _ (by rw [h.krb j r hr]; simp)) (fun x hx => hno x (by rw [hx]; simp))).mono (fun x hx => e1 _ _ (by simp) hx)
        (by rw [e1 _ _ (by simp) h.kq]; simp) (by rw [e1 _ _ (by simp) h.kbl]; simp) (fun j r hr => by rw [e1 _ _ (by simp) (h.krb j r hr)]; simp)
      cells := fun j c hj => by
        have hj' : (st.cells.set i c1)[j]? = some c := hj
        by_cases e : j = i
        · subst e
          rw [List.getElem?_set_self hlen] at hj'
          obtain rfl : c1 = c := Option.some.inj hj'
          show CellAt (upd A.k j k' j) w' (A.c j) (upd A.a j a' j) _ c1 ∧ ∀ x, Own (upd A.k j k' j) x → _
          rw [upd_same, upd_same]
          refine ⟨hn, fun x hx => ?_⟩
          rcases g.new x hx with ho | ho
          · exact e1 _ _ (by simp) (hi2 x ho)
          · simp only [R']; rw [if_pos ⟨ho.1, ho.2, hx⟩]
        · rw [List.getElem?_set_ne (Ne.symm e)] at hj'
          obtain ⟨g1, g2⟩ := h.cells j c hj'
          show CellAt (upd A.k i k' j) w' (A.c j) (upd A.a i a' j) _ c ∧ ∀ x, Own (upd A.k i k' j) x → _
          rw [upd_other _ _ e, upd_other _ _ e]
          refine ⟨g1.apart f (fun x hx => hno x (by rw [g2 x hx]; simp [e])), fun x hx => e1 _ _ (by simp) (g2 x hx)⟩ }
  · simp only [R'] at hx
    split at hx
    · rename_i hh; exact .inr hh.1
    · exact .inl hx
theorem ProdAt.frOther {w w' : World} {S : Nat → Prop} (h : ProdAt R w b A st) (f : Fr S w w') (hS : ∀ x, S x → R x = .no) : ProdAt R w' b A st := by
  have hno : ∀ x, R x ≠ .no → ¬ S x := fun x hx e => hx (hS x e)
  exact {
    kb := h.kb
    ks := h.ks
    kq := h.kq
    kbl := h.kbl
    krb := h.krb
    lo := fun x hx => Nat.lt_of_lt_of_le (h.lo x hx) f.size
    some_ := h.some_
    few := h.few
    blk := by obtain ⟨v, h1, h2⟩ := h.blk; exact ⟨v, h1.fr f (hno _ (by rw [h.kb]; simp)), h2.fr f (fun x hx => hno x (by rw [hx]; simp))⟩
    sched := h.sched.fr f (hno _ (by rw [h.ks]; simp)) (fun x hx => hno x (by rw [hx]; simp))
    queues := h.queues.fr f (hno _ (by rw [h.kq]; simp)) (hno _ (by rw [h.kbl]; simp)) (fun j r hr => hno _ (by rw [h.krb j r hr]; simp)) (fun x hx => hno x (by rw [hx]; simp))
    cells := fun j c hj => ⟨(h.cells j c hj).1.apart f (fun x hx => hno x (by rw [(h.cells j c hj).2 x hx]; simp)), (h.cells j c hj).2⟩ }
/-- The schedule has turned. -/
theorem ProdAt.turnSched {w w' : World} (h : ProdAt R w b A st) {S : SchedSt} (f : Fr (fun x => x = A.s) w w') (hn : SchedAt (fun x => R x = .wins) w' A.s S) : ProdAt R w' b A { st with sched := S } := by
  have hno : ∀ x, R x ≠ .sched → ¬ x = A.s := fun x hx e => hx (by rw [e]; exact h.ks)
  exact {
    kb := h.kb
    ks := h.ks
    kq := h.kq
    kbl := h.kbl
    krb := h.krb
    lo := fun x hx => Nat.lt_of_lt_of_le (h.lo x hx) f.size
    some_ := h.some_
    few := h.few
    blk := by obtain ⟨v, h1, h2⟩ := h.blk; exact ⟨v, h1.fr f (hno _ (by rw [h.kb]; simp)), h2.fr f (fun x hx => hno x (by rw [hx]; simp))⟩
    sched := hn
    queues := h.queues.fr f (hno _ (by rw [h.kq]; simp)) (hno _ (by rw [h.kbl]; simp)) (fun j r hr => hno _ (by rw [h.krb j r hr]; simp)) (fun x hx => hno x (by rw [hx]; simp))
    cells := fun j c hj => ⟨(h.cells j c hj).1.apart f (fun x hx => hno x (by rw [(h.cells j c hj).2 x hx]; simp)), (h.cells j c hj).2⟩ }
end
end Go.Priory
