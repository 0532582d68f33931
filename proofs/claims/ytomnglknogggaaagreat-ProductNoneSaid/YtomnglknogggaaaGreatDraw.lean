/- A statement whose order is drawn: some of its operations only read, or call what only makes memory (the head); the others stand in one forced order (T). One walk of the head, in the order of the text, and of T behind it, serves every order. Condition: a Bool over the text of the statement. -/
import Derived.Test.YtomnglknogggaaaGreatBase
import Derived.Orders
import Derived.Still
import Derived.Deep.Quiet
import Derived.Deep.QuietTactic
import Derived.BigQuiet
namespace Go.Priory
open Go.RowKit

/-! ### the worlds that differ from V in blocks of S alone -/
def UCls (U : World → Prop) : Type := { w : World // U w }
def UCls.w {U : World → Prop} (x : UCls U) : World := x.1
theorem UCls.fr {U : World → Prop} (x : UCls U) : U x.w := x.2
abbrev InU (U : World → Prop) : World → Prop := fun w => ∃ x : UCls U, w = x.w
theorem Calls.u {P : Program} {f : FuncId} {args : Array Value} {U : World → Prop} {x : UCls U} {v : Value}
    (h : Calls P f args x.w fun e w' => e = .returned v ∧ U w') : Calls P f args x.w fun e w'' => e = .returned v ∧ ∃ y : UCls U, w'' = y.w :=
  h.mono fun _ w' ⟨he, hf⟩ => ⟨he, ⟨w', hf⟩, rfl⟩
def Cls (S : Nat → Prop) (V : World) : Type := { w : World // Fr S V w }
def Cls.w {S : Nat → Prop} {V : World} (x : Cls S V) : World := x.1
theorem Cls.fr {S : Nat → Prop} {V : World} (x : Cls S V) : Fr S V x.w := x.2
instance {S : Nat → Prop} {V : World} : Nonempty (Cls S V) := ⟨⟨V, Fr.refl _ _⟩⟩
def Cls.mk' {S : Nat → Prop} {V w : World} (h : Fr S V w) : Cls S V := ⟨w, h⟩
abbrev InCls (S : Nat → Prop) (V : World) : World → Prop := fun w => ∃ x : Cls S V, w = x.w
theorem inCls {S : Nat → Prop} {V w : World} (h : Fr S V w) : InCls S V w := ⟨⟨w, h⟩, rfl⟩
theorem Blk.cls {S : Nat → Prop} {V : World} {b : Nat} {c : List Value} (h : Blk V b c) (hn : ¬ S b) : ∀ (x : Cls S V) (o : Nat), x.w.cell? ⟨b, o, none⟩ = c[o]? :=
  fun x o => (h.fr x.fr hn).cell o
theorem Calls.cls {P : Program} {f : FuncId} {args : Array Value} {S T : Nat → Prop} {V : World} {x : Cls S V} {v : Value}
    (h : Calls P f args x.w fun e w' => e = .returned v ∧ Fr T x.w w') (hT : ∀ b, T b → S b) : Calls P f args x.w fun e w'' => e = .returned v ∧ ∃ y : Cls S V, w'' = y.w :=
  h.mono fun _ w' ⟨he, hf⟩ => ⟨he, ⟨w', x.fr.trans hf (fun b _ hb => hT b hb)⟩, rfl⟩
theorem Calls.cls_same {P : Program} {f : FuncId} {args : Array Value} {S : Nat → Prop} {V : World} {x : Cls S V} {v : Value}
    (h : Calls P f args x.w fun e w' => e = .returned v ∧ x.w = w') : Calls P f args x.w fun e w'' => e = .returned v ∧ ∃ y : Cls S V, w'' = y.w :=
  h.mono fun _ _ ⟨he, hf⟩ => ⟨he, x, hf.symm⟩

/-! ### the forced end -/
section
variable {P : Program} {ops : Array Oper} {U : World → Prop} {R : Act → World → Prop}

def Oper.seqUpon (P : Program) (K : Value → World → Prop) : Result Next → Prop
  | .ok (.value v) w' => K v w'
  | .ok .skip w' => K undef w'
  | .ok (.enter f args) w' => Calls P f args w' fun e w'' => ∃ v, e = .returned v ∧ K v w''
  | _ => False
def wpSeq (P : Program) (ops : Array Oper) (U : World → Prop) (R : Act → World → Prop) : List Oper → Act → World → Prop
  | [], a, w => R a w
  | o :: T, a, w =>
    if Region.wanted o (yielded ops a.tmps) then Oper.seqUpon P (fun v w' => U w' ∧ wpSeq P ops U R T (a.put o.dst v) w') ((execOp a.eval o).run P w)
    else wpSeq P ops U R T (a.put o.dst undef) w
attribute [go_sem] Oper.seqUpon

theorem wpSeq_nil {a : Act} {w : World} (h : R a w) : wpSeq P ops U R [] a w := h
theorem wpSeq_step {o : Oper} {T : List Oper} {a : Act} {w : World}
    (h : ∀ K : Act → World → Prop, (∀ a w, wpSeq P ops U R T a w → K a w) →
      if Region.wanted o (yielded ops a.tmps) then Oper.seqUpon P (fun v w' => U w' ∧ K (a.put o.dst v) w') ((execOp a.eval o).run P w) else K (a.put o.dst undef) w) :
    wpSeq P ops U R (o :: T) a w := by
  have := h _ (fun _ _ h => h)
  unfold wpSeq
  exact this
def edgeB (ops : Array Oper) (i j : Nat) : Bool :=
  match ops[i]? with
  | some o => o.after.any fun e => Region.binds .any e && e.on == j
  | none => false
/-- The end, of which some may come in whatever order. -/
def wpPar (P : Program) (ops : Array Oper) (U : World → Prop) (R : Act → World → Prop) : Nat → List Nat → Act → World → Prop
  | _, [], a, w => R a w
  | 0, _ :: _, _, _ => False
  | n + 1, T, a, w => ∀ t ∈ T, (∀ s ∈ T, edgeB ops t s = false) → ∀ o, ops[t]? = some o →
    if Region.wanted o (yielded ops a.tmps) then Oper.seqUpon P (fun v w' => U w' ∧ wpPar P ops U R n (T.erase t) (a.put o.dst v) w') ((execOp a.eval o).run P w)
    else wpPar P ops U R n (T.erase t) (a.put o.dst undef) w
theorem Oper.seqUpon_mono {K K' : Value → World → Prop} (hk : ∀ v w, K v w → K' v w) {r : Result Next} (h : Oper.seqUpon P K r) : Oper.seqUpon P K' r := by
  cases r with
  | ok n w =>
    cases n <;> simp only [Oper.seqUpon] at h ⊢
    case value v => exact hk _ _ h
    case skip => exact hk _ _ h
    case enter f args => exact h.mono fun e w' ⟨v, he, hv⟩ => ⟨v, he, hk _ _ hv⟩
  | halt x w => simp only [Oper.seqUpon] at h
theorem Oper.upon_of_seq {o : Oper} {a : Act} {K : Act → World → Prop} {Q : Exit → Act → World → Prop} {r : Result Next} (h : Oper.seqUpon P (fun v w => K (a.put o.dst v) w) r) : o.upon P a K Q r := by
  cases r with
  | ok n w =>
    cases n <;> simp only [Oper.seqUpon] at h <;> simp only [Oper.upon]
    case value v => exact h
    case skip => exact h
    case enter f args => exact h.mono fun e w' ⟨v, he, hv⟩ => by subst he; exact hv
  | halt x w => simp only [Oper.seqUpon] at h

/-! ### the Bool -/
def dstAt (ops : Array Oper) (i : Nat) : Option Tmp := (ops[i]?).bind (·.dst)
def looksAtI (ops : Array Oper) (i : Nat) : List Tmp := ((ops[i]?).map (·.looksAt ops)).getD []
/-- Does operation i look at what j writes? -/
def seesB (ops : Array Oper) (i j : Nat) : Bool :=
  match dstAt ops j with
  | some d => (looksAtI ops i).contains d
  | none => false
def headOf (n : Nat) (T : List Nat) : List Nat := (List.range n).filter fun i => !T.contains i
def chainT (ops : Array Oper) : List Nat → Bool
  | [] => true
  | [_] => true
  | s :: t :: T => edgeB ops t s && chainT ops (t :: T)
def callB (ops : Array Oper) (i : Nat) : Bool :=
  match ops[i]? with
  | some o => match o.op with
    | .move _ | .assign _ | .pick .. | .load .. | .nilCheck _ | .binOp .. | .unOp .. | .convert .. | .fieldAddr .. | .field .. | .indexAddr .. | .index .. | .lookup .. | .extract .. | .build .. | .slice .. | .makeFunc .. => false
    | _ => true
  | none => true
/-- Does t wait for h, by whatever chain of edges? -/
def reachB (ops : Array Oper) : Nat → Nat → Nat → Bool
  | 0, _, _ => false
  | n + 1, t, h => edgeB ops t h || (List.range ops.size).any fun m => edgeB ops t m && reachB ops n m h
def drawOkP (ops : Array Oper) (T : List Nat) : Bool :=
  ((List.range ops.size).all fun i => (List.range ops.size).all fun j => !edgeB ops i j || decide (j < i)) &&
  ((List.range ops.size).all fun i => match ops[i]? with | some o => o.after.all fun e => !Region.binds .any e || decide (e.on < ops.size) | none => false) &&
  (T.all fun t => (headOf ops.size T).all fun h => !callB ops h || reachB ops 4 t h) &&
  Region.noSelect ops && T.all (· < ops.size) && decide T.Nodup &&
  ((List.range ops.size).all fun i => (List.range ops.size).all fun j => i == j || (dstAt ops i).isNone || dstAt ops i != dstAt ops j) &&
  ((headOf ops.size T).all fun i => !seesB ops i i && (List.range ops.size).all fun j => i == j || !seesB ops i j || ((headOf ops.size T).contains j && decide (j < i) && edgeB ops i j) || (T.contains j && edgeB ops j i)) &&
  (T.all fun t => (headOf ops.size T).all fun j => !seesB ops t j || edgeB ops t j)
def drawOk (ops : Array Oper) (T : List Nat) : Bool := drawOkP ops T && chainT ops T

def opsOf (ops : Array Oper) (l : List Nat) : List Oper := l.filterMap (ops[·]?)
def putAll (ops : Array Oper) (val : Nat → Value) (l : List Nat) (a : Act) : Act := l.foldl (fun a i => a.put (dstAt ops i) (val i)) a
def fill (ops : Array Oper) (val : Nat → Value) (H : List Nat) (listed : Array Bool) (a : Act) : Act := putAll ops val (H.filter fun i => !listed.getD i false) a

variable {val : Nat → Value}

theorem putAll_put {d : Option Tmp} {v : Value} : ∀ {l : List Nat} {a : Act}, (∀ i ∈ l, ∀ x, d = some x → dstAt ops i ≠ some x) → putAll ops val l (a.put d v) = (putAll ops val l a).put d v
  | [], _, _ => rfl
  | i :: l, a, h => by
    show putAll ops val l ((a.put d v).put (dstAt ops i) (val i)) = _
    rw [Act.put_comm a v (val i) (fun x hx => h i (.head _) x hx)]
    exact putAll_put fun j hj => h j (.tail _ hj)
theorem putAll_append (l m : List Nat) (a : Act) : putAll ops val (l ++ m) a = putAll ops val m (putAll ops val l a) := by
  unfold putAll; rw [List.foldl_append]
theorem execOp_putAll {o : Oper} (hs : ∀ cs b, o.op ≠ .select cs b) : ∀ {l : List Nat} {a : Act}, (∀ i ∈ l, ∀ d, dstAt ops i = some d → d ∉ o.looksAt ops) → execOp (putAll ops val l a).eval o = execOp a.eval o
  | [], _, _ => rfl
  | i :: l, a, h => by
    show execOp (putAll ops val l (a.put (dstAt ops i) (val i))).eval o = _
    rw [execOp_putAll hs (fun j hj => h j (.tail _ hj)), execOp_put o hs a _ _ (h i (.head _))]
theorem wanted_putAll {o : Oper} : ∀ {l : List Nat} {a : Act}, (∀ i ∈ l, ∀ d, dstAt ops i = some d → d ∉ o.looksAt ops) → Region.wanted o (yielded ops (putAll ops val l a).tmps) = Region.wanted o (yielded ops a.tmps)
  | [], _, _ => rfl
  | i :: l, a, h => by
    show Region.wanted o (yielded ops (putAll ops val l (a.put (dstAt ops i) (val i))).tmps) = _
    rw [wanted_putAll (fun j hj => h j (.tail _ hj)), wanted_put o a _ _ (h i (.head _))]
theorem putAll_congr {val' : Nat → Value} : ∀ {l : List Nat} {a : Act}, (∀ i ∈ l, val i = val' i) → putAll ops val l a = putAll ops val' l a
  | [], _, _ => rfl
  | i :: l, a, h => by
    show putAll ops val l (a.put (dstAt ops i) (val i)) = putAll ops val' l (a.put (dstAt ops i) (val' i))
    rw [h i (.head _)]
    exact putAll_congr fun j hj => h j (.tail _ hj)

/-- What the walk of the head shows. -/
theorem head_vals {Q : Act → Prop} : ∀ (l : List Nat) (a : Act), l.Nodup → (∀ i ∈ l, i < ops.size) → wpQuiet P ops U Q (opsOf ops l) a →
    ∃ val : Nat → Value, Q (putAll ops val l a) ∧ ∀ l1 i l2, l = l1 ++ i :: l2 → ∃ o, ops[i]? = some o ∧ YieldsIn P ops U o (val i) (putAll ops val l1 a)
  | [], a, _, _, h => ⟨fun _ => undef, h, fun l1 i l2 e => by simp at e⟩
  | i :: l, a, hn, hlt, h => by
    obtain ⟨o, ho⟩ : ∃ o, ops[i]? = some o := ⟨_, Array.getElem?_eq_getElem (hlt i (.head _))⟩
    have e : opsOf ops (i :: l) = o :: opsOf ops l := by simp [opsOf, ho]
    rw [e] at h
    obtain ⟨hni, hn'⟩ := List.nodup_cons.1 hn
    have key : ∃ v, YieldsIn P ops U o v a ∧ wpQuiet P ops U Q (opsOf ops l) (a.put o.dst v) := by
      unfold wpQuiet at h
      by_cases hw : Region.wanted o (yielded ops a.tmps) = true
      · rw [if_pos hw] at h
        obtain ⟨v, h1, h2⟩ := h
        exact ⟨v, .inl ⟨hw, h1⟩, h2⟩
      · rw [if_neg hw] at h
        exact ⟨undef, .inr ⟨by simpa using hw, rfl⟩, h⟩
    obtain ⟨v, hy, hq⟩ := key
    obtain ⟨val, h1, h2⟩ := head_vals l (a.put o.dst v) hn' (fun j hj => hlt j (.tail _ hj)) hq
    have hd : dstAt ops i = o.dst := by simp [dstAt, ho]
    have hne : ∀ j ∈ l, val j = (fun j => if j = i then v else val j) j := fun j hj => by
      have : j ≠ i := fun e => hni (e ▸ hj)
      simp [this]
    refine ⟨fun j => if j = i then v else val j, ?_, ?_⟩
    · show Q (putAll ops _ l (a.put (dstAt ops i) (if i = i then v else val i)))
      rw [if_pos rfl, hd, ← putAll_congr hne]
      exact h1
    · intro l1 j l2 e
      cases l1 with
      | nil =>
        simp only [List.nil_append, List.cons.injEq] at e
        obtain ⟨rfl, rfl⟩ := e
        exact ⟨o, ho, by simpa [putAll] using hy⟩
      | cons x l1 =>
        simp only [List.cons_append, List.cons.injEq] at e
        obtain ⟨rfl, rfl⟩ := e
        obtain ⟨o', ho', hy'⟩ := h2 l1 j l2 rfl
        have hji : j ≠ i := fun e => hni (by rw [← e]; simp)
        refine ⟨o', ho', ?_⟩
        show YieldsIn P ops U o' (if j = i then v else val j) (putAll ops _ l1 (a.put (dstAt ops i) (if i = i then v else val i)))
        rw [if_pos rfl, if_neg hji, hd, ← putAll_congr fun k hk => hne k (by simp [hk])]
        exact hy'

theorem edge_spec {i j : Nat} (h : edgeB ops i j = true) : ∃ o, ops[i]? = some o ∧ ∃ e ∈ o.after, Region.binds .any e = true ∧ e.on = j := by
  unfold edgeB at h
  split at h
  · rename_i o ho
    obtain ⟨e, he, hb⟩ := Array.any_eq_true'.1 h
    simp only [Bool.and_eq_true, beq_iff_eq] at hb
    exact ⟨o, ho, e, he, hb.1, hb.2⟩
  · cases h
theorem edge_mk {i : Nat} {o : Oper} (ho : ops[i]? = some o) {e : Edge} (he : e ∈ o.after) (hb : Region.binds .any e = true) : edgeB ops i e.on = true := by
  unfold edgeB
  rw [ho]
  exact Array.any_eq_true'.2 ⟨e, he, by simp [hb]⟩
/-- Everything that a listed operation waits for is listed. -/
def Closed (ops : Array Oper) (listed : Array Bool) : Prop := ∀ i j, listed.getD i false = true → edgeB ops i j = true → listed.getD j false = true
theorem Closed.reach {listed : Array Bool} (h : Closed ops listed) : ∀ (n t x : Nat), reachB ops n t x = true → listed.getD t false = true → listed.getD x false = true
  | 0, _, _, hr, _ => by simp [reachB] at hr
  | n + 1, t, x, hr, hl => by
    simp only [reachB, Bool.or_eq_true, List.any_eq_true, Bool.and_eq_true] at hr
    rcases hr with hr | ⟨m, _, h1, h2⟩
    · exact h t x hl hr
    · exact h.reach n m x h2 (h t m hl h1)

structure DrawSpec (ops : Array Oper) (T : List Nat) : Prop where
  down : ∀ i j, edgeB ops i j = true → j < i
  early : ∀ t ∈ T, ∀ x ∈ headOf ops.size T, callB ops x = true → reachB ops 4 t x = true
  nosel : Region.noSelect ops = true
  lt : ∀ t ∈ T, t < ops.size
  nodup : T.Nodup
  apart : ∀ i j, i < ops.size → j < ops.size → i ≠ j → ∀ d, dstAt ops i = some d → dstAt ops j ≠ some d
  headSelf : ∀ i ∈ headOf ops.size T, seesB ops i i = false
  headSees : ∀ i ∈ headOf ops.size T, ∀ j, j < ops.size → i ≠ j → seesB ops i j = true → (j ∈ headOf ops.size T ∧ j < i ∧ edgeB ops i j = true) ∨ (j ∈ T ∧ edgeB ops j i = true)
  tailSees : ∀ t ∈ T, ∀ j ∈ headOf ops.size T, seesB ops t j = true → edgeB ops t j = true

theorem drawSpec {T : List Nat} (h : drawOkP ops T = true) : DrawSpec ops T := by
  simp only [drawOkP, Bool.and_eq_true, List.all_eq_true, List.mem_range, decide_eq_true_eq, Bool.or_eq_true, Bool.not_eq_true', beq_iff_eq, List.contains_iff_mem] at h
  obtain ⟨⟨⟨⟨⟨⟨⟨⟨h1, _⟩, h3⟩, h4⟩, h5⟩, h6⟩, h8⟩, h9⟩, h10⟩ := h
  have lt_of_edge : ∀ i j, edgeB ops i j = true → i < ops.size := fun i j e => by
    obtain ⟨o, ho, _⟩ := edge_spec e
    exact (Array.getElem?_eq_some_iff.1 ho).1
  have jlt : ∀ i j, edgeB ops i j = true → j < i := fun i j e => by
    have hi := lt_of_edge i j e
    obtain ⟨o, ho, ed, he, hb, hj⟩ := edge_spec e
    rename_i h2
    have h2' := h2 i hi
    rw [ho] at h2'
    have hlt : j < ops.size := by
      have := Array.all_eq_true_iff_forall_mem.1 h2' ed he
      simp only [hb, Bool.not_true, Bool.false_or, decide_eq_true_eq] at this
      rw [← hj]; exact this
    rcases h1 i hi j hlt with h | h
    · rw [e] at h; cases h
    · exact h
  refine ⟨jlt, ?_, h4, fun t ht => by simpa using h5 t ht, h6, ?_, fun i hi => (h9 i hi).1, ?_, ?_⟩
  · intro t ht x hx hc
    rcases h3 t ht x hx with h | h
    · rw [hc] at h; cases h
    · exact h
  · intro i j hi hj hne d hd hd'
    rcases h8 i hi j hj with (h | h) | h
    · exact hne h
    · rw [hd] at h; cases h
    · rw [hd, hd'] at h; simp at h
  · intro i hi j hj hne hs
    rcases (h9 i hi).2 j hj with ((h | h) | h) | h
    · exact (hne h).elim
    · rw [hs] at h; cases h
    · exact .inl ⟨h.1.1, h.1.2, h.2⟩
    · exact .inr h
  · intro t ht j hj hs
    rcases h10 t ht j hj with h | h
    · rw [hs] at h; cases h
    · exact h
theorem mem_headOf {n i : Nat} {T : List Nat} : i ∈ headOf n T ↔ i < n ∧ i ∉ T := by simp [headOf]
theorem sees_iff {i j : Nat} {o : Oper} (ho : ops[i]? = some o) : seesB ops i j = true ↔ ∃ d, dstAt ops j = some d ∧ d ∈ o.looksAt ops := by
  unfold seesB looksAtI
  rw [ho]
  cases dstAt ops j with
  | none => simp
  | some d => simp
theorem not_enter {o : Oper} {i : Nat} (hi : ops[i]? = some o) (hc : callB ops i = false) (ρ : Operand → Value) (w : World) (f : FuncId) (args : Array Value) (w' : World) :
    (execOp ρ o).run P w ≠ .ok (.enter f args) w' := by
  unfold callB at hc
  simp only [hi] at hc
  have hv : ∀ (s : Sem Value), Sem.run P (do let x ← s; pure (Next.value x)) w ≠ .ok (.enter f args) w' := by
    intro s h
    simp only [Sem.run_bind] at h
    cases hs : s.run P w with
    | ok a w1 => rw [hs] at h; simp at h
    | halt x w1 => rw [hs] at h; simp at h
  intro h
  unfold execOp at h
  cases hop : o.op <;> rw [hop] at hc <;> simp only [hop] at h <;> first
    | (cases hc; done)
    | exact hv _ h
    | skip
  case move x => simp at h
  case assign x => simp at h
  case pick c a b =>
    simp only [Sem.run_bind] at h
    cases hs : (asBool (ρ c)).run P w with
    | ok a w1 => rw [hs] at h; simp at h
    | halt x w1 => rw [hs] at h; simp at h
  case nilCheck x =>
    have hp : Sem.run P (runtimePanic (α := Next) .nilDeref) w ≠ .ok (.enter f args) w' := by
      intro h
      simp [runtimePanic, goPanic] at h
    have hn : ∀ (s : Sem (Option Bool)) (u : Unsupported) (v : Value), Sem.run P (do
        if (← s) != some false then unsupported u
        pure (Next.value v)) w ≠ .ok (.enter f args) w' := by
      intro s u v h
      simp only [Sem.run_bind] at h
      cases hs : s.run P w with
      | ok a w1 =>
        rw [hs] at h
        by_cases ha : a = some false <;> simp [ha, unsupported, Sem.run] at h
      | halt x w1 => rw [hs] at h; simp at h
    generalize ρ x = z at h
    clear hop hc hi
    split at h
    · exact hp h
    · exact hp h
    · exact hp h
    · split at h
      · exact hp h
      · exact hn (do nilAhead ((← program).types.size + Made.depth) _ _ _) _ _ (by simpa using h)
      · simp at h
    · simp at h

/-- In which state the walk of whatever order is. -/
structure DrawInv (P : Program) (ops : Array Oper) (U : World → Prop) (R : Act → World → Prop) (T : List Nat) (val : Nat → Value) (listed : Array Bool) (a : Act) (w : World) : Prop where
  size : listed.size = ops.size
  closed : Closed ops listed
  cls : U w
  head : ∀ i ∈ headOf ops.size T, listed.getD i false = false → ∃ o, ops[i]? = some o ∧ YieldsIn P ops (InU U) o (val i) (fill ops val (headOf ops.size T) listed a)
  tail : ∃ T2, (∀ t, t ∈ T2 ↔ t ∈ T ∧ listed.getD t false = false) ∧ T2.Nodup ∧
    (((∀ t ∈ T, listed.getD t false = false) ∧ ∀ x : UCls U, wpPar P ops U R T2.length T2 (fill ops val (headOf ops.size T) listed a) x.w) ∨
     ((∃ t ∈ T, listed.getD t false = true) ∧ wpPar P ops U R T2.length T2 (fill ops val (headOf ops.size T) listed a) w))

section
variable {U : World → Prop} {T : List Nat} {listed : Array Bool} {a : Act} {w : World}

theorem lt_of_unlisted {i : Nat} (h : listed.getD i true = false) : i < listed.size := by
  rcases Nat.lt_or_ge i listed.size with h' | h'
  · exact h'
  · simp [Array.getElem?_eq_none h'] at h
theorem unlisted_of {i : Nat} (h : listed.getD i true = false) : listed.getD i false = false := by
  have := lt_of_unlisted h
  simp [this] at h ⊢; exact h
theorem getD_set_self {i : Nat} (h : i < listed.size) : (listed.setIfInBounds i true).getD i false = true := by simp [h]
theorem Closed.set {i : Nat} (hc : Closed ops listed) (hr : i ∈ Region.ready .any ops listed) : Closed ops (listed.setIfInBounds i true) := by
  obtain ⟨_, o, ho, hall⟩ := mem_ready.1 hr
  intro x y hx he
  by_cases h : i = x
  · subst h
    obtain ⟨o', ho', e, he', hb, hy⟩ := edge_spec he
    rw [ho] at ho'; cases ho'
    exact getD_set_true (hy ▸ hall e he' hb)
  · rw [getD_set_ne false h] at hx
    exact getD_set_true (hc x y hx he)
theorem filter_set {i : Nat} : ∀ (l : List Nat), l.Nodup → i ∈ l → i < listed.size → listed.getD i false = false →
    ∃ l1 l2, (l.filter fun j => !listed.getD j false) = l1 ++ i :: l2 ∧ (l.filter fun j => !(listed.setIfInBounds i true).getD j false) = l1 ++ l2
  | [], _, h, _, _ => by cases h
  | x :: l, hn, h, hs, hu => by
    obtain ⟨n1, n2⟩ := List.nodup_cons.1 hn
    by_cases hx : x = i
    · subst hx
      refine ⟨[], l.filter fun j => !listed.getD j false, ?_, ?_⟩
      · rw [List.filter_cons_of_pos (by simp only [hu, Bool.not_false])]; rfl
      · rw [List.filter_cons_of_neg (by simp only [getD_set_self hs]; simp)]
        rw [List.nil_append]
        apply List.filter_congr
        intro j hj
        rw [getD_set_ne false (fun e : x = j => n1 (by rw [e]; exact hj))]
    · have hi : i ∈ l := by
        rcases List.mem_cons.1 h with h | h
        · exact (hx h.symm).elim
        · exact h
      obtain ⟨l1, l2, e1, e2⟩ := filter_set l n2 hi hs hu
      by_cases hl : listed.getD x false = true
      · refine ⟨l1, l2, ?_, ?_⟩
        · rw [List.filter_cons_of_neg (by simp only [hl]; simp), e1]
        · rw [List.filter_cons_of_neg (by rw [getD_set_ne false (Ne.symm hx)]; simp only [hl]; simp), e2]
      · have hl' : listed.getD x false = false := by simpa using hl
        refine ⟨x :: l1, l2, ?_, ?_⟩
        · rw [List.filter_cons_of_pos (by simp only [hl', Bool.not_false]), e1]; rfl
        · rw [List.filter_cons_of_pos (by rw [getD_set_ne false (Ne.symm hx)]; simp only [hl', Bool.not_false]), e2]; rfl
theorem headOf_nodup {n : Nat} {T : List Nat} : (headOf n T).Nodup := List.nodup_range.filter _

/-- A head's operation comes up: the frame in which all of the head is done is the same. -/
theorem fill_head (D : DrawSpec ops T) {i : Nat} (hi : i ∈ headOf ops.size T) (hs : listed.size = ops.size) (hu : listed.getD i false = false) :
    fill ops val (headOf ops.size T) (listed.setIfInBounds i true) (a.put (dstAt ops i) (val i)) = fill ops val (headOf ops.size T) listed a := by
  have hlt := (mem_headOf.1 hi).1
  obtain ⟨l1, l2, e1, e2⟩ := filter_set (listed := listed) _ headOf_nodup hi (by rw [hs]; exact hlt) hu
  have hmem : ∀ j ∈ l1, j ∈ headOf ops.size T ∧ j ≠ i := by
    intro j hj
    have hn : (l1 ++ i :: l2).Nodup := by rw [← e1]; exact headOf_nodup.filter _
    refine ⟨(List.mem_filter.1 (by rw [e1]; simp [hj])).1, fun e => ?_⟩
    subst e
    exact (List.nodup_append.1 hn).2.2 j hj j (.head _) rfl
  unfold fill
  rw [e1, e2, putAll_append, putAll_append]
  show _ = putAll ops val l2 ((putAll ops val l1 a).put (dstAt ops i) (val i))
  rw [putAll_put]
  intro j hj x hx hx'
  exact D.apart i j hlt (mem_headOf.1 (hmem j hj).1).1 (Ne.symm (hmem j hj).2) x hx hx'
theorem fill_tail (D : DrawSpec ops T) {t : Nat} (ht : t ∈ T) (v : Value) :
    fill ops val (headOf ops.size T) (listed.setIfInBounds t true) (a.put (dstAt ops t) v) = (fill ops val (headOf ops.size T) listed a).put (dstAt ops t) v := by
  have e : ((headOf ops.size T).filter fun j => !(listed.setIfInBounds t true).getD j false) = (headOf ops.size T).filter fun j => !listed.getD j false := by
    apply List.filter_congr
    intro j hj
    rw [getD_set_ne false (fun e : t = j => (mem_headOf.1 hj).2 (by rw [← e]; exact ht))]
  unfold fill
  rw [e]
  refine putAll_put fun j hj x hx hx' => ?_
  have hjH := (List.mem_filter.1 hj).1
  exact D.apart t j (D.lt t ht) (mem_headOf.1 hjH).1 (fun e => (mem_headOf.1 hjH).2 (e ▸ ht)) x hx hx'
/-- What is ready does not look at what the rest of the head has not written yet. -/
theorem ready_edge {i j : Nat} (hr : i ∈ Region.ready .any ops listed) (he : edgeB ops i j = true) : listed.getD j false = true := by
  obtain ⟨_, o, ho, hall⟩ := mem_ready.1 hr
  obtain ⟨o', ho', e, hem, hb, hy⟩ := edge_spec he
  rw [ho] at ho'; cases ho'
  rw [← hy]; exact hall e hem hb
theorem ready_blind (D : DrawSpec ops T) {i : Nat} {o : Oper} (hr : i ∈ Region.ready .any ops listed) (ho : ops[i]? = some o) :
    ∀ j ∈ (headOf ops.size T).filter (fun j => !listed.getD j false), ∀ d, dstAt ops j = some d → d ∉ o.looksAt ops := by
  intro j hj d hd hm
  obtain ⟨hjH, hju⟩ := List.mem_filter.1 hj
  have hju' : listed.getD j false = false := by simpa using hju
  have hsee : seesB ops i j = true := (sees_iff ho).2 ⟨d, hd, hm⟩
  have edge : edgeB ops i j = true → False := fun he => by
    obtain ⟨_, o', ho', hall⟩ := mem_ready.1 hr
    obtain ⟨o2, ho2, e, he', hb, hy⟩ := edge_spec he
    rw [ho'] at ho2; cases ho2
    have := hall e he' hb
    rw [hy, hju'] at this; cases this
  have hlt : i < ops.size := (Array.getElem?_eq_some_iff.1 ho).1
  by_cases hiT : i ∈ T
  · exact edge (D.tailSees i hiT j hjH hsee)
  · have hiH : i ∈ headOf ops.size T := mem_headOf.2 ⟨hlt, hiT⟩
    by_cases hij : i = j
    · subst hij
      rw [D.headSelf i hiH] at hsee; cases hsee
    · rcases D.headSees i hiH j (mem_headOf.1 hjH).1 hij hsee with h | h
      · exact edge h.2.2
      · exact (mem_headOf.1 hjH).2 h.1

theorem opsOf_cons {t : Nat} {T : List Nat} {o : Oper} (h : ops[t]? = some o) : opsOf ops (t :: T) = o :: opsOf ops T := by simp [opsOf, h]
theorem chain_next : ∀ (T1 : List Nat) (s t : Nat) (T2 : List Nat), chainT ops (T1 ++ s :: t :: T2) = true → edgeB ops t s = true
  | [], s, t, T2, h => by simp only [List.nil_append, chainT, Bool.and_eq_true] at h; exact h.1
  | [x], s, t, T2, h => by
    simp only [List.singleton_append, chainT, Bool.and_eq_true] at h
    exact h.2.1
  | x :: y :: T1, s, t, T2, h => by
    simp only [List.cons_append, chainT, Bool.and_eq_true] at h
    exact chain_next (y :: T1) s t T2 h.2
theorem Oper.wp_of_inv {o : Oper} {K : Act → World → Prop} {Q : Exit → Act → World → Prop} {v : Value} (hq : o.quietAt P a (InU U) w v)
    (h1 : K (a.put o.dst v) w) (h2 : ∀ f args, (execOp a.eval o).run P w = .ok (.enter f args) w → ∀ x : UCls U, K (a.put o.dst v) x.w) : o.wp P a w K Q := by
  unfold Oper.quietAt at hq
  unfold Oper.wp
  generalize hr : (execOp a.eval o).run P w = r at *
  cases r with
  | ok n w' =>
    cases n <;> simp only [Oper.quietUpon] at hq <;> simp only [Oper.upon]
    case value u => obtain ⟨e1, e2⟩ := hq; rw [e1, e2]; exact h1
    case skip => obtain ⟨e1, e2⟩ := hq; rw [e1, ← e2]; exact h1
    case enter f args =>
      obtain ⟨e1, hc⟩ := hq
      subst e1
      exact hc.mono fun e w'' ⟨he, x, hx⟩ => by subst he; subst hx; exact h2 f args rfl x
  | halt x w' => simp only [Oper.quietUpon] at hq

theorem wpAny_draw (D : DrawSpec ops T) {Q : Exit → Act → World → Prop} : ∀ (fuel : Nat) (listed : Array Bool) (a : Act) (w : World),
    ((List.range ops.size).filter fun i => !listed.getD i false).length ≤ fuel → DrawInv P ops U (fun a w => Q .normal a w) T val listed a w → wpAny P .any ops Q fuel listed a w := by
  -- where nothing is ready all is done
  have done : ∀ (listed : Array Bool) (a : Act) (w : World), DrawInv P ops U (fun a w => Q .normal a w) T val listed a w → (∀ i, i < ops.size → listed.getD i false = true) → Q .normal a w := by
    intro listed a w I hall
    have e : fill ops val (headOf ops.size T) listed a = a := by
      unfold fill
      rw [List.filter_eq_nil_iff.2]
      · rfl
      · intro j hj
        rw [hall j (mem_headOf.1 hj).1]; simp
    obtain ⟨T2, h1, _, h3⟩ := I.tail
    have e2 : T2 = [] := by
      cases T2 with
      | nil => rfl
      | cons t T3 =>
        have := (h1 t).1 (.head _)
        rw [hall t (D.lt t this.1)] at this; cases this.2
    subst e2
    rw [e] at h3
    rcases h3 with ⟨_, h3⟩ | ⟨_, h3⟩
    · have := h3 ⟨w, I.cls⟩
      unfold wpPar at this; exact this
    · unfold wpPar at h3; exact h3
  have some_ready : ∀ (listed : Array Bool), listed.size = ops.size → Region.ready .any ops listed = [] → ∀ n i, i < n → i < ops.size → listed.getD i false = true := by
    intro listed hs hr n
    induction n with
    | zero => intro i hi; omega
    | succ n ih =>
      intro i hi hlt
      cases hu : listed.getD i false with
      | true => rfl
      | false =>
        exfalso
        have : i ∈ Region.ready .any ops listed := by
          refine mem_ready.2 ⟨by simp [hs, hlt] at hu ⊢; exact hu, ops[i], Array.getElem?_eq_getElem hlt, fun e he hb => ?_⟩
          have hed : edgeB ops i e.on = true := edge_mk (Array.getElem?_eq_getElem hlt) he hb
          have := D.down i e.on hed
          exact ih e.on (by omega) (by omega)
        rw [hr] at this; cases this
  intro fuel
  induction fuel with
  | zero =>
    intro listed a w hc I
    have hall : ∀ i, i < ops.size → listed.getD i false = true := by
      intro i hi
      have : ((List.range ops.size).filter fun i => !listed.getD i false) = [] := List.eq_nil_of_length_eq_zero (by omega)
      have := (List.filter_eq_nil_iff.1 this) i (List.mem_range.2 hi)
      simpa using this
    refine ⟨?_, done listed a w I hall⟩
    cases hr : Region.ready .any ops listed with
    | nil => rfl
    | cons i l =>
      exfalso
      have : i ∈ Region.ready .any ops listed := by rw [hr]; exact .head _
      have h1 := (mem_ready.1 this).1
      have := hall i (by rw [← I.size]; exact lt_of_unlisted h1)
      rw [unlisted_of h1] at this; cases this
  | succ fuel ih =>
    intro listed a w hc I
    refine ⟨fun hr => done listed a w I fun i hi => some_ready listed I.size hr (i + 1) i (by omega) hi, fun i hr => ?_⟩
    have hru := (mem_ready.1 hr).1
    have hu := unlisted_of hru
    have hlt : i < ops.size := by rw [← I.size]; exact lt_of_unlisted hru
    have ho : ops[i]? = some ops[i] := Array.getElem?_eq_getElem hlt
    have hd : dstAt ops i = (ops[i]).dst := by simp [dstAt, ho]
    have hsel := Region.noSelect_spec D.nosel i ops[i]
    have blind := ready_blind D hr ho
    have hex : execOp (fill ops val (headOf ops.size T) listed a).eval ops[i] = execOp a.eval ops[i] := execOp_putAll (fun cs b => hsel cs b ho) blind
    have hwa : Region.wanted ops[i] (yielded ops (fill ops val (headOf ops.size T) listed a).tmps) = Region.wanted ops[i] (yielded ops a.tmps) := wanted_putAll blind
    have hc' : ((List.range ops.size).filter fun j => !(listed.setIfInBounds i true).getD j false).length ≤ fuel := by
      obtain ⟨l1, l2, e1, e2⟩ := filter_set (listed := listed) (List.range ops.size) List.nodup_range (List.mem_range.2 hlt) (by rw [I.size]; exact hlt) hu
      rw [e2]; rw [e1] at hc; simp at hc ⊢; omega
    have hcl := I.closed.set hr
    have hsz : (listed.setIfInBounds i true).size = ops.size := by simp [I.size]
    have keepHead : ∀ (a' : Act), fill ops val (headOf ops.size T) (listed.setIfInBounds i true) a' = fill ops val (headOf ops.size T) listed a →
        ∀ j ∈ headOf ops.size T, (listed.setIfInBounds i true).getD j false = false → ∃ o, ops[j]? = some o ∧ YieldsIn P ops (InU U) o (val j) (fill ops val (headOf ops.size T) (listed.setIfInBounds i true) a') := by
      intro a' e j hj hju
      rw [e]
      refine I.head j hj ?_
      cases hl : listed.getD j false with
      | false => rfl
      | true => rw [getD_set_true hl] at hju; cases hju
    by_cases hiT : i ∈ T
    · -- the next of the forced end
      obtain ⟨T2, h1, h2, h3⟩ := I.tail
      have hi2 : i ∈ T2 := (h1 i).2 ⟨hiT, hu⟩
      have hpar : wpPar P ops U (fun a w => Q .normal a w) T2.length T2 (fill ops val (headOf ops.size T) listed a) w := by
        rcases h3 with ⟨_, h3⟩ | ⟨_, h3⟩
        · exact h3 ⟨w, I.cls⟩
        · exact h3
      have hfree : ∀ s ∈ T2, edgeB ops i s = false := by
        intro s hs
        cases he : edgeB ops i s with
        | false => rfl
        | true =>
          have := ready_edge hr he
          rw [((h1 s).1 hs).2] at this; cases this
      have hlen : T2.length = (T2.erase i).length + 1 := by
        rw [List.length_erase_of_mem hi2]; have := List.length_pos_of_mem hi2; omega
      have hseq : if Region.wanted ops[i] (yielded ops (fill ops val (headOf ops.size T) listed a).tmps) then
          Oper.seqUpon P (fun v w' => U w' ∧ wpPar P ops U (fun a w => Q .normal a w) (T2.erase i).length (T2.erase i) ((fill ops val (headOf ops.size T) listed a).put (ops[i]).dst v) w') ((execOp (fill ops val (headOf ops.size T) listed a).eval ops[i]).run P w)
          else wpPar P ops U (fun a w => Q .normal a w) (T2.erase i).length (T2.erase i) ((fill ops val (headOf ops.size T) listed a).put (ops[i]).dst undef) w := by
        rw [hlen] at hpar
        cases T2 with
        | nil => cases hi2
        | cons t0 T0 =>
          unfold wpPar at hpar
          exact hpar i hi2 hfree _ ho
      have next : ∀ v w', U w' → wpPar P ops U (fun a w => Q .normal a w) (T2.erase i).length (T2.erase i) ((fill ops val (headOf ops.size T) listed a).put (ops[i]).dst v) w' →
          wpAny P .any ops Q fuel (listed.setIfInBounds i true) (a.put (ops[i]).dst v) w' := by
        intro v w' hw' hs
        have ef : fill ops val (headOf ops.size T) (listed.setIfInBounds i true) (a.put (ops[i]).dst v) = (fill ops val (headOf ops.size T) listed a).put (ops[i]).dst v := by rw [← hd]; exact fill_tail D hiT v
        refine ih _ _ _ hc' ⟨hsz, hcl, hw', ?_, T2.erase i, ?_, h2.erase i, .inr ⟨⟨i, hiT, getD_set_self (by rw [I.size]; exact hlt)⟩, by rw [ef]; exact hs⟩⟩
        · intro j hj hju
          have hju' : listed.getD j false = false := by
            cases hl : listed.getD j false with
            | false => rfl
            | true => rw [getD_set_true hl] at hju; cases hju
          obtain ⟨o, hoj, hy⟩ := I.head j hj hju'
          refine ⟨o, hoj, ?_⟩
          rw [ef]
          have hns : ∀ d, (ops[i]).dst = some d → d ∉ o.looksAt ops := by
            intro d hdd hm
            have hs' : seesB ops j i = true := (sees_iff hoj).2 ⟨d, by rw [hd]; exact hdd, hm⟩
            rcases D.headSees j hj i hlt (fun e => (mem_headOf.1 hj).2 (e ▸ hiT)) hs' with this | this
            · exact (mem_headOf.1 this.1).2 hiT
            · rw [ready_edge hr this.2] at hju'; cases hju'
          exact hy.of_same (execOp_put o (fun cs b => Region.noSelect_spec D.nosel j o cs b hoj) _ _ _ hns) (wanted_put o _ _ _ hns)
        · intro t
          rw [h2.mem_erase_iff, h1 t]
          constructor
          · rintro ⟨hne, ht, hl⟩; exact ⟨ht, by rw [getD_set_ne false (Ne.symm hne)]; exact hl⟩
          · rintro ⟨ht, hl⟩
            have hne : t ≠ i := by
              rintro rfl
              rw [getD_set_self (by rw [I.size]; exact hlt)] at hl; cases hl
            exact ⟨hne, ht, by rw [getD_set_ne false (Ne.symm hne)] at hl; exact hl⟩
      unfold wpOp
      simp only [ho]
      rw [hwa, hex] at hseq
      split
      · rename_i hw
        rw [if_pos hw] at hseq
        refine .inl ?_
        unfold Oper.wp
        exact Oper.upon_of_seq (Oper.seqUpon_mono (fun v w' hvw => next v w' hvw.1 hvw.2) hseq)
      · rename_i hw
        rw [if_neg hw] at hseq
        exact next _ _ I.cls hseq
    · -- one of the head
      have hiH : i ∈ headOf ops.size T := mem_headOf.2 ⟨hlt, hiT⟩
      obtain ⟨o, ho', hy⟩ := I.head i hiH hu
      rw [ho] at ho'; cases ho'
      have ef : fill ops val (headOf ops.size T) (listed.setIfInBounds i true) (a.put (ops[i]).dst (val i)) = fill ops val (headOf ops.size T) listed a := by rw [← hd]; exact fill_head D hiH I.size hu
      obtain ⟨T2, h1, h2, h3⟩ := I.tail
      have nT : ∀ t ∈ T, (listed.setIfInBounds i true).getD t false = listed.getD t false := fun t ht => getD_set_ne false (fun e => hiT (e ▸ ht))
      have next : ∀ w', U w' → (w' = w ∨ ∀ t ∈ T, listed.getD t false = false) → wpAny P .any ops Q fuel (listed.setIfInBounds i true) (a.put (ops[i]).dst (val i)) w' := by
        intro w' hw' hor
        refine ih _ _ _ hc' ⟨hsz, hcl, hw', keepHead _ ef, T2, fun t => (h1 t).trans ⟨fun h => ⟨h.1, by rw [nT t h.1]; exact h.2⟩, fun h => ⟨h.1, by rw [nT t h.1] at h; exact h.2⟩⟩, h2, ?_⟩
        rw [ef]
        rcases h3 with ⟨hn, h3⟩ | ⟨⟨t, ht, hl⟩, h3⟩
        · exact .inl ⟨fun t ht => by rw [nT t ht]; exact hn t ht, h3⟩
        · rcases hor with rfl | he
          · exact .inr ⟨⟨t, ht, by rw [nT t ht]; exact hl⟩, h3⟩
          · rw [he t ht] at hl; cases hl
      unfold wpOp
      simp only [ho]
      rcases hy with ⟨hw, hv⟩ | ⟨hw, hv⟩
      · rw [hwa] at hw
        rw [if_pos hw]
        refine .inl ?_
        have hq := hv w ⟨⟨w, I.cls⟩, rfl⟩
        unfold Oper.quietAt at hq
        rw [hex] at hq
        refine Oper.wp_of_inv (U := U) hq (next w I.cls (.inl rfl)) fun f args hrun x => next x.w x.fr (.inr ?_)
        -- a call of the head: nothing of the end has come up
        intro t ht
        cases hl : listed.getD t false with
        | false => rfl
        | true =>
          exfalso
          have hcall : callB ops i = true := by
            cases hcb : callB ops i with
            | true => rfl
            | false => exact (not_enter ho hcb _ _ _ _ _ hrun).elim
          have hre := D.early t ht i hiH hcall
          have := I.closed.reach 4 t i hre hl
          rw [hu] at this; cases this
      · rw [hwa] at hw
        rw [if_neg (by rw [hw]; simp)]
        rw [hv] at next
        exact next w I.cls (.inl rfl)

/-- **The region, walked once.** -/
theorem wp_draw_P {id : Nat} {l : List Oper} {Q : Exit → Act → World → Prop} (T : List Nat) (U : World → Prop) (hU : U w.drew) (hm : P.follows .mixedOrders = true) (hB : drawOkP l.toArray T = true)
    (h : wpQuiet P l.toArray (InU U) (fun a' => ∀ x : UCls U, wpPar P l.toArray U (fun a w => Q .normal a w) T.length T a' x.w) (opsOf l.toArray (headOf l.toArray.size T)) a) :
    (Code.region id l.toArray true).wp P Q a w := by
  have D := drawSpec hB
  refine wp_region_any hm ?_
  obtain ⟨val, h1, h2⟩ := head_vals _ a headOf_nodup (fun i hi => (mem_headOf.1 hi).1) h
  have hf : ∀ i, (Array.replicate l.toArray.size false).getD i false = false := fun i => by
    rcases Nat.lt_or_ge i l.toArray.size with h | h
    · simp at h; simp [h]
    · simp at h; simp [h]
  have efil : ((headOf l.toArray.size T).filter fun j => !(Array.replicate l.toArray.size false).getD j false) = headOf l.toArray.size T :=
    List.filter_eq_self.2 fun j _ => by rw [hf]; rfl
  refine wpAny_draw (U := U) (T := T) (val := val) D _ _ _ _ ?_ ⟨by simp, (fun i j hi => by rw [hf] at hi; cases hi), hU, ?_, T, (fun t => ⟨fun h => ⟨h, hf t⟩, fun h => h.1⟩), D.nodup, .inl ⟨fun t _ => hf t, ?_⟩⟩
  · exact Nat.le_trans (List.length_filter_le _ _) (by simp)
  · intro i hi _
    obtain ⟨A, B, e⟩ := List.append_of_mem hi
    obtain ⟨o, ho, hy⟩ := h2 A i B e
    refine ⟨o, ho, ?_⟩
    have hlt := (mem_headOf.1 hi).1
    have blind : ∀ j ∈ i :: B, ∀ d, dstAt l.toArray j = some d → d ∉ o.looksAt l.toArray := by
      intro j hj d hd hm'
      have hsee : seesB l.toArray i j = true := (sees_iff ho).2 ⟨d, hd, hm'⟩
      by_cases hij : i = j
      · subst hij
        rw [D.headSelf i hi] at hsee; cases hsee
      · have hjB : j ∈ B := by
          rcases List.mem_cons.1 hj with h | h
          · exact (hij h.symm).elim
          · exact h
        have hjH : j ∈ headOf l.toArray.size T := by rw [e]; simp [hjB]
        have : j < i := by
          rcases D.headSees i hi j (mem_headOf.1 hjH).1 hij hsee with h | h
          · exact h.2.1
          · exact absurd h.1 (mem_headOf.1 hjH).2
        have hp : (A ++ i :: B).Pairwise (· < ·) := by rw [← e]; exact List.pairwise_lt_range.filter _
        have := (List.pairwise_cons.1 (List.pairwise_append.1 hp).2.1).1 j hjB
        omega
    show YieldsIn P l.toArray _ o (val i) (putAll _ val _ a)
    rw [efil, e, putAll_append]
    exact hy.of_same (execOp_putAll (fun cs b => Region.noSelect_spec D.nosel i o cs b ho) blind) (wanted_putAll blind)
  · intro x
    show wpPar P l.toArray _ _ _ _ (putAll _ val _ a) _
    rw [efil]
    exact h1 x

theorem wpQuiet_mono {C : World → Prop} {Q Q' : Act → Prop} (hq : ∀ a, Q a → Q' a) : ∀ (l : List Oper) (a : Act), wpQuiet P ops C Q l a → wpQuiet P ops C Q' l a
  | [], a, h => hq a h
  | o :: l, a, h => by
    unfold wpQuiet at *
    split
    · rename_i hw; rw [if_pos hw] at h; exact Oper.quiet_mono (wpQuiet_mono hq l) h
    · rename_i hw; rw [if_neg hw] at h; exact wpQuiet_mono hq l _ h
theorem par_of_seq {R : Act → World → Prop} : ∀ (T : List Nat), T.Nodup → chainT ops T = true → (∀ t ∈ T, t < ops.size) → ∀ (a : Act) (w : World), wpSeq P ops U R (opsOf ops T) a w → wpPar P ops U R T.length T a w
  | [], _, _, _, a, w, h => by unfold wpPar; simpa [opsOf, wpSeq] using h
  | t :: T, hn, hc, hl, a, w, h => by
    have ho : ops[t]? = some (ops[t]'(hl t (.head _))) := Array.getElem?_eq_getElem (hl t (.head _))
    rw [opsOf_cons ho] at h
    unfold wpSeq at h
    unfold wpPar
    intro x hx hfree o hox
    have hxt : x = t := by
      rcases List.mem_cons.1 hx with rfl | hx'
      · rfl
      · exfalso
        obtain ⟨A, B, hAB⟩ := List.append_of_mem hx'
        rcases List.eq_nil_or_concat A with rfl | ⟨A, s, rfl⟩
        · have he : edgeB ops x t = true := chain_next [] t x B (by rw [hAB] at hc; simpa using hc)
          rw [hfree t (.head _)] at he; cases he
        · simp only [List.concat_eq_append] at hAB
          have he : edgeB ops x s = true := chain_next (t :: A) s x B (by rw [hAB] at hc; simpa using hc)
          rw [hfree s (by rw [hAB]; simp)] at he; cases he
    subst hxt
    rw [ho] at hox; cases hox
    have hc' : chainT ops T = true := by
      cases T with
      | nil => rfl
      | cons y T => simp only [chainT, Bool.and_eq_true] at hc; exact hc.2
    have ih := par_of_seq (R := R) T (List.nodup_cons.1 hn).2 hc' (fun s hs => hl s (.tail _ hs))
    rw [List.erase_cons_head]
    split
    · rename_i hw
      rw [if_pos hw] at h
      exact Oper.seqUpon_mono (fun v w' hvw => ⟨hvw.1, ih _ _ hvw.2⟩) h
    · rename_i hw
      rw [if_neg hw] at h
      exact ih _ _ h
theorem wp_draw_U {id : Nat} {l : List Oper} {Q : Exit → Act → World → Prop} (T : List Nat) (U : World → Prop) (hU : U w.drew) (hm : P.follows .mixedOrders = true) (hB : drawOk l.toArray T = true)
    (h : wpQuiet P l.toArray (InU U) (fun a' => ∀ x : UCls U, wpSeq P l.toArray U (fun a w => Q .normal a w) (opsOf l.toArray T) a' x.w) (opsOf l.toArray (headOf l.toArray.size T)) a) :
    (Code.region id l.toArray true).wp P Q a w := by
  have hB' : drawOkP l.toArray T = true ∧ chainT l.toArray T = true := by unfold drawOk at hB; simpa using hB
  have D := drawSpec hB'.1
  refine wp_draw_P T U hU hm hB'.1 (wpQuiet_mono (fun a' h' x => par_of_seq T D.nodup hB'.2 D.lt _ _ (h' x)) _ _ h)
theorem wp_draw {id : Nat} {l : List Oper} {Q : Exit → Act → World → Prop} (T : List Nat) (S : Nat → Prop) (hm : P.follows .mixedOrders = true) (hB : drawOk l.toArray T = true)
    (h : wpQuiet P l.toArray (InCls S w.drew) (fun a' => ∀ x : Cls S w.drew, wpSeq P l.toArray (Fr S w.drew) (fun a w => Q .normal a w) (opsOf l.toArray T) a' x.w) (opsOf l.toArray (headOf l.toArray.size T)) a) :
    (Code.region id l.toArray true).wp P Q a w :=
  wp_draw_U T (Fr S w.drew) (Fr.refl _ _) hm hB h

def pickL : List Oper → List Bool → List Oper
  | o :: l, true :: m => o :: pickL l m
  | _ :: l, false :: m => pickL l m
  | _, _ => []
def restL : List Oper → List Bool → List Oper
  | _ :: l, true :: m => restL l m
  | o :: l, false :: m => o :: restL l m
  | _, _ => []
def idxF : Nat → List Bool → List Nat
  | _, [] => []
  | k, true :: m => idxF (k + 1) m
  | k, false :: m => k :: idxF (k + 1) m
/-- The same; m tells of each operation whether it is of the head. -/
theorem wp_draw_m {id : Nat} {l : List Oper} {Q : Exit → Act → World → Prop} (m : List Bool) (S : Nat → Prop) (hm : P.follows .mixedOrders = true) (hB : drawOk l.toArray (idxF 0 m) = true)
    (eH : opsOf l.toArray (headOf l.toArray.size (idxF 0 m)) = pickL l m) (eT : opsOf l.toArray (idxF 0 m) = restL l m)
    (h : wpQuiet P l.toArray (InCls S w.drew) (fun a' => ∀ x : Cls S w.drew, wpSeq P l.toArray (Fr S w.drew) (fun a w => Q .normal a w) (restL l m) a' x.w) (pickL l m) a) :
    (Code.region id l.toArray true).wp P Q a w :=
  wp_draw (idxF 0 m) S hm hB (by rw [eH, eT]; exact h)
/-- The same, over worlds of which a given law holds. -/
theorem wp_draw_u {id : Nat} {l : List Oper} {Q : Exit → Act → World → Prop} (m : List Bool) (U : World → Prop) (hU : U w.drew) (hm : P.follows .mixedOrders = true) (hB : drawOk l.toArray (idxF 0 m) = true)
    (eH : opsOf l.toArray (headOf l.toArray.size (idxF 0 m)) = pickL l m) (eT : opsOf l.toArray (idxF 0 m) = restL l m)
    (h : wpQuiet P l.toArray (InU U) (fun a' => ∀ x : UCls U, wpSeq P l.toArray U (fun a w => Q .normal a w) (restL l m) a' x.w) (pickL l m) a) :
    (Code.region id l.toArray true).wp P Q a w :=
  wp_draw_U (idxF 0 m) U hU hm hB (by rw [eH, eT]; exact h)
/-- The same, where all of it is head. -/
theorem wp_draw_all {id : Nat} {l : List Oper} {Q : Exit → Act → World → Prop} (S : Nat → Prop) (hm : P.follows .mixedOrders = true) (hB : drawOk l.toArray [] = true)
    (eH : opsOf l.toArray (headOf l.toArray.size []) = l)
    (h : wpQuiet P l.toArray (InCls S w.drew) (fun a' => ∀ x : Cls S w.drew, Q .normal a' x.w) l a) :
    (Code.region id l.toArray true).wp P Q a w :=
  wp_draw [] S hm hB (by rw [eH]; exact h)
/-- The same; the end may come in more than one order (idxF: which operations are of the end). -/
theorem wp_draw_par {id : Nat} {l : List Oper} {Q : Exit → Act → World → Prop} (m : List Bool) (T : List Nat) (U : World → Prop) (hU : U w.drew) (hm : P.follows .mixedOrders = true) (hB : drawOkP l.toArray T = true)
    (eH : opsOf l.toArray (headOf l.toArray.size T) = pickL l m)
    (h : wpQuiet P l.toArray (InU U) (fun a' => ∀ x : UCls U, wpPar P l.toArray U (fun a w => Q .normal a w) T.length T a' x.w) (pickL l m) a) :
    (Code.region id l.toArray true).wp P Q a w :=
  wp_draw_P T U hU hm hB (by rw [eH]; exact h)
end
/-- What of T may come next, and what is then left. -/
def freesR (ops : Array Oper) (T : List Nat) : List (Nat × List Nat) := (T.filter fun t => T.all fun s => !edgeB ops t s).map fun t => (t, T.erase t)
def stepOp (P : Program) (ops : Array Oper) (U : World → Prop) (K : Act → World → Prop) (a : Act) (w : World) (o : Oper) : Prop :=
  if Region.wanted o (yielded ops a.tmps) then Oper.seqUpon P (fun v w' => U w' ∧ K (a.put o.dst v) w') ((execOp a.eval o).run P w) else K (a.put o.dst undef) w
theorem wpPar_nil {P : Program} {ops : Array Oper} {U : World → Prop} {R : Act → World → Prop} {n : Nat} {a : Act} {w : World} (h : R a w) : wpPar P ops U R n [] a w := by unfold wpPar; exact h
theorem wpPar_step {P : Program} {l : List Oper} {U : World → Prop} {R : Act → World → Prop} {n : Nat} {T : List Nat} {a : Act} {w : World} (L : List (Nat × List Nat)) (hL : freesR l.toArray T = L) (hT : T.isEmpty = false)
    (h : ∀ K : List Nat → Act → World → Prop, (∀ T a w, wpPar P l.toArray U R n T a w → K T a w) →
      L.foldr (fun x p => (match l[x.1]? with | some o => stepOp P l.toArray U (K x.2) a w o | none => True) ∧ p) True) : wpPar P l.toArray U R (n + 1) T a w := by
  have := h _ (fun _ _ _ h => h)
  subst hL
  have key : ∀ x ∈ freesR l.toArray T, (match l[x.1]? with | some o => stepOp P l.toArray U (wpPar P l.toArray U R n x.2) a w o | none => True) := by
    generalize freesR l.toArray T = L at this
    induction L with
    | nil => intro x hx; cases hx
    | cons y L ih =>
      rw [List.foldr_cons] at this
      intro x hx
      rcases List.mem_cons.1 hx with rfl | hx
      · exact this.1
      · exact ih this.2 x hx
  cases T with
  | nil => cases hT
  | cons t0 T0 =>
    unfold wpPar
    intro t ht hfree o ho
    have hm : (t, (t0 :: T0).erase t) ∈ freesR l.toArray (t0 :: T0) := by
      unfold freesR
      refine List.mem_map.2 ⟨t, List.mem_filter.2 ⟨ht, ?_⟩, rfl⟩
      rw [List.all_eq_true]
      intro s hs
      rw [hfree s hs]; rfl
    have := key _ hm
    rw [List.getElem?_toArray] at ho
    simp only [ho] at this
    exact this
end
end Go.Priory
