/- What a product is (package product), in memory; what none, of, Used, Left, Waits, Now do. No condition. -/
import Derived.Test.YtomnglknogggaaaGreatWTick3
import Derived.Test.YtomnglknogggaaaGreatWNew2
import Derived.Test.YtomnglknogggaaaGreatWUse
namespace Go.Priory
open Go.RowKit Go.Proofs
set_option maxRecDepth 100000

/-- What a block is to a product. -/
inductive PKind where
  | no | prod | list | sched | wins | queue | conf | qlist | qrow | cell (i : Nat)
structure ProdSt where
  sched : SchedSt
  cells : List CellSt
  qs : Qs
structure PAddr where
  s : Nat
  q : Nat
  bl : Nat
  rb : Nat → Option Nat
  c : Nat → Nat
  k : Nat → Nat → Kind
  a : Nat → Addrs
def cellPtrs (c : Nat → Nat) (n : Nat) : List Value := (List.range n).map fun i => .pointer (some ⟨c i, 0, none⟩)
structure ProdAt (R : Nat → PKind) (w : World) (b : Nat) (A : PAddr) (st : ProdSt) : Prop where
  kb : R b = .prod
  ks : R A.s = .sched
  kq : R A.q = .queue
  kbl : R A.bl = .qlist
  krb : ∀ i r, A.rb i = some r → R r = .qrow
  lo : ∀ x, R x ≠ .no → x < w.heap.size
  some_ : st.cells ≠ []
  few : st.cells.length ≤ 8
  blk : ∃ v, Blk w b [.pointer (some ⟨A.s, 0, none⟩), .pointer (some ⟨A.q, 0, none⟩), v] ∧ SlcIn (fun x => R x = .list) w 1 v (cellPtrs A.c st.cells.length)
  sched : SchedAt (fun x => R x = .wins) w A.s st.sched
  queues : QueuesAt (fun x => R x = .conf) w A.q st.qs A.bl A.rb
  cells : ∀ (i : Nat) c, st.cells[i]? = some c → CellAt (A.k i) w (A.c i) (A.a i) (.pointer (some ⟨A.q, 0, none⟩)) c ∧ ∀ x, Own (A.k i) x → R x = .cell i
theorem cellPtrs_get {c : Nat → Nat} {n i : Nat} (h : i < n) : (cellPtrs c n)[i]? = some (.pointer (some ⟨c i, 0, none⟩)) := by
  unfold cellPtrs
  rw [List.getElem?_map, List.getElem?_range h]; rfl
theorem cellPtrs_len {c : Nat → Nat} {n : Nat} : (cellPtrs c n).length = n := by simp [cellPtrs]
section
variable {R : Nat → PKind} {b : Nat} {A : PAddr} {st : ProdSt}
theorem pnone_none (w : World) : Calls Tryz.prog 84 #[.pointer none] w fun e w' => e = .returned (.bool true) ∧ w = w' := by
  go_enter Tryz.func84, Tryz.ntmps84
  go_wp2
  go_ret
  exact ⟨rfl, rfl⟩
theorem pnone_zero {v1 v2 : Value} {a : Option Addr} {c : Nat} (w : World) (h : Blk w b [v1, v2, .slice a 0 c]) : Calls Tryz.prog 84 #[.pointer (some ⟨b, 0, none⟩)] w fun e w' => e = .returned (.bool true) ∧ w = w' := by
  have hc := h.cell
  go_enter Tryz.func84, Tryz.ntmps84
  go_wp2
  go_ret
  exact ⟨rfl, rfl⟩
theorem pnone_any (w : World) (h : ProdAt R w b A st) : Calls Tryz.prog 84 #[.pointer (some ⟨b, 0, none⟩)] w fun e w' => e = .returned (.bool false) ∧ w = w' := by
  obtain ⟨v, hb, a, n, c, rfl, hlen, hmax, -⟩ := h.blk
  rw [cellPtrs_len] at hlen
  obtain rfl : n = st.cells.length := by omega
  have h1 : (((st.cells.length : Nat) : Int) == 0) = false := by
    cases hp : st.cells with
    | nil => exact absurd hp h.some_
    | cons x l => rw [beq_eq_false_iff_ne]; simp; omega
  have hc := hb.cell
  clear hlen
  go_enter Tryz.func84, Tryz.ntmps84
  go_wp2
  go_ret
  exact ⟨rfl, rfl⟩
/-- What a product that is none answers. -/
theorem pof_none {p : Value} (w : World) (h : Calls Tryz.prog 84 #[p] w fun e w' => e = .returned (.bool true) ∧ w = w') (n : Int) : Calls Tryz.prog 89 #[p, .int .i64 n] w fun e w' => e = .returned (.pointer none) ∧ w = w' := by
  go_enter Tryz.func89, Tryz.ntmps89
  go_wp2_with (go_at_call 84; refine h.mono ?_; clear h; rintro e w1 ⟨rfl, rfl⟩)
  go_ret
  exact ⟨rfl, rfl⟩
theorem pused_none {p : Value} (w : World) (h : Calls Tryz.prog 84 #[p] w fun e w' => e = .returned (.bool true) ∧ w = w') (n : Int) : Calls Tryz.prog 41 #[p, .int .i64 n] w fun e w' => e = .returned (.int .i64 0) ∧ w = w' := by
  go_enter Tryz.func41, Tryz.ntmps41
  go_wp2_with (first
    | (go_at_call 89; refine (pof_none _ h _).mono ?_; rintro e w1 ⟨rfl, rfl⟩)
    | (go_at_call 25; refine (cused_none (c := .pointer none) w (cnone_none w)).mono ?_; rintro e w1 ⟨rfl, rfl⟩))
  go_ret
  exact ⟨rfl, rfl⟩
theorem pleft_none {p : Value} (w : World) (h : Calls Tryz.prog 84 #[p] w fun e w' => e = .returned (.bool true) ∧ w = w') (n m : Int) : Calls Tryz.prog 42 #[p, .int .i64 n, .int .i64 m] w fun e w' => e = .returned (.int .i64 0) ∧ w = w' := by
  go_enter Tryz.func42, Tryz.ntmps42
  go_wp2_with (first
    | (go_at_call 89; refine (pof_none _ h _).mono ?_; rintro e w1 ⟨rfl, rfl⟩)
    | (go_at_call 27; refine (cleft_none (c := .pointer none) w (cnone_none w) _).mono ?_; rintro e w1 ⟨rfl, rfl⟩))
  go_ret
  exact ⟨rfl, rfl⟩
theorem pwaits_none {p : Value} (w : World) (h : Calls Tryz.prog 84 #[p] w fun e w' => e = .returned (.bool true) ∧ w = w') (n : Int) : Calls Tryz.prog 48 #[p, .int .i64 n] w fun e w' => e = .returned (.int .i64 0) ∧ w = w' := by
  go_enter Tryz.func48, Tryz.ntmps48
  go_wp2_with (go_at_call 84; refine h.mono ?_; clear h; rintro e w1 ⟨rfl, rfl⟩)
  go_ret
  exact ⟨rfl, rfl⟩
theorem pnow_none {p : Value} (w : World) (h : Calls Tryz.prog 84 #[p] w fun e w' => e = .returned (.bool true) ∧ w = w') : Calls Tryz.prog 40 #[p] w fun e w' => e = .returned (.tuple #[.int .i64 0, .int .i64 0]) ∧ w = w' := by
  go_enter Tryz.func40, Tryz.ntmps40
  go_wp2_with (go_at_call 84; refine h.mono ?_; clear h; rintro e w1 ⟨rfl, rfl⟩)
  go_ret2
  exact ⟨rfl, rfl⟩
def obsVal (p pid e v w : Int) : Value := .agg #[.int .i64 p, .int .i64 pid, .int .i64 e, .int .u32 v, .int .u32 w]
theorem pstep_none {p : Value} (w : World) (h : ∀ w', Fr Nil w w' → Calls Tryz.prog 84 #[p] w' fun e w1 => e = .returned (.bool true) ∧ w' = w1) (x y z : Int) :
    Calls Tryz.prog 39 #[p, .agg #[.int .i64 x, .int .i64 y, .int .u32 z]] w fun e w' => e = .returned (.agg #[.int .i64 0, .int .i64 0, .int .i64 1, .int .u32 0, .int .u32 0]) ∧ Fr Nil w w' := by
  have f0 : Fr Nil w ((w.alloc (.cells #[.int .i64 x, .int .i64 y, .int .u32 z] 43)).alloc (.cells #[.int .i64 0, .int .i64 0, .int .i64 0, .int .u32 0, .int .u32 0] 63)) := ((Fr.refl _ _).alloc _).alloc _
  have h1 := h _ f0
  clear h
  go_enter Tryz.func39, Tryz.ntmps39
  go_wp2_with (go_at_call 84; refine h1.mono ?_; clear h1; rintro e w1 ⟨rfl, rfl⟩)
  refine ⟨rfl, .agg #[.int .i64 0, .int .i64 0, .int .i64 1, .int .u32 0, .int .u32 0], ?_, rfl, ((Fr.refl _ _).alloc _).alloc _⟩
  simp [results, Tryz.results39, go_sem]
theorem ProdAt.nil {w w' : World} (h : ProdAt R w b A st) (f : Fr Nil w w') : ProdAt R w' b A st where
  kb := h.kb
  ks := h.ks
  kq := h.kq
  kbl := h.kbl
  krb := h.krb
  lo := fun x hx => Nat.lt_of_lt_of_le (h.lo x hx) f.size
  some_ := h.some_
  few := h.few
  blk := by obtain ⟨v, h1, h2⟩ := h.blk; exact ⟨v, h1.fr f (fun h => h), h2.nil f⟩
  sched := h.sched.nil f
  queues := h.queues.nil f
  cells := fun i c hc => ⟨(h.cells i c hc).1.nil f, (h.cells i c hc).2⟩
def cellOf (st : ProdSt) (n : Int) : Option CellSt := if n < 0 then none else st.cells[n.toNat]?
theorem pof_any (w : World) (h : ProdAt R w b A st) (n : Int) :
    Calls Tryz.prog 89 #[.pointer (some ⟨b, 0, none⟩), .int .i64 n] w fun e w' => e = .returned (match cellOf st n with | some _ => .pointer (some ⟨A.c n.toNat, 0, none⟩) | none => .pointer none) ∧ w = w' := by
  have hn := pnone_any w h
  obtain ⟨v, hb, a, m, c, rfl, hlen, hmax, hcc⟩ := h.blk
  rw [cellPtrs_len] at hlen
  obtain rfl : m = st.cells.length := by omega
  have hc := hb.cell
  clear hlen
  by_cases h0 : n < 0
  · have HE := Lib.hid (show cellOf st n = none by unfold cellOf; rw [if_pos h0])
    rw [HE.out]
    go_enter Tryz.func89, Tryz.ntmps89
    go_wp2_with (go_at_call 84; refine hn.mono ?_; clear hn; rintro e w1 ⟨rfl, rfl⟩)
    go_ret
    exact ⟨rfl, rfl⟩
  · obtain ⟨k, rfl⟩ : ∃ k : Nat, n = k := ⟨n.toNat, by omega⟩
    clear h0
    by_cases h1 : st.cells.length ≤ k
    · have HE := Lib.hid (show cellOf st k = none by unfold cellOf; rw [if_neg (by omega), Int.toNat_natCast, List.getElem?_eq_none h1])
      rw [HE.out]
      clear hcc
      go_enter Tryz.func89, Tryz.ntmps89
      go_wp2_with (go_at_call 84; refine hn.mono ?_; clear hn; rintro e w1 ⟨rfl, rfl⟩)
      go_ret
      exact ⟨rfl, rfl⟩
    · have h1' : k < st.cells.length := by omega
      have HE := Lib.hid (show cellOf st k = some st.cells[k] by unfold cellOf; rw [if_neg (by omega), Int.toNat_natCast, List.getElem?_eq_getElem h1'])
      rw [HE.out]
      rcases hcc with hz | ⟨bb, off, rfl, hp, hcc⟩
      · omega
      have e1 : w.cell? ⟨bb, off + k, none⟩ = some (.pointer (some ⟨A.c k, 0, none⟩)) := hcc _ _ (cellPtrs_get h1')
      clear hcc h1
      go_enter Tryz.func89, Tryz.ntmps89
      go_wp2_with (go_at_call 84; refine hn.mono ?_; clear hn; rintro e w1 ⟨rfl, rfl⟩)
      go_ret
      exact ⟨rfl, rfl⟩
structure CellOk0 (c : CellSt) : Prop where
  men : Sorted c.men
  man : ∀ p ∈ c.men, ManOk p.2
  keys : ∀ p ∈ c.men, 1 ≤ p.1 ∧ p.1 ≤ 8
  nodes : NodesOk c.nodes
  row : RowOk c.row
def pusedE (st : ProdSt) (n : Int) : Int := match cellOf st n with | some c => usedE c.men | none => 0
def pleftE (st : ProdSt) (n pid : Int) : Int := match cellOf st n with | some c => left c.nodes pid | none => 0
theorem cellOf_some {n : Int} {c : CellSt} (h : cellOf st n = some c) : 0 ≤ n ∧ st.cells[n.toNat]? = some c := by
  unfold cellOf at h
  split at h
  · cases h
  · exact ⟨by omega, h⟩
theorem pused_any (w : World) (h : ProdAt R w b A st) (hok : ∀ c ∈ st.cells, CellOk0 c) (n : Int) :
    Calls Tryz.prog 41 #[.pointer (some ⟨b, 0, none⟩), .int .i64 n] w fun e w' => e = .returned (.int .i64 (pusedE st n)) ∧ Fr Nil w w' := by
  have key := pof_any w h n
  cases hc : cellOf st n with
  | none =>
    rw [hc] at key
    have HE := Lib.hid (show pusedE st n = 0 by unfold pusedE; rw [hc])
    rw [HE.out]
    clear hc
    go_enter Tryz.func41, Tryz.ntmps41
    go_wp2_with (first
      | (go_at_call 89; refine key.mono ?_; clear key; rintro e w1 ⟨rfl, rfl⟩)
      | (go_at_call 25; refine (cused_none (c := .pointer none) w (cnone_none w)).mono ?_; rintro e w1 ⟨rfl, rfl⟩))
    go_ret
    exact ⟨rfl, Fr.refl _ _⟩
  | some c =>
    rw [hc] at key
    have HE := Lib.hid (show pusedE st n = usedE c.men by unfold pusedE; rw [hc])
    rw [HE.out]
    obtain ⟨_, hg⟩ := cellOf_some hc
    have hC := (h.cells _ _ hg).1
    have ok := hok c (List.mem_of_getElem? hg)
    have k2 := cused_any w hC ok.man ok.men ok.keys
    clear hc hg
    go_enter Tryz.func41, Tryz.ntmps41
    go_wp2_with (first
      | (go_at_call 89; refine key.mono ?_; clear key; rintro e w1 ⟨rfl, rfl⟩)
      | (go_at_call 25; refine k2.mono ?_; clear k2; rintro e w1 ⟨rfl, f1⟩))
    go_ret
    exact ⟨rfl, f1⟩
theorem pleft_any (w : World) (h : ProdAt R w b A st) (hok : ∀ c ∈ st.cells, CellOk0 c) (n pid : Int) :
    Calls Tryz.prog 42 #[.pointer (some ⟨b, 0, none⟩), .int .i64 n, .int .i64 pid] w fun e w' => e = .returned (.int .i64 (pleftE st n pid)) ∧ Fr Nil w w' := by
  have key := pof_any w h n
  cases hc : cellOf st n with
  | none =>
    rw [hc] at key
    have HE := Lib.hid (show pleftE st n pid = 0 by unfold pleftE; rw [hc])
    rw [HE.out]
    clear hc
    go_enter Tryz.func42, Tryz.ntmps42
    go_wp2_with (first
      | (go_at_call 89; refine key.mono ?_; clear key; rintro e w1 ⟨rfl, rfl⟩)
      | (go_at_call 27; refine (cleft_none (c := .pointer none) w (cnone_none w) _).mono ?_; rintro e w1 ⟨rfl, rfl⟩))
    go_ret
    exact ⟨rfl, Fr.refl _ _⟩
  | some c =>
    rw [hc] at key
    have HE := Lib.hid (show pleftE st n pid = left c.nodes pid by unfold pleftE; rw [hc])
    rw [HE.out]
    obtain ⟨_, hg⟩ := cellOf_some hc
    have hC := (h.cells _ _ hg).1
    have ok := hok c (List.mem_of_getElem? hg)
    have k2 := cleft_any w hC ok.nodes pid
    clear hc hg
    go_enter Tryz.func42, Tryz.ntmps42
    go_wp2_with (first
      | (go_at_call 89; refine key.mono ?_; clear key; rintro e w1 ⟨rfl, rfl⟩)
      | (go_at_call 27; refine k2.mono ?_; clear k2; rintro e w1 ⟨rfl, f1⟩))
    go_ret
    exact ⟨rfl, f1⟩
theorem pwaits_any (w : World) (h : ProdAt R w b A st) (n : Int) :
    Calls Tryz.prog 48 #[.pointer (some ⟨b, 0, none⟩), .int .i64 n] w fun e w' => e = .returned (.int .i64 (lenE st.qs n)) ∧ w = w' := by
  have key := pnone_any w h
  have k2 := qlen_any w h.queues n
  obtain ⟨v, hb, -⟩ := h.blk
  have hc := hb.cell
  go_enter Tryz.func48, Tryz.ntmps48
  go_wp2_with (first
    | (go_at_call 84; refine key.mono ?_; clear key; rintro e w1 ⟨rfl, rfl⟩)
    | (go_at_call 22; refine k2.mono ?_; clear k2; rintro e w1 ⟨rfl, rfl⟩))
  go_ret
  exact ⟨rfl, rfl⟩
end
end Go.Priory
