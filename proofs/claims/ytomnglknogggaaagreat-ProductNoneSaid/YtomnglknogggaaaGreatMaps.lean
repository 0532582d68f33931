/- What mget-up, store, delete, len, clone and the steps of a range do on a map keyed by int, whatever the order of its entries. No condition. -/
import Derived.Test.YtomnglknogggaaaGreatBase
import Derived.Laws.IdiomMaps
import Derived.WideLaws
namespace Go.Priory
open Go.RowKit Go.MapKept

variable {P : Program} {w : World}

def ekv (e : MapEntry) : Value × Value := (e.key, e.val)
def ikv (p : Int × Value) : Value × Value := (.int .i64 p.1, p.2)

/-- The key is another one than k. -/
def offKey (k : Int) (q : Value × Value) : Bool :=
  match q.1 with
  | .int .i64 j => !(j == k)
  | _ => true
theorem offKey_iff {k : Int} {q : Value × Value} : offKey k q = true ↔ q.1 ≠ .int .i64 k := by
  obtain ⟨a, v⟩ := q
  unfold offKey
  cases a with
  | int kk j => cases kk <;> simp
  | _ => simp

/-- Block b is a map whose entries are those of kv, in whatever order. -/
def MapIs (w : World) (b : Nat) (kv : List (Int × Value)) : Prop :=
  ∃ es clock, w.heap[b]? = some (.map es clock) ∧ Stamped es clock ∧ (es.toList.map ekv).Perm (kv.map ikv)

theorem MapIs.lt {b : Nat} {kv : List (Int × Value)} (h : MapIs w b kv) : b < w.heap.size := by obtain ⟨es, c, h, _⟩ := h; exact lt_of_heap h
theorem MapIs.of {w' : World} {b : Nat} {kv : List (Int × Value)} (h : MapIs w b kv) (e : w'.heap[b]? = w.heap[b]?) : MapIs w' b kv := by
  obtain ⟨es, c, h, r⟩ := h; exact ⟨es, c, e.trans h, r⟩
theorem MapIs.fr {w' : World} {S : Nat → Prop} {b : Nat} {kv : List (Int × Value)} (h : MapIs w b kv) (f : Fr S w w') (hn : ¬ S b) : MapIs w' b kv := h.of (f.same b h.lt hn)
theorem MapIs.alloc {b : Nat} {kv : List (Int × Value)} (h : MapIs w b kv) (o : Obj) : MapIs (w.alloc o) b kv := h.of (Below.heap_alloc _ _ _ h.lt)
theorem MapIs.setCell {b : Nat} {kv : List (Int × Value)} (h : MapIs w b kv) {p : Addr} {u : Value} (hne : b ≠ p.block) : MapIs (w.setCell p u) b kv := h.of (Below.heap_setCell _ _ _ _ hne)
theorem MapIs.putOther {b r : Nat} {o : Obj} {kv : List (Int × Value)} (h : MapIs w b kv) (hne : b ≠ r) : MapIs (w.putObj r o) b kv := h.of (World.putObj_heap_other hne)
theorem MapIs.drew {b : Nat} {kv : List (Int × Value)} (h : MapIs w b kv) : MapIs w.drew b kv := h
theorem MapIs.new (w : World) : MapIs (w.alloc (.map #[] 0)) w.heap.size [] := ⟨_, _, World.alloc_heap_new w _, stamped_empty 0, by simp⟩
theorem MapIs.perm {b : Nat} {kv kv' : List (Int × Value)} (h : MapIs w b kv) (hp : kv.Perm kv') : MapIs w b kv' := by
  obtain ⟨es, c, h, hs, p⟩ := h; exact ⟨es, c, h, hs, p.trans (hp.map _)⟩

theorem Blk.ne_map {b m : Nat} {c : List Value} {kv : List (Int × Value)} (h : Blk w b c) (hm : MapIs w m kv) : b ≠ m := fun e => by
  obtain ⟨T, h1⟩ := h
  obtain ⟨es, k, h2, _⟩ := hm
  rw [e, h2] at h1; cases h1
theorem keys_of {es : Array MapEntry} {clock : Nat} {kv : List (Int × Value)} (hs : Stamped es clock) (hp : (es.toList.map ekv).Perm (kv.map ikv)) : (mkeys kv).Nodup := by
  have h1 : (es.toList.map ekv).map (·.1) = es.toList.map (·.key) := by simp [ekv, Function.comp_def]
  have h2 : ((kv.map ikv).map (·.1)).Nodup := ((hp.map (fun p : Value × Value => p.1)).nodup_iff).1 (by rw [h1]; exact hs.2.2)
  have h3 : (kv.map ikv).map (·.1) = (mkeys kv).map (Value.int .i64) := by simp [ikv, mkeys, Function.comp_def]
  rw [h3] at h2
  exact List.Pairwise.of_map (Value.int .i64) (fun a b h e => h (by rw [e])) h2
theorem isKeys {es : Array MapEntry} {kv : List (Int × Value)} (hp : (es.toList.map ekv).Perm (kv.map ikv)) : ∀ x ∈ es.toList, IsKey (.int .i64) x.key := by
  intro x hx
  have : ekv x ∈ kv.map ikv := hp.mem_iff.1 (List.mem_map.2 ⟨x, hx, rfl⟩)
  obtain ⟨p, _, e⟩ := List.mem_map.1 this
  have e1 : x.key = .int .i64 p.1 := (congrArg Prod.fst e).symm
  rw [e1]; rfl
theorem MapIs.nodup {b : Nat} {kv : List (Int × Value)} (h : MapIs w b kv) : (mkeys kv).Nodup := by obtain ⟨es, c, h, hs, p⟩ := h; exact keys_of hs p

theorem find_look {es : Array MapEntry} {clock : Nat} {kv : List (Int × Value)} (hs : Stamped es clock) (hp : (es.toList.map ekv).Perm (kv.map ikv)) (k : Int) :
    (mget k kv = none ∧ Instr.findNow (.int .i64) (.int .i64 k) es.toList 0 = some none ∧ ∀ x ∈ es.toList, x.key ≠ .int .i64 k) ∨
    ∃ j e, mget k kv = some e.val ∧ Instr.findNow (.int .i64) (.int .i64 k) es.toList 0 = some (some (j, e.val)) ∧ es[j]? = some e ∧ e.key = .int .i64 k := by
  rcases findNow_spec (d := .int .i64) (k := .int .i64 k) rfl es.toList 0 (isKeys hp) with ⟨h1, h2⟩ | ⟨j, e, h1, h2, h3⟩
  · refine .inl ⟨mget_none.2 fun v hm => ?_, h1, h2⟩
    have : ikv (k, v) ∈ es.toList.map ekv := hp.mem_iff.2 (List.mem_map.2 ⟨_, hm, rfl⟩)
    obtain ⟨x, hx, e⟩ := List.mem_map.1 this
    exact h2 x hx (congrArg Prod.fst e)
  · refine .inr ⟨j, e, ?_, by simpa using h1, by simpa using h2, h3⟩
    have hm : e ∈ es.toList := List.mem_of_getElem? h2
    have : ekv e ∈ kv.map ikv := hp.mem_iff.1 (List.mem_map.2 ⟨e, hm, rfl⟩)
    obtain ⟨p, hpm, he⟩ := List.mem_map.1 this
    have e1 : p.1 = k := by have := congrArg Prod.fst he; simp [ikv, ekv, h3] at this; exact this
    have e2 : p.2 = e.val := congrArg Prod.snd he
    exact mget_of_mem (keys_of hs hp) (by rw [← e1, ← e2]; exact hpm)

section
variable {T K E : TypeId} {b : Nat} {kv : List (Int × Value)}

/-- 'm[k]' -/
theorem MapIs.lookup (h : MapIs w b kv) (ht : P.underlying T = some (.map K E)) (hk : P.underlying K = some (.int .i64)) (k : Int) {z : Value} (hz : ∀ w, (zeroValue E).run P w = .ok z w) :
    (Instr.lookup T (.map (some b)) (.int .i64 k) false).run P w = .ok ((mget k kv).getD z) w := by
  obtain ⟨es, c, hb, hs, hp⟩ := h
  rcases find_look hs hp k with ⟨h1, h2, _⟩ | ⟨j, e, h1, h2, _, _⟩
  · rw [h1]
    simp [Instr.lookup, run_underlying ht, MapKept.run_getObj_map hb, run_checkKey (d := .int .i64) (k := .int .i64 k) hk rfl, run_findKey hk h2, Result.andThen, hz]
  · rw [h1]
    simp [Instr.lookup, run_underlying ht, MapKept.run_getObj_map hb, run_checkKey (d := .int .i64) (k := .int .i64 k) hk rfl, run_findKey hk h2, Result.andThen]
/-- 'v, ok := m[k]' -/
theorem MapIs.lookup2 (h : MapIs w b kv) (ht : P.underlying T = some (.map K E)) (hk : P.underlying K = some (.int .i64)) (k : Int) {z : Value} (hz : ∀ w, (zeroValue E).run P w = .ok z w) :
    (Instr.lookup T (.map (some b)) (.int .i64 k) true).run P w = .ok (.tuple #[(mget k kv).getD z, .bool (mget k kv).isSome]) w := by
  obtain ⟨es, c, hb, hs, hp⟩ := h
  rcases find_look hs hp k with ⟨h1, h2, _⟩ | ⟨j, e, h1, h2, _, _⟩
  · rw [h1]
    simp [Instr.lookup, run_underlying ht, MapKept.run_getObj_map hb, run_checkKey (d := .int .i64) (k := .int .i64 k) hk rfl, run_findKey hk h2, Result.andThen, hz]
  · rw [h1]
    simp [Instr.lookup, run_underlying ht, MapKept.run_getObj_map hb, run_checkKey (d := .int .i64) (k := .int .i64 k) hk rfl, run_findKey hk h2, Result.andThen]

theorem perm_modify {es : Array MapEntry} {clock : Nat} (hs : Stamped es clock) {j : Nat} {e : MapEntry} (hj : es[j]? = some e) {k : Int} (hk : e.key = .int .i64 k) (v : Value) :
    ((es.modify j fun e' => { e' with key := e.key, val := v }).toList.map ekv).Perm ((e.key, v) :: (es.toList.map ekv).filter (offKey k)) := by
  have hp : (es.modify j fun e' => { e' with key := e.key, val := v }).toList = es.toList.set j { e with val := v } := by
    apply List.ext_getElem?
    intro i
    simp only [Array.getElem?_toList, Array.getElem?_modify, List.getElem?_set]
    by_cases h : j = i
    · subst h
      obtain ⟨hlt, hv⟩ := Array.getElem?_eq_some_iff.1 hj
      simp [hlt, hv]
    · simp [h]
  rw [hp]
  have hj' : es.toList[j]? = some e := by simpa using hj
  have hn := hs.2.2
  generalize es.toList = l at hj' hn
  clear hp hs hj
  induction l generalizing j with
  | nil => simp at hj'
  | cons x l ih =>
    cases j with
    | zero =>
      simp only [List.getElem?_cons_zero, Option.some.injEq] at hj'
      subst hj'
      simp only [List.set_cons_zero, List.map_cons, ekv]
      refine List.Perm.cons _ ?_
      have hx : ∀ y ∈ l, y.key ≠ x.key := fun y hy e => (List.nodup_cons.1 hn).1 (List.mem_map.2 ⟨y, hy, e⟩)
      rw [List.filter_cons_of_neg (by rw [offKey_iff]; simpa using hk), List.filter_eq_self.2]
      intro q hq
      obtain ⟨y, hy, rfl⟩ := List.mem_map.1 hq
      exact offKey_iff.2 (by rw [← hk]; exact hx y hy)
    | succ j =>
      simp only [List.getElem?_cons_succ] at hj'
      have hx : x.key ≠ e.key := fun h => (List.nodup_cons.1 hn).1 (List.mem_map.2 ⟨e, List.mem_of_getElem? hj', h.symm⟩)
      simp only [List.set_cons_succ, List.map_cons]
      rw [List.filter_cons_of_pos (offKey_iff.2 (by rw [← hk]; exact hx))]
      exact ((ih hj' (List.nodup_cons.1 hn).2).cons (ekv x)).trans (List.Perm.swap _ _ _)

theorem perm_mput {E : List (Value × Value)} (hS : Sorted kv) (hp : E.Perm (kv.map ikv)) (k : Int) (v : Value) :
    ((Value.int .i64 k, v) :: E.filter (offKey k)).Perm ((mput k v kv).map ikv) := by
  have h1 : (E.filter (offKey k)).Perm ((mdel k kv).map ikv) := by
    refine (hp.filter _).trans (List.Perm.of_eq ?_)
    rw [List.filter_map]
    rfl
  refine (h1.cons _).trans ?_
  show ((((k, v) :: mdel k kv).map ikv)).Perm _
  refine List.Perm.map _ ?_
  refine perm_of_mem ?_ (sorted_mput hS).nodup fun q => ?_
  · refine List.nodup_cons.2 ⟨fun h => ?_, (sorted_mdel hS).nodup⟩
    obtain ⟨p, hp, e⟩ := List.mem_map.1 h
    exact (mem_mdel.1 hp).2 e
  · rw [mem_mput hS, List.mem_cons, mem_mdel]

/-- 'm[k] = v' -/
theorem MapIs.update (h : MapIs w b kv) (hS : Sorted kv) (ht : P.underlying T = some (.map K E)) (hk : P.underlying K = some (.int .i64)) (k : Int) (v : Value) :
    ∃ o, (Instr.mapUpdate T (.map (some b)) (.int .i64 k) v).run P w = .ok () (w.putObj b o) ∧ MapIs (w.putObj b o) b (mput k v kv) := by
  obtain ⟨es, c, hb, hs, hp⟩ := h
  rcases find_look hs hp k with ⟨h1, h2, h3⟩ | ⟨j, e, h1, h2, hj, he⟩
  · refine ⟨.map (es.push { key := .int .i64 k, val := v, born := c }) (c + 1), ?_, _, _, World.putObj_heap_same (lt_of_heap hb), stamped_push hs h3, ?_⟩
    · simp [Instr.mapUpdate, run_underlying ht, MapKept.run_getObj_map hb, run_checkKey (d := .int .i64) (k := .int .i64 k) hk rfl, run_findKey hk h2, MapKept.run_setObj_map _ hb, Result.andThen, World.putObj]
    · refine List.Perm.trans ?_ (perm_mput hS hp k v)
      simp only [Array.toList_push, List.map_append, List.map_cons, List.map_nil, ekv]
      refine (List.perm_append_comm).trans ?_
      simp only [List.singleton_append]
      rw [List.filter_eq_self.2]
      · intro q hq
        obtain ⟨y, hy, rfl⟩ := List.mem_map.1 hq
        exact offKey_iff.2 (h3 y hy)
  · refine ⟨.map (es.modify j fun e' => { e' with key := e.key, val := v }) c, ?_, _, _, World.putObj_heap_same (lt_of_heap hb), stamped_modify hs _ _ (fun _ _ => rfl) (fun e' _ he' => by rw [hj] at he'; cases he'; rfl), ?_⟩
    · simp [Instr.mapUpdate, run_underlying ht, MapKept.run_getObj_map hb, run_checkKey (d := .int .i64) (k := .int .i64 k) hk rfl, run_findKey hk h2, MapKept.run_setObj_map _ hb, hj, he, run_keyThatStays (d := .int .i64) (k := .int .i64 k) rfl, Result.andThen, World.putObj]
    · refine (perm_modify hs hj he v).trans ?_
      rw [he]
      exact perm_mput hS hp k v

/-- 'delete(m, k)' -/
theorem MapIs.delete (h : MapIs w b kv) (ht : P.underlying T = some (.map K E)) (hk : P.underlying K = some (.int .i64)) (ty T2 : TypeId) (k : Int) :
    ∃ o, (Builtin.delete_ #[T, T2] ty #[.map (some b), .int .i64 k]).run P w = .ok (.tuple #[]) (w.putObj b o) ∧ MapIs (w.putObj b o) b (mdel k kv) := by
  obtain ⟨es, c, hb, hs, hp⟩ := h
  have hfil : ∀ l : List MapEntry, (l.map ekv).Perm (kv.map ikv) → ((l.map ekv).filter (offKey k)).Perm ((mdel k kv).map ikv) := by
    intro l hp
    refine (hp.filter _).trans (List.Perm.of_eq ?_)
    rw [List.filter_map]
    rfl
  rcases find_look hs hp k with ⟨h1, h2, h3⟩ | ⟨j, e, h1, h2, hj, he⟩
  · refine ⟨.map es c, ?_, _, _, World.putObj_heap_same (lt_of_heap hb), hs, ?_⟩
    · simp [Builtin.delete_, run_underlying ht, MapKept.run_getObj_map hb, run_checkKey (d := .int .i64) (k := .int .i64 k) hk rfl, run_findKey hk h2, MapKept.run_setObj_map _ hb, Result.andThen, World.putObj]
    · refine List.Perm.trans (List.Perm.of_eq ?_) (hfil _ hp)
      rw [List.filter_eq_self.2]
      intro q hq
      obtain ⟨y, hy, rfl⟩ := List.mem_map.1 hq
      exact offKey_iff.2 (h3 y hy)
  · refine ⟨.map (es.eraseIdxIfInBounds j) c, ?_, _, _, World.putObj_heap_same (lt_of_heap hb), stamped_erase hs j, ?_⟩
    · simp [Builtin.delete_, run_underlying ht, MapKept.run_getObj_map hb, run_checkKey (d := .int .i64) (k := .int .i64 k) hk rfl, run_findKey hk h2, MapKept.run_setObj_map _ hb, Result.andThen, World.putObj]
    · refine List.Perm.trans (List.Perm.of_eq ?_) (hfil _ hp)
      have hlt := (Array.getElem?_eq_some_iff.1 hj).1
      have e1 : (es.eraseIdxIfInBounds j).toList = es.toList.eraseIdx j := by
        unfold Array.eraseIdxIfInBounds
        rw [dif_pos hlt]; simp
      rw [e1]
      have hj' : es.toList[j]? = some e := by simpa using hj
      have hn := hs.2.2
      generalize es.toList = l at hj' hn
      clear hp hs hj e1 hlt hb h2 h1
      induction l generalizing j with
      | nil => simp at hj'
      | cons x l ih =>
        cases j with
        | zero =>
          simp only [List.getElem?_cons_zero, Option.some.injEq] at hj'
          subst hj'
          have hx : ∀ y ∈ l, y.key ≠ x.key := fun y hy e => (List.nodup_cons.1 hn).1 (List.mem_map.2 ⟨y, hy, e⟩)
          simp only [List.eraseIdx_cons_zero, List.map_cons]
          rw [List.filter_cons_of_neg (by rw [offKey_iff]; simpa [ekv] using he), List.filter_eq_self.2]
          intro q hq
          obtain ⟨y, hy, rfl⟩ := List.mem_map.1 hq
          exact offKey_iff.2 (by rw [← he]; exact hx y hy)
        | succ j =>
          simp only [List.getElem?_cons_succ] at hj'
          have hx : x.key ≠ e.key := fun h => (List.nodup_cons.1 hn).1 (List.mem_map.2 ⟨e, List.mem_of_getElem? hj', h.symm⟩)
          simp only [List.eraseIdx_cons_succ, List.map_cons]
          rw [List.filter_cons_of_pos (offKey_iff.2 (by rw [← he]; exact hx)), ih j ‹_› (List.nodup_cons.1 hn).2]

/-- 'len(m)' -/
theorem MapIs.len (h : MapIs w b kv) (ht : P.underlying T = some (.map K E)) (ty : TypeId) :
    (Builtin.len_ #[T] ty #[.map (some b)]).run P w = .ok (.int .i64 kv.length) w := by
  obtain ⟨es, c, hb, hs, hp⟩ := h
  have := hp.length_eq
  simp only [List.length_map, Array.length_toList] at this
  simp [Builtin.len_, run_underlying ht, MapKept.run_getObj_map hb, Result.andThen, goInt, this]

end

/-! ### ranging over a map -/

/-- Block r is an iterator over the map in block b, which holds kv; rest is still to come. -/
def Iter (w : World) (r b : Nat) (kv rest : List (Int × Value)) : Prop :=
  ∃ es clock since seen c0, w.heap[r]? = some (.mapIter (some b) since seen c0) ∧ w.heap[b]? = some (.map es clock) ∧ Stamped es clock ∧ (es.toList.map ekv).Perm (kv.map ikv) ∧
    (∀ x ∈ es.toList, x.born < since) ∧ since ≤ c0 ∧ since ≤ clock ∧ (((leftOf es seen).toList.map ekv).Perm (rest.map ikv))

def toCome (w : World) (r b : Nat) : Nat :=
  match w.heap[r]?, w.heap[b]? with
  | some (.mapIter _ _ seen _), some (.map es _) => (leftOf es seen).size
  | _, _ => 0

section
variable {T K E : TypeId} {b r : Nat} {kv rest : List (Int × Value)}

theorem Iter.map (h : Iter w r b kv rest) : MapIs w b kv := by
  obtain ⟨es, c, s, sn, c0, h1, h2, h3, h4, _⟩ := h; exact ⟨es, c, h2, h3, h4⟩
theorem Iter.ltr (h : Iter w r b kv rest) : r < w.heap.size := by obtain ⟨es, c, s, sn, c0, h1, _⟩ := h; exact lt_of_heap h1
theorem Iter.toCome (h : Iter w r b kv rest) : toCome w r b = rest.length := by
  obtain ⟨es, c, s, sn, c0, h1, h2, h3, h4, h5, h6, h6', h7⟩ := h
  have := h7.length_eq
  simp only [List.length_map, Array.length_toList] at this
  simp [Priory.toCome, h1, h2, this]
theorem Iter.of {w' : World} (h : Iter w r b kv rest) (e1 : w'.heap[r]? = w.heap[r]?) (e2 : w'.heap[b]? = w.heap[b]?) : Iter w' r b kv rest := by
  obtain ⟨es, c, s, sn, c0, h1, h2, h3⟩ := h; exact ⟨es, c, s, sn, c0, e1.trans h1, e2.trans h2, h3⟩
theorem Iter.fr {w' : World} {S : Nat → Prop} (h : Iter w r b kv rest) (f : Fr S w w') (hr : ¬ S r) (hb : ¬ S b) : Iter w' r b kv rest :=
  h.of (f.same r h.ltr hr) (f.same b h.map.lt hb)
theorem Iter.perm {kv' rest' : List (Int × Value)} (h : Iter w r b kv rest) (hp : kv.Perm kv') (hq : rest.Perm rest') : Iter w r b kv' rest' := by
  obtain ⟨es, c, s, sn, c0, h1, h2, h3, h4, h5, h6, h6', h7⟩ := h
  exact ⟨es, c, s, sn, c0, h1, h2, h3, h4.trans (hp.map _), h5, h6, h6', h7.trans (hq.map _)⟩
theorem Iter.sub (h : Iter w r b kv rest) : ∀ q ∈ rest, q ∈ kv := by
  intro q hq
  obtain ⟨es, c, s, sn, c0, h1, h2, h3, h4, h5, h6, h6', h7⟩ := h
  have m1 : ikv q ∈ (leftOf es sn).toList.map ekv := h7.mem_iff.2 (List.mem_map.2 ⟨q, hq, rfl⟩)
  obtain ⟨x, hx, e⟩ := List.mem_map.1 m1
  have hx' : x ∈ es.toList := by simp [leftOf] at hx ⊢; exact hx.1
  have m2 : ikv q ∈ kv.map ikv := h4.mem_iff.1 (by rw [← e]; exact List.mem_map.2 ⟨x, hx', rfl⟩)
  obtain ⟨p, hp, e2⟩ := List.mem_map.1 m2
  have e3 : p = q := by
    obtain ⟨p1, p2⟩ := p; obtain ⟨q1, q2⟩ := q
    simp only [ikv, Prod.mk.injEq, Value.int.injEq, true_and] at e2
    rw [e2.1, e2.2]
  exact e3 ▸ hp

/-- 'range m' -/
theorem MapIs.range (h : MapIs w b kv) (ht : P.underlying T = some (.map K E)) :
    ∃ o, (Instr.range T (.map (some b))).run P w = .ok (.pointer (some ⟨w.heap.size, 0, none⟩)) (w.alloc o) ∧ Iter (w.alloc o) w.heap.size b kv kv := by
  have hlt := h.lt
  obtain ⟨es, c, hb, hs, hp⟩ := h
  refine ⟨_, run_range_map w T K E b es c ht hb, es, c, c, #[], c, World.alloc_heap_new _ _, (Below.heap_alloc _ _ _ hlt).trans hb, hs, hp, hs.1, Nat.le_refl _, Nat.le_refl _, ?_⟩
  have : leftOf es #[] = es := by simp [leftOf]
  rw [this]; exact hp

theorem perm_left {es : Array MapEntry} {seen : Array Nat} {e : MapEntry} (hn : (es.toList.map (·.born)).Nodup) (he : e ∈ (leftOf es seen).toList) :
    (leftOf es seen).toList.Perm (e :: (leftOf es (seen.push e.born)).toList) := by
  have n1 : es.toList.Nodup := List.Pairwise.of_map (·.born) (fun a b h e => h (by rw [e])) hn
  have hm : ∀ x, x ∈ (leftOf es seen).toList ↔ x ∈ es.toList ∧ x.born ∉ seen := by intro x; simp [leftOf]
  have hm' : ∀ x, x ∈ (leftOf es (seen.push e.born)).toList ↔ x ∈ es.toList ∧ x.born ∉ seen ∧ x.born ≠ e.born := by intro x; simp [leftOf]
  have n2 : (leftOf es seen).toList.Nodup := by simp only [leftOf, Array.toList_filter]; exact n1.filter _
  have n3 : (leftOf es (seen.push e.born)).toList.Nodup := by simp only [leftOf, Array.toList_filter]; exact n1.filter _
  refine (List.perm_ext_iff_of_nodup n2 (List.nodup_cons.2 ⟨fun h => ((hm' e).1 h).2.2 rfl, n3⟩)).2 fun x => ?_
  rw [hm, List.mem_cons, hm']
  have inj : ∀ x ∈ es.toList, ∀ y ∈ es.toList, x.born = y.born → x = y := by
    intro x hx y hy h
    have : es.toList.Pairwise (fun a b => a.born ≠ b.born) := List.pairwise_map.1 hn
    by_cases hxy : x = y
    · exact hxy
    · clear n1 hm hm' n2 n3
      revert this hx hy
      induction es.toList with
      | nil => intro hx; cases hx
      | cons z l ih =>
        intro hx hy hp
        obtain ⟨p1, p2⟩ := List.pairwise_cons.1 hp
        cases hx with
        | head => cases hy with
          | head => rfl
          | tail _ hy => exact (p1 _ hy h).elim
        | tail _ hx => cases hy with
          | head => exact (p1 _ hx h.symm).elim
          | tail _ hy => exact ih hx hy p2
  constructor
  · rintro ⟨h1, h2⟩
    by_cases hb : x.born = e.born
    · exact .inl (inj x h1 e ((hm e).1 he).1 hb)
    · exact .inr ⟨h1, h2, hb⟩
  · rintro (h | ⟨h1, h2, _⟩)
    · subst h; exact (hm x).1 he
    · exact ⟨h1, h2⟩

/-- The iterator's step. -/
theorem Iter.next (h : Iter w r b kv rest) (hne : r ≠ b) (ty : TypeId) :
    (rest = [] ∧ (Instr.next (.pointer (some ⟨r, 0, none⟩)) false ty).run P w = .ok (.tuple #[.bool false]) w) ∨
    ∃ (k : Int) (v : Value) (rest' : List (Int × Value)) (w1 : World), rest.Perm ((k, v) :: rest') ∧
      (Instr.next (.pointer (some ⟨r, 0, none⟩)) false ty).run P w = .ok (.tuple #[.bool true, .int .i64 k, v]) w1 ∧
      (Instr.entry (.pointer (some ⟨r, 0, none⟩))).run P w1 = .ok (.tuple #[.int .i64 k, v]) w1 ∧
      Iter w1 r b kv rest' ∧ Fr (fun x => x = r) w w1 ∧ w1.heap.size = w.heap.size := by
  obtain ⟨es, c, s, sn, c0, h1, h2, h3, h4, h5, h6, h6', h7⟩ := h
  rcases run_next_at (P := P) w ty r b s c0 sn es c h1 h2 h5 h6 with ⟨h0, hrun⟩ | ⟨e, he, w1, hw1, hrun⟩
  · left
    have := h7.length_eq
    simp only [List.length_map, Array.length_toList] at this
    exact ⟨List.eq_nil_of_length_eq_zero (by omega), hrun⟩
  · right
    have hp := perm_left h3.2.1 he
    have hp2 := (hp.map ekv).symm.trans h7
    have hm : ekv e ∈ rest.map ikv := hp2.mem_iff.1 (by simp)
    obtain ⟨q, hq, eq⟩ := List.mem_map.1 hm
    obtain ⟨l1, l2, rfl⟩ := List.append_of_mem hq
    have hk : e.key = .int .i64 q.1 := (congrArg Prod.fst eq).symm
    have hv : e.val = q.2 := (congrArg Prod.snd eq).symm
    have hsz : w1.heap.size = w.heap.size := by rcases hw1 with rfl | rfl <;> rfl
    have hheap : w1.heap = w.heap := by rcases hw1 with rfl | rfl <;> rfl
    have hr : r < w1.heap.size := by rw [hsz]; exact lt_of_heap h1
    have g1 : (ChangeMaps.setBlock w1 r (.mapIter (some b) s (sn.push e.born) c)).heap[r]? = some (.mapIter (some b) s (sn.push e.born) c) := World.putObj_heap_same hr
    have g2 : (ChangeMaps.setBlock w1 r (.mapIter (some b) s (sn.push e.born) c)).heap[b]? = some (.map es c) := (World.putObj_heap_other (w := w1) hne.symm).trans (by rw [hheap]; exact h2)
    refine ⟨q.1, q.2, l1 ++ l2, _, List.perm_middle, ?_, ?_, ⟨es, c, s, _, c, g1, g2, h3, h4, h5, h6', h6', ?_⟩, ?_, ?_⟩
    · rw [← hk, ← hv]; exact hrun
    · rw [← hk, ← hv]
      exact run_entry_at _ r b s sn es c e g1 g2 (by simp [leftOf] at he ⊢; exact he.1) h3.2.1
    · have h8 : (ekv e :: (leftOf es (sn.push e.born)).toList.map ekv).Perm (ikv q :: (l1 ++ l2).map ikv) := by
        refine hp2.trans ?_
        have := (List.perm_middle (a := q) (l₁ := l1) (l₂ := l2)).map ikv
        exact this
      rw [← eq] at h8
      exact h8.cons_inv
    · have f : Fr (fun x => x = r) w w1 := by
        rcases hw1 with rfl | rfl
        · exact Fr.refl _ _
        · exact (Fr.refl _ _).drew
      exact f.putObj r _ (fun _ => rfl)
    · show (w1.putObj r _).heap.size = _
      rw [World.putObj_size, hsz]

/-- The iterator's step, the entries being those of a list of whatever kind. -/
theorem Iter.step {α : Type} {f : α → Int × Value} {l : List α} (h : Iter w r b kv (l.map f)) (hne : r ≠ b) (ty : TypeId) :
    (l = [] ∧ (Instr.next (.pointer (some ⟨r, 0, none⟩)) false ty).run P w = .ok (.tuple #[.bool false]) w) ∨
    ∃ (p : α) (l' : List α) (w1 : World), l.Perm (p :: l') ∧
      (Instr.next (.pointer (some ⟨r, 0, none⟩)) false ty).run P w = .ok (.tuple #[.bool true, .int .i64 (f p).1, (f p).2]) w1 ∧
      (Instr.entry (.pointer (some ⟨r, 0, none⟩))).run P w1 = .ok (.tuple #[.int .i64 (f p).1, (f p).2]) w1 ∧
      Iter w1 r b kv (l'.map f) ∧ Fr (fun x => x = r) w w1 ∧ w1.heap.size = w.heap.size := by
  rcases h.next (P := P) hne ty with ⟨h0, hr⟩ | ⟨k, v, rest', w1, hp, hn, he, hi, hf, hs⟩
  · exact .inl ⟨List.map_eq_nil_iff.1 h0, hr⟩
  · right
    obtain ⟨p, hp1, e⟩ := List.mem_map.1 (hp.mem_iff.2 (.head _))
    obtain ⟨l1, l2, rfl⟩ := List.append_of_mem hp1
    have e1 : (f p).1 = k := by rw [e]
    have e2 : (f p).2 = v := by rw [e]
    refine ⟨p, l1 ++ l2, w1, List.perm_middle, by rw [e1, e2]; exact hn, by rw [e1, e2]; exact he, hi.perm (List.Perm.refl _) ?_, hf, hs⟩
    have : (f p :: (l1 ++ l2).map f).Perm ((k, v) :: rest') := ((List.perm_middle (a := p) (l₁ := l1) (l₂ := l2)).map f).symm.trans hp
    rw [e] at this
    exact this.cons_inv.symm
end
end Go.Priory
