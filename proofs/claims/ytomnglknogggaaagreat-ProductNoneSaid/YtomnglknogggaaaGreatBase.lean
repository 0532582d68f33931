/- Frames of memory, and maps keyed by int whose order of entries is left open: what the operations on them do. No condition. -/
import Derived.WalkKit
import Derived.WalkSpells
import Derived.MapKept
import Derived.Maps.RangeRun
import Derived.RangeFuncRecord
import Derived.Deep.Draws
namespace Go.Priory
open Go.RowKit Go.MapKept

/-! ### frames -/

/-- Of what was there, nothing but blocks of S has turned. -/
structure Fr (S : Nat → Prop) (w w' : World) : Prop where
  os : w'.os = w.os
  tape : w'.tape = w.tape
  output : w'.output = w.output
  size : w.heap.size ≤ w'.heap.size
  same : ∀ b, b < w.heap.size → ¬ S b → w'.heap[b]? = w.heap[b]?

def Nil : Nat → Prop := fun _ => False

theorem Fr.refl (S : Nat → Prop) (w : World) : Fr S w w := ⟨rfl, rfl, rfl, Nat.le_refl _, fun _ _ _ => rfl⟩
theorem Fr.trans {S T : Nat → Prop} {a b c : World} (h : Fr S a b) (k : Fr T b c) (hT : ∀ x, x < a.heap.size → T x → S x) : Fr S a c :=
  ⟨k.os.trans h.os, k.tape.trans h.tape, k.output.trans h.output, Nat.le_trans h.size k.size,
    fun x hx hn => (k.same x (Nat.lt_of_lt_of_le hx h.size) (fun t => hn (hT x hx t))).trans (h.same x hx hn)⟩
theorem Fr.mono {S T : Nat → Prop} {a b : World} (h : Fr S a b) (hT : ∀ x, S x → T x) : Fr T a b :=
  ⟨h.os, h.tape, h.output, h.size, fun x hx hn => h.same x hx (fun s => hn (hT x s))⟩
theorem Fr.alloc {S : Nat → Prop} {a w : World} (h : Fr S a w) (o : Obj) : Fr S a (w.alloc o) :=
  h.trans (T := Nil) ⟨rfl, rfl, rfl, by simp, fun k hk _ => Below.heap_alloc _ _ _ hk⟩ (fun _ _ h => h.elim)
theorem Fr.drew {S : Nat → Prop} {a w : World} (h : Fr S a w) : Fr S a w.drew := ⟨h.os, h.tape, h.output, h.size, h.same⟩
theorem Fr.drewN {S : Nat → Prop} {a w : World} (h : Fr S a w) (n : Nat) : Fr S a (w.drewN n) := ⟨h.os, h.tape, h.output, h.size, h.same⟩
theorem Fr.setCell {S : Nat → Prop} {a w : World} (h : Fr S a w) (p : Addr) (u : Value) (hp : p.block < a.heap.size → S p.block) : Fr S a (w.setCell p u) :=
  h.trans (T := fun b => b = p.block) ⟨rfl, rfl, rfl, by simp [World.setCell], fun k _ hk => Below.heap_setCell _ _ _ _ hk⟩
    (fun x hx e => e ▸ hp (e ▸ hx))
theorem Fr.putObj {S : Nat → Prop} {a w : World} (h : Fr S a w) (r : Nat) (o : Obj) (hp : r < a.heap.size → S r) : Fr S a (w.putObj r o) :=
  h.trans (T := fun b => b = r) ⟨rfl, rfl, rfl, by simp, fun k _ hk => World.putObj_heap_other hk⟩ (fun x hx e => e ▸ hp (e ▸ hx))
theorem Fr.cell {S : Nat → Prop} {w w' : World} (h : Fr S w w') {p : Addr} (hb : p.block < w.heap.size) (hn : ¬ S p.block) : w'.cell? p = w.cell? p :=
  World.cell?_of_block (w := w) (h.same p.block hb hn)
theorem Fr.frozen {S : Nat → Prop} {w w' : World} (h : Fr S w w') {p : Addr} (hb : p.block < w.heap.size) (hn : ¬ S p.block) : w'.frozen? p = w.frozen? p :=
  World.frozen?_of_block (w := w) (h.same p.block hb hn)
theorem Fr.below {S : Nat → Prop} {w w' : World} (h : Fr S w w') {B : Nat} (hB : ∀ x, x < B → ¬ S x) (hBw : B ≤ w.heap.size) : Below B w w' :=
  ⟨h.os, h.tape, h.output, h.size, fun k hk => h.same k (Nat.lt_of_lt_of_le hk hBw) (hB k hk)⟩

/-- S, and what is new. -/
def Gr (S : Nat → Prop) (w w' : World) : Nat → Prop := fun x => S x ∨ (w.heap.size ≤ x ∧ x < w'.heap.size)
theorem Gr.sub {S : Nat → Prop} {w w' : World} : ∀ x, S x → Gr S w w' x := fun _ h => .inl h
theorem Gr.not {S : Nat → Prop} {w w' : World} {x : Nat} (h : ¬ S x) (hl : x < w.heap.size) : ¬ Gr S w w' x := fun g => g.elim h (fun g => by omega)

theorem lt_of_heap {w : World} {b : Nat} {o : Obj} (h : w.heap[b]? = some o) : b < w.heap.size := (Array.getElem?_eq_some_iff.1 h).1

/-- Block b holds the cells c, none of them frozen. -/
def Blk (w : World) (b : Nat) (c : List Value) : Prop := ∃ T, w.heap[b]? = some (.cells c.toArray T (0, 0))

theorem Blk.lt {w : World} {b : Nat} {c : List Value} (h : Blk w b c) : b < w.heap.size := by obtain ⟨T, h⟩ := h; exact lt_of_heap h
theorem Blk.cell {w : World} {b : Nat} {c : List Value} (h : Blk w b c) (o : Nat) : w.cell? ⟨b, o, none⟩ = c[o]? := by
  obtain ⟨T, h⟩ := h
  simp [World.cell?, h]
theorem Blk.frozen {w : World} {b : Nat} {c : List Value} (h : Blk w b c) (o : Nat) : w.frozen? ⟨b, o, none⟩ = false := by
  obtain ⟨T, h⟩ := h
  simp [World.frozen?, h]
theorem Blk.of {w w' : World} {b : Nat} {c : List Value} (h : Blk w b c) (e : w'.heap[b]? = w.heap[b]?) : Blk w' b c := by
  obtain ⟨T, h⟩ := h
  exact ⟨T, e.trans h⟩
theorem Blk.fr {S : Nat → Prop} {w w' : World} {b : Nat} {c : List Value} (h : Blk w b c) (f : Fr S w w') (hn : ¬ S b) : Blk w' b c :=
  h.of (f.same b h.lt hn)
theorem Blk.alloc {w : World} {b : Nat} {c : List Value} (h : Blk w b c) (o : Obj) : Blk (w.alloc o) b c := h.of (Below.heap_alloc _ _ _ h.lt)
theorem Blk.drew {w : World} {b : Nat} {c : List Value} (h : Blk w b c) : Blk w.drew b c := h
theorem Blk.drewN {w : World} {b : Nat} {c : List Value} (h : Blk w b c) (n : Nat) : Blk (w.drewN n) b c := h
theorem Blk.setOther {w : World} {b : Nat} {c : List Value} (h : Blk w b c) (p : Addr) (v : Value) (hne : b ≠ p.block) : Blk (w.setCell p v) b c :=
  h.of (Below.heap_setCell _ _ _ _ hne)
theorem Blk.putOther {w : World} {b : Nat} {c : List Value} (h : Blk w b c) (r : Nat) (o : Obj) (hne : b ≠ r) : Blk (w.putObj r o) b c :=
  h.of (World.putObj_heap_other hne)
theorem Blk.new (w : World) (c : List Value) (T : TypeId) : Blk (w.alloc (.cells c.toArray T)) w.heap.size c := ⟨T, World.alloc_heap_new w _⟩
theorem Blk.set {w : World} {b : Nat} {c : List Value} (h : Blk w b c) (o : Nat) (v : Value) : Blk (w.setCell ⟨b, o, none⟩ v) b (c.set o v) := by
  obtain ⟨T, h⟩ := h
  refine ⟨T, ?_⟩
  obtain ⟨hlt, hk⟩ := Array.getElem?_eq_some_iff.1 h
  show (w.heap.modify b _)[b]? = _
  rw [Array.getElem?_eq_getElem (by rw [Array.size_modify]; exact hlt), Array.getElem_modify_self, hk]
  simp

/-! ### lists of pairs, by rising mkeys -/
section
variable {α β : Type}

def mget (k : Int) : List (Int × α) → Option α
  | [] => none
  | p :: l => if k = p.1 then some p.2 else mget k l
/-- k's is v, in its place. -/
def mput (k : Int) (v : α) : List (Int × α) → List (Int × α)
  | [] => [(k, v)]
  | p :: l => if k < p.1 then (k, v) :: p :: l else if k = p.1 then (k, v) :: l else p :: mput k v l
def mdel (k : Int) (l : List (Int × α)) : List (Int × α) := l.filter fun p => !(p.1 == k)
def mkeys (l : List (Int × α)) : List Int := l.map (·.1)
def Sorted (l : List (Int × α)) : Prop := l.Pairwise fun p q => p.1 < q.1

theorem Sorted.nodup {l : List (Int × α)} (h : Sorted l) : (mkeys l).Nodup := by
  unfold mkeys List.Nodup
  rw [List.pairwise_map]
  exact h.imp fun h => by omega

theorem mget_mem {k : Int} {v : α} : ∀ {l : List (Int × α)}, mget k l = some v → (k, v) ∈ l
  | [], h => by simp [mget] at h
  | p :: l, h => by
    unfold mget at h
    split at h
    · rename_i e; cases h; subst e; exact .head _
    · exact .tail _ (mget_mem h)
theorem mget_of_mem {k : Int} {v : α} : ∀ {l : List (Int × α)}, (mkeys l).Nodup → (k, v) ∈ l → mget k l = some v
  | p :: l, hn, h => by
    obtain ⟨h1, h2⟩ := List.nodup_cons.1 hn
    unfold mget
    cases h with
    | head => simp
    | tail _ h =>
      have : k ≠ p.1 := fun e => h1 (List.mem_map.2 ⟨(k, v), h, e⟩)
      rw [if_neg this]
      exact mget_of_mem h2 h
theorem mget_none {k : Int} : ∀ {l : List (Int × α)}, mget k l = none ↔ ∀ v, (k, v) ∉ l
  | [] => by simp [mget]
  | p :: l => by
    unfold mget
    split
    · rename_i e; subst e
      constructor
      · intro h; cases h
      · intro h; exact (h p.2 (.head _)).elim
    · rename_i e
      rw [mget_none]
      constructor
      · intro h v hm
        cases hm with
        | head => exact e rfl
        | tail _ hm => exact h v hm
      · exact fun h v hm => h v (.tail _ hm)
theorem mget_none_keys {k : Int} {l : List (Int × α)} : mget k l = none ↔ k ∉ mkeys l := by
  rw [mget_none]
  constructor
  · intro h hm
    obtain ⟨p, hp, e⟩ := List.mem_map.1 hm
    exact h p.2 (by rw [← e]; exact hp)
  · exact fun h v hm => h (List.mem_map.2 ⟨_, hm, rfl⟩)
theorem mget_perm {k : Int} {l l' : List (Int × α)} (hp : l.Perm l') (hn : (mkeys l).Nodup) : mget k l = mget k l' := by
  have hn' : (mkeys l').Nodup := ((hp.map (fun p : Int × α => p.1)).nodup_iff).1 hn
  cases h : mget k l with
  | some v => exact (mget_of_mem hn' (hp.mem_iff.1 (mget_mem h))).symm
  | none => exact (mget_none.2 fun v hm => mget_none.1 h v (hp.mem_iff.2 hm)).symm
theorem mem_mput {k : Int} {v : α} {q : Int × α} : ∀ {l : List (Int × α)}, Sorted l → (q ∈ mput k v l ↔ q = (k, v) ∨ (q ∈ l ∧ q.1 ≠ k))
  | [], _ => by simp [mput]
  | p :: l, hs => by
    obtain ⟨h1, h2⟩ := List.pairwise_cons.1 hs
    unfold mput
    split
    · rename_i hlt
      simp only [List.mem_cons]
      constructor
      · rintro (h | h | h)
        · exact .inl h
        · exact .inr ⟨.inl h, by rw [h]; omega⟩
        · exact .inr ⟨.inr h, by have := h1 q h; omega⟩
      · rintro (h | ⟨h | h, _⟩)
        · exact .inl h
        · exact .inr (.inl h)
        · exact .inr (.inr h)
    · split
      · rename_i e
        simp only [List.mem_cons]
        constructor
        · rintro (h | h)
          · exact .inl h
          · exact .inr ⟨.inr h, by have := h1 q h; omega⟩
        · rintro (h | ⟨h | h, hne⟩)
          · exact .inl h
          · subst h; exact (hne e.symm).elim
          · exact .inr h
      · rename_i hnlt e
        simp only [List.mem_cons, mem_mput h2]
        constructor
        · rintro (h | h | h)
          · exact .inr ⟨.inl h, by rw [h]; exact fun h => e h.symm⟩
          · exact .inl h
          · exact .inr ⟨.inr h.1, h.2⟩
        · rintro (h | ⟨h | h, hne⟩)
          · exact .inr (.inl h)
          · exact .inl h
          · exact .inr (.inr ⟨h, hne⟩)
theorem sorted_mput {k : Int} {v : α} : ∀ {l : List (Int × α)}, Sorted l → Sorted (mput k v l)
  | [], _ => by simp [mput, Sorted]
  | p :: l, hs => by
    obtain ⟨h1, h2⟩ := List.pairwise_cons.1 hs
    unfold mput
    split
    · rename_i hlt
      refine List.pairwise_cons.2 ⟨fun q hq => ?_, hs⟩
      rcases List.mem_cons.1 hq with h | h
      · rw [h]; exact hlt
      · have := h1 q h; simp; omega
    · split
      · rename_i e
        refine List.pairwise_cons.2 ⟨fun q hq => ?_, h2⟩
        have := h1 q hq; simp; omega
      · rename_i hnlt e
        refine List.pairwise_cons.2 ⟨fun q hq => ?_, sorted_mput h2⟩
        rcases (mem_mput h2).1 hq with h | h
        · rw [h]; simp; omega
        · exact h1 q h.1
theorem sorted_mdel {k : Int} {l : List (Int × α)} (h : Sorted l) : Sorted (mdel k l) := h.filter _
theorem mem_mdel {k : Int} {q : Int × α} {l : List (Int × α)} : q ∈ mdel k l ↔ q ∈ l ∧ q.1 ≠ k := by simp [mdel]
theorem mget_mput {k j : Int} {v : α} {l : List (Int × α)} (hs : Sorted l) : mget j (mput k v l) = if j = k then some v else mget j l := by
  split
  · rename_i e
    exact mget_of_mem (sorted_mput hs).nodup ((mem_mput hs).2 (.inl (by rw [e])))
  · rename_i e
    cases h : mget j l with
    | some u => exact mget_of_mem (sorted_mput hs).nodup ((mem_mput hs).2 (.inr ⟨mget_mem h, e⟩))
    | none =>
      refine mget_none.2 fun u hm => ?_
      rcases (mem_mput hs).1 hm with h' | h'
      · exact e (congrArg Prod.fst h')
      · exact mget_none.1 h u h'.1
theorem mget_mdel {k j : Int} {l : List (Int × α)} (hs : Sorted l) : mget j (mdel k l) = if j = k then none else mget j l := by
  split
  · rename_i e
    exact mget_none.2 fun u hm => (mem_mdel.1 hm).2 e
  · rename_i e
    cases h : mget j l with
    | some u => exact mget_of_mem (sorted_mdel hs).nodup (mem_mdel.2 ⟨mget_mem h, e⟩)
    | none => exact mget_none.2 fun u hm => mget_none.1 h u (mem_mdel.1 hm).1
theorem perm_of_mem {l l' : List (Int × α)} (hn : (mkeys l).Nodup) (hn' : (mkeys l').Nodup) (h : ∀ q, q ∈ l ↔ q ∈ l') : l.Perm l' := by
  have n1 : l.Nodup := List.Pairwise.of_map (·.1) (fun a b h e => h (by rw [e])) hn
  have n2 : l'.Nodup := List.Pairwise.of_map (·.1) (fun a b h e => h (by rw [e])) hn'
  exact (List.perm_ext_iff_of_nodup n1 n2).2 h
theorem sorted_ext {l l' : List (Int × α)} (hs : Sorted l) (hs' : Sorted l') (h : ∀ q, q ∈ l ↔ q ∈ l') : l = l' :=
  List.Perm.eq_of_pairwise (le := fun p q : Int × α => p.1 < q.1) (fun a b _ _ h1 h2 => by omega) hs hs' (perm_of_mem hs.nodup hs'.nodup h)
theorem mkeys_map (f : α → β) (l : List (Int × α)) : mkeys (l.map fun p => (p.1, f p.2)) = mkeys l := by simp [mkeys, Function.comp_def]
theorem sorted_map (f : α → β) {l : List (Int × α)} : Sorted (l.map fun p => (p.1, f p.2)) ↔ Sorted l := by
  unfold Sorted; rw [List.pairwise_map]
theorem mget_map (f : α → β) (k : Int) : ∀ (l : List (Int × α)), mget k (l.map fun p => (p.1, f p.2)) = (mget k l).map f
  | [] => rfl
  | p :: l => by simp only [List.map_cons, mget, mget_map f k l]; split <;> rfl
theorem mput_map (f : α → β) (k : Int) (v : α) : ∀ (l : List (Int × α)), mput k (f v) (l.map fun p => (p.1, f p.2)) = (mput k v l).map fun p => (p.1, f p.2)
  | [] => rfl
  | p :: l => by
    simp only [List.map_cons, mput, mput_map f k v l]
    split
    · rfl
    · split <;> rfl
theorem mdel_map (f : α → β) (k : Int) (l : List (Int × α)) : mdel k (l.map fun p => (p.1, f p.2)) = (mdel k l).map fun p => (p.1, f p.2) := by
  simp [mdel, List.filter_map, Function.comp_def]
end

end Go.Priory
