/- Slices that are read: where they lie, and what they hold. No condition. -/
import Derived.Test.YtomnglknogggaaaGreatDraw
import Derived.Test.YtomnglknogggaaaGreatOps
import Derived.OwnWalk
import Derived.Maps.AppendAt
namespace Go.Priory
open Go.RowKit

/-- v is a slice of elements of k cells each; its cells are cs; they lie in a block of which p holds. -/
def SlcIn (p : Nat → Prop) (w : World) (k : Nat) (v : Value) (cs : List Value) : Prop :=
  ∃ a n cap, v = .slice a n cap ∧ cs.length = n * k ∧ n ≤ 9223372036854775807 ∧ (n = 0 ∨ ∃ b off, a = some ⟨b, off, none⟩ ∧ p b ∧ ∀ j u, cs[j]? = some u → w.cell? ⟨b, off + j, none⟩ = some u)

theorem SlcIn.of_same {p : Nat → Prop} {w w' : World} {k : Nat} {v : Value} {cs : List Value} (h : SlcIn p w k v cs) (hs : ∀ b, b < w.heap.size → p b → w'.heap[b]? = w.heap[b]?) : SlcIn p w' k v cs := by
  obtain ⟨a, n, cap, rfl, h1, h3, h2⟩ := h
  refine ⟨a, n, cap, rfl, h1, h3, ?_⟩
  rcases h2 with h2 | ⟨b, off, e, hp, hc⟩
  · exact .inl h2
  · refine .inr ⟨b, off, e, hp, fun j u hj => ?_⟩
    have := hc j u hj
    have hlt : b < w.heap.size := World.block_lt_of_cell? (w := w) (a := ⟨b, off + j, none⟩) this
    rw [World.cell?_of_block (w := w) (hs b hlt hp)]; exact this
theorem SlcIn.fr {p S : Nat → Prop} {w w' : World} {k : Nat} {v : Value} {cs : List Value} (h : SlcIn p w k v cs) (f : Fr S w w') (hn : ∀ b, p b → ¬ S b) : SlcIn p w' k v cs :=
  h.of_same fun b hb hp => f.same b hb (hn b hp)
theorem SlcIn.nil {p : Nat → Prop} {w w' : World} {k : Nat} {v : Value} {cs : List Value} (h : SlcIn p w k v cs) (f : Fr Nil w w') : SlcIn p w' k v cs := h.fr f (fun _ _ h => h)
theorem SlcIn.mono {p q : Nat → Prop} {w : World} {k : Nat} {v : Value} {cs : List Value} (h : SlcIn p w k v cs) (hq : ∀ b, p b → q b) : SlcIn q w k v cs := by
  obtain ⟨a, n, cap, rfl, h1, h3, h2⟩ := h
  exact ⟨a, n, cap, rfl, h1, h3, h2.imp id fun ⟨b, off, e, hp, hc⟩ => ⟨b, off, e, hq b hp, hc⟩⟩
theorem SlcIn.none (p : Nat → Prop) (w : World) (k : Nat) : SlcIn p w k (.slice none 0 0) [] := ⟨Option.none, 0, 0, rfl, by simp, by omega, .inl rfl⟩

/-- What was appended to a nil slice, and lies in memory of the call's own. -/
theorem SlcIn.of_owns {w0 w : World} {e k n : Nat} {v : Value} {xs : List Value} (h : w.ownsRow w0.heap.size e k v n xs) (hn : n ≤ 9223372036854775807) : SlcIn (Gr Nil w0 w) w k v xs := by
  obtain ⟨h1, h2⟩ := h
  rcases h2 with ⟨rfl, rfl⟩ | ⟨g, cap, cur, rfl, hg, hh, h3, h4, h5, h6⟩
  · obtain rfl : xs = [] := List.eq_nil_of_length_eq_zero (by simpa using h1)
    exact ⟨_, _, _, rfl, by simp, by omega, .inl rfl⟩
  · refine ⟨_, _, _, rfl, h1, hn, .inr ⟨g, 0, rfl, .inr ⟨hg, lt_of_heap hh⟩, fun j u hj => ?_⟩⟩
    have hlt : j < xs.length := (List.getElem?_eq_some_iff.1 hj).1
    rw [← h6] at hj
    rw [List.getElem?_take] at hj
    rw [h1] at hlt
    rw [if_pos hlt] at hj
    simp only [World.cell?, hh, Nat.zero_add]
    simpa using hj
theorem Fr.of_grown {w w' : World} {row : Option Nat} (h : w.grownBy w' row) : Fr (fun b => some b = row) w w' := ⟨h.os, h.tape, h.output, h.size, fun k hk hn => h.block k hk hn⟩
theorem Fr.grown {S : Nat → Prop} {a w w' : World} {row : Option Nat} (h : Fr S a w) (g : w.grownBy w' row) (hr : ∀ b, b < a.heap.size → row = some b → S b) : Fr S a w' :=
  h.trans (Fr.of_grown g) (fun x hx e => hr x hx e.symm)
theorem owns_row_new {w : World} {B e k n : Nat} {v : Value} {xs : List Value} (h : w.ownsRow B e k v n xs) : ∀ b, v.ownBlock = some b → B ≤ b := by
  obtain ⟨h1, h2⟩ := h
  rcases h2 with ⟨rfl, rfl⟩ | ⟨g, cap, cur, rfl, hg, _⟩
  · intro b hb; cases hb
  · intro b hb; simp [Value.ownBlock] at hb; omega
theorem owns_fr {w w' : World} {B e k n : Nat} {v : Value} {xs : List Value} {S : Nat → Prop} (h : w.ownsRow B e k v n xs) (f : Fr S w w') (hS : ∀ b, v.ownBlock = some b → ¬ S b) : w'.ownsRow B e k v n xs := by
  obtain ⟨h1, h2⟩ := h
  refine ⟨h1, ?_⟩
  rcases h2 with h2 | ⟨g, cap, cur, rfl, hg, hh, r⟩
  · exact .inl h2
  · exact .inr ⟨g, cap, cur, rfl, hg, by rw [f.same g (lt_of_heap hh) (hS g rfl)]; exact hh, r⟩

/-! ### where a number stands in a list -/
def indexOf (x : Int) : List Int → Option Nat
  | [] => none
  | y :: l => if x = y then some 0 else (indexOf x l).map (· + 1)
theorem indexOf_hit {x : Int} : ∀ {l : List Int} {k : Nat}, l[k]? = some x → (∀ j, j < k → l[j]? ≠ some x) → indexOf x l = some k
  | [], k, h, _ => by simp at h
  | y :: l, 0, h, _ => by
    simp only [List.getElem?_cons_zero, Option.some.injEq] at h
    simp [indexOf, h]
  | y :: l, k + 1, h, hj => by
    simp only [List.getElem?_cons_succ] at h
    have h0 := hj 0 (by omega)
    simp only [List.getElem?_cons_zero, ne_eq, Option.some.injEq] at h0
    have := indexOf_hit h (fun j hjk => by have := hj (j + 1) (by omega); simpa using this)
    unfold indexOf
    rw [if_neg (fun e => h0 e.symm), this]; rfl
theorem indexOf_none {x : Int} : ∀ {l : List Int}, indexOf x l = none ↔ x ∉ l
  | [] => by simp [indexOf]
  | y :: l => by
    unfold indexOf
    split
    · rename_i e; simp [e]
    · rename_i e
      rw [Option.map_eq_none_iff, indexOf_none]
      simp [e]
theorem indexOf_some {x : Int} : ∀ {l : List Int} {k : Nat}, indexOf x l = some k → k < l.length ∧ l[k]? = some x
  | [], k, h => by simp [indexOf] at h
  | y :: l, k, h => by
    unfold indexOf at h
    split at h
    · rename_i e; cases h; simp [e]
    · cases hi : indexOf x l with
      | none => rw [hi] at h; cases h
      | some j =>
        rw [hi] at h; cases h
        have := indexOf_some hi
        simp only [List.length_cons, List.getElem?_cons_succ]
        exact ⟨by omega, this.2⟩
/-- As Go says it: -1 for none. -/
def placeOf (x : Int) (l : List Int) : Int := match indexOf x l with | some k => k | none => -1
end Go.Priory
