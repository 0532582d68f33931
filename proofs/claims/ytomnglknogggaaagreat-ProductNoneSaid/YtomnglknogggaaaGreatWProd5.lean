/- What product.New does (2). No condition. -/
import Derived.Test.YtomnglknogggaaaGreatWProd4
import Derived.Test.YtomnglknogggaaaGreatDrawG
namespace Go.Priory
open Go.RowKit Go.Proofs
set_option maxRecDepth 100000

theorem SlcIn.of_row {w : World} {B e k n : Nat} {v : Value} {xs : List Value} (h : w.ownsRow B e k v n xs) (hn : n ≤ 9223372036854775807) : SlcIn (fun b => v.ownBlock = some b) w k v xs := by
  obtain ⟨h1, h2⟩ := h
  rcases h2 with ⟨rfl, rfl⟩ | ⟨g, cap, cur, rfl, hg, hh, h3, h4, h5, h6⟩
  · obtain rfl : xs = [] := List.eq_nil_of_length_eq_zero (by simpa using h1)
    exact ⟨_, _, _, rfl, by simp, by omega, .inl rfl⟩
  · refine ⟨_, _, _, rfl, h1, hn, .inr ⟨g, 0, rfl, rfl, fun j u hj => ?_⟩⟩
    have hlt : j < xs.length := (List.getElem?_eq_some_iff.1 hj).1
    rw [← h6] at hj
    rw [List.getElem?_take] at hj
    rw [h1] at hlt
    rw [if_pos hlt] at hj
    simp only [World.cell?, hh, Nat.zero_add]
    simpa using hj
def newCells (c : Conf) : List CellSt := (List.range c.parts.length).map fun (i : Nat) => newSt i ((c.parts[i]?).getD (0, 0)).2 ((c.parts[i]?).getD (0, 0)).1
theorem newCells_len (c : Conf) : (newCells c).length = c.parts.length := by simp [newCells]
theorem newCells_get {c : Conf} {i : Nat} {d : CellSt} (h : (newCells c)[i]? = some d) : ∃ x, c.parts[i]? = some x ∧ d = newSt i x.2 x.1 := by
  unfold newCells at h
  rw [List.getElem?_map] at h
  cases hr : (List.range c.parts.length)[i]? with
  | none => rw [hr] at h; cases h
  | some j =>
    obtain ⟨h1, h2⟩ := List.getElem?_eq_some_iff.1 hr
    rw [List.length_range] at h1
    rw [List.getElem_range] at h2
    subst h2
    rw [hr, Option.map_some, List.getElem?_eq_getElem h1, Option.getD_some] at h
    exact ⟨_, List.getElem?_eq_getElem h1, (Option.some.inj h).symm⟩
theorem prod_build {w wd : World} {pb s q bl qa qb sa sb B : Nat} {v : Value} {c : Conf} {qs : Qs} {S : SchedSt} {cs : Nat → Nat} {ks : Nat → Nat → Kind} {a : Nat → Addrs}
    (hpb : Blk w pb [.pointer (some ⟨s, 0, none⟩), .pointer (some ⟨q, 0, none⟩), v]) (hq : QueuesAt (fun b => qa ≤ b ∧ b < qb ∧ b ≠ q ∧ b ≠ bl) w q qs bl (fun _ => none)) (hs : SchedAt (fun b => sa ≤ b ∧ b < sb ∧ b ≠ s) w s S)
    (hM : Made B q c wd v c.parts.length cs ks a) (f : Fr Nil wd w) (hp : pb = wd.heap.size) (h1 : qa ≤ q ∧ q < qb) (h2 : qa ≤ bl ∧ bl < qb) (h3 : qb ≤ sa) (h4 : sa ≤ s ∧ s < sb) (h5 : sb ≤ B) (h6 : B ≤ wd.heap.size) (hn : 1 ≤ c.parts.length) (hn8 : c.parts.length ≤ 8) :
    ∃ R A, ProdAt R w pb A ⟨S, newCells c, qs⟩ ∧ ∀ x, R x ≠ .no → qa ≤ x := by
  classical
  have hpl := hpb.lt
  let R : Nat → PKind := fun x => if x = pb then .prod else if x = s then .sched else if x = q then .queue else if x = bl then .qlist else if sa ≤ x ∧ x < sb then .wins else if qa ≤ x ∧ x < qb then .conf else
    if v.ownBlock = some x then .list else if h : ∃ i, i < c.parts.length ∧ Own (ks i) x then .cell (Classical.choose h) else .no
  have hqbl := hq.qbl
  have hvlo := owns_row_new hM.row
  have hvhi := owns_lt hM.row
  have r1 : R pb = .prod := by simp [R]
  have r2 : R s = .sched := by show (if s = pb then PKind.prod else if s = s then PKind.sched else _) = _; rw [if_neg (by omega), if_pos rfl]
  have r3 : R q = .queue := by show (if q = pb then PKind.prod else if q = s then PKind.sched else if q = q then PKind.queue else _) = _; rw [if_neg (by omega), if_neg (by omega), if_pos rfl]
  have r4 : R bl = .qlist := by show (if bl = pb then PKind.prod else if bl = s then PKind.sched else if bl = q then PKind.queue else if bl = bl then PKind.qlist else _) = _; rw [if_neg (by omega), if_neg (by omega), if_neg (Ne.symm hqbl), if_pos rfl]
  have r5 : ∀ x, (sa ≤ x ∧ x < sb ∧ x ≠ s) → R x = .wins := fun x hx => by
    simp only [R]; rw [if_neg (by omega), if_neg hx.2.2, if_neg (by omega), if_neg (by omega), if_pos ⟨hx.1, hx.2.1⟩]
  have r6 : ∀ x, (qa ≤ x ∧ x < qb ∧ x ≠ q ∧ x ≠ bl) → R x = .conf := fun x hx => by
    simp only [R]; rw [if_neg (by omega), if_neg (by omega), if_neg hx.2.2.1, if_neg hx.2.2.2, if_neg (by omega), if_pos ⟨hx.1, hx.2.1⟩]
  have r7 : ∀ x, v.ownBlock = some x → R x = .list := fun x hx => by
    have b1 := hvlo x hx
    have b2 := hvhi x hx
    simp only [R]; rw [if_neg (by omega), if_neg (by omega), if_neg (by omega), if_neg (by omega), if_neg (by omega), if_neg (by omega), if_pos hx]
  have r8 : ∀ i x, i < c.parts.length → Own (ks i) x → R x = .cell i := fun i x hi hx => by
    have b1 := hM.lo i x hi hx
    have hnv : v.ownBlock ≠ some x := fun e => hM.off x e i hi hx
    have hex : ∃ i, i < c.parts.length ∧ Own (ks i) x := ⟨i, hi, hx⟩
    simp only [R]; rw [if_neg (by omega), if_neg (by omega), if_neg (by omega), if_neg (by omega), if_neg (by omega), if_neg (by omega), if_neg hnv, dif_pos hex]
    congr 1
    have hc := Classical.choose_spec hex
    exact Classical.byContradiction fun hne => hM.apart _ _ x hi hc.1 (Ne.symm hne) hx hc.2
  have hlo : ∀ x, R x ≠ .no → qa ≤ x ∧ x < w.heap.size := fun x hx => by
    have f' := f.size
    simp only [R] at hx
    split at hx
    · omega
    · split at hx
      · omega
      · split at hx
        · omega
        · split at hx
          · omega
          · split at hx
            · omega
            · split at hx
              · omega
              · split at hx
                · rename_i e; have b1 := hvlo x e; have b2 := hvhi x e; omega
                · split at hx
                  · rename_i e; obtain ⟨i, hi, ho⟩ := e; have := hM.lo i x hi ho; omega
                  · exact absurd rfl hx
  refine ⟨R, ⟨s, q, bl, fun _ => none, cs, ks, a⟩, ?_, fun x hx => (hlo x hx).1⟩
  exact {
    kb := r1
    ks := r2
    kq := r3
    kbl := r4
    krb := fun i r h => by cases h
    lo := fun x hx => (hlo x hx).2
    some_ := fun e => by have := newCells_len c; rw [show newCells c = [] from e] at this; simp at this; omega
    few := by show (newCells c).length ≤ 8; rw [newCells_len]; exact hn8
    blk := ⟨v, hpb, by
      show SlcIn _ w 1 v (cellPtrs cs (newCells c).length)
      rw [newCells_len]
      exact ((SlcIn.of_row hM.row (by omega)).mono r7).nil f⟩
    sched := hs.mono r5
    queues := hq.mono r6 (by rw [r3]; simp) (by rw [r4]; simp) (fun i b h => by cases h)
    cells := fun i d hd => by
      obtain ⟨x, hx, rfl⟩ := newCells_get hd
      have hi : i < c.parts.length := (List.getElem?_eq_some_iff.1 hx).1
      exact ⟨(hM.cell i x hi hx).nil f, fun y hy => r8 i y hi hy⟩ }
end Go.Priory
