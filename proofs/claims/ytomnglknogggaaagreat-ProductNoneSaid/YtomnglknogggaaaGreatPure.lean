/- The state of budgets as lists, and what each call makes of it. No condition. -/
import Derived.Test.YtomnglknogggaaaGreatBase
namespace Go.Priory

/-! ### budgets -/
structure Node where
  up : Int
  quota : Int
  used : Int
abbrev Nodes := List (Int × Node)

def isum : List Int → Int
  | [] => 0
  | x :: l => x + isum l
theorem isum_append : ∀ (l m : List Int), isum (l ++ m) = isum l + isum m
  | [], m => by simp [isum]
  | x :: l, m => by simp only [List.cons_append, isum, isum_append l m]; omega
theorem isum_perm {l m : List Int} (h : l.Perm m) : isum l = isum m := by
  induction h with
  | nil => rfl
  | cons x _ ih => simp only [isum, ih]
  | swap x y l => simp only [isum]; omega
  | trans _ _ h1 h2 => exact h1.trans h2
theorem isum_bound {n : Int} : ∀ (l : List Int), (∀ x ∈ l, 0 ≤ x ∧ x ≤ n) → 0 ≤ isum l ∧ isum l ≤ n * l.length
  | [], _ => by simp [isum]
  | x :: l, h => by
    have h1 := h x (.head _)
    have h2 := isum_bound l (fun y hy => h y (.tail _ hy))
    simp only [isum, List.length_cons]
    have e : n * ((l.length + 1 : Nat) : Int) = n * l.length + n := by
      rw [Int.natCast_add, Int.mul_add]; simp
    rw [e]; omega

def share (id : Int) (x : Node) : Int := if x.up = id then x.quota else 0
def carved (l : Nodes) (id : Int) : Int := isum (l.map fun p => share id p.2)
def left (l : Nodes) (id : Int) : Int :=
  match mget id l with
  | none => 0
  | some x => x.quota - x.used - carved l id
def NodesOk (l : Nodes) : Prop :=
  Sorted l ∧ ∀ p ∈ l, 1 ≤ p.1 ∧ p.1 ≤ 8 ∧ 0 ≤ p.2.up ∧ p.2.up ≤ 8 ∧ 0 ≤ p.2.quota ∧ p.2.quota ≤ 65536 ∧ 0 ≤ p.2.used ∧ p.2.used ≤ 65536

theorem sorted_length {α : Type} (lo : Int) : ∀ (l : List (Int × α)) (hi : Int), Sorted l → (∀ p ∈ l, lo ≤ p.1 ∧ p.1 < hi) → lo ≤ hi → (l.length : Int) ≤ hi - lo
  | [], hi, _, _, h => by simp; omega
  | p :: l, hi, hs, hb, h => by
    obtain ⟨h1, h2⟩ := List.pairwise_cons.1 hs
    have hp := hb p (.head _)
    have : ∀ (l : List (Int × α)) (lo : Int), Sorted l → (∀ q ∈ l, lo < q.1 ∧ q.1 < hi) → lo < hi → (l.length : Int) ≤ hi - lo - 1 := by
      intro l
      induction l with
      | nil => intro lo _ _ h; simp; omega
      | cons q l ih =>
        intro lo hs hb hlt
        obtain ⟨h1, h2⟩ := List.pairwise_cons.1 hs
        have hq := hb q (.head _)
        have := ih q.1 h2 (fun r hr => ⟨h1 r hr, (hb r (.tail _ hr)).2⟩) hq.2
        simp only [List.length_cons]; omega
    have h3 := this l p.1 h2 (fun q hq => ⟨h1 q hq, (hb q (.tail _ hq)).2⟩) hp.2
    simp only [List.length_cons]; omega
theorem NodesOk.length {l : Nodes} (h : NodesOk l) : l.length ≤ 8 := by
  have := sorted_length 1 l 9 h.1 (fun p hp => by have := h.2 p hp; omega) (by omega)
  omega
theorem NodesOk.carved {l : Nodes} (h : NodesOk l) (id : Int) : 0 ≤ carved l id ∧ carved l id ≤ 524288 := by
  have := isum_bound (n := 65536) (l.map fun p => share id p.2) (fun x hx => by
    obtain ⟨p, hp, rfl⟩ := List.mem_map.1 hx
    have := h.2 p hp
    unfold share; split <;> omega)
  have h2 := h.length
  simp only [List.length_map] at this
  unfold Priory.carved
  omega
theorem NodesOk.part {l done rest : Nodes} (h : NodesOk l) (hp : l.Perm (done ++ rest)) (id : Int) : 0 ≤ Priory.carved done id ∧ Priory.carved done id ≤ 524288 := by
  have := isum_bound (n := 65536) (done.map fun p => share id p.2) (fun x hx => by
    obtain ⟨p, hp', rfl⟩ := List.mem_map.1 hx
    have := h.2 p (hp.mem_iff.2 (List.mem_append_left _ hp'))
    unfold share; split <;> omega)
  have h2 := h.length
  have h3 := hp.length_eq
  simp only [List.length_map, List.length_append] at this h3
  unfold Priory.carved
  omega
theorem carved_snoc (done : Nodes) (p : Int × Node) (id : Int) : carved (done ++ [p]) id = carved done id + share id p.2 := by
  simp [carved, isum_append, isum]
theorem carved_perm {l m : Nodes} (h : l.Perm m) (id : Int) : carved l id = carved m id := isum_perm (h.map _)
def askedE (l : Nodes) (id n : Int) : Int :=
  if id < 1 ∨ 8 < id ∨ n < 0 ∨ 65536 < n then 2 else if (mget id l).isNone then 4 else 0
/-- The node id turned by f. -/
def nupd {α : Type} (id : Int) (f : α → α) (l : List (Int × α)) : List (Int × α) := l.map fun p => (p.1, if p.1 = id then f p.2 else p.2)
theorem mkeys_nupd {α : Type} (id : Int) (f : α → α) (l : List (Int × α)) : mkeys (nupd id f l) = mkeys l := by simp [nupd, mkeys, Function.comp_def]
theorem sorted_nupd {α : Type} {id : Int} {f : α → α} {l : List (Int × α)} (h : Sorted l) : Sorted (nupd id f l) := by
  unfold Sorted nupd; rw [List.pairwise_map]; exact h
theorem mget_nupd {α : Type} (id : Int) (f : α → α) (j : Int) : ∀ (l : List (Int × α)), mget j (nupd id f l) = (mget j l).map fun x => if j = id then f x else x
  | [] => rfl
  | p :: l => by
    simp only [nupd, List.map_cons, mget]
    split
    · rename_i e; simp [e]
    · exact mget_nupd id f j l
def chargeE (l : Nodes) (id n : Int) : Int := if askedE l id n ≠ 0 then askedE l id n else if left l id < n then 3 else 0
def chargeN (l : Nodes) (id n : Int) : Nodes := if chargeE l id n = 0 then nupd id (fun x => { x with used := x.used + n }) l else l
def refundE (l : Nodes) (id n : Int) : Int := if askedE l id n ≠ 0 then askedE l id n else if ((mget id l).map Node.used).getD 0 < n then 9 else 0
def refundN (l : Nodes) (id n : Int) : Nodes := if refundE l id n = 0 then nupd id (fun x => { x with used := x.used - n }) l else l
def openE (l : Nodes) (id up quota : Int) : Int :=
  if askedE l up quota = 2 ∨ id < 1 ∨ 8 < id then 2 else if askedE l up quota ≠ 0 then 4 else if (mget id l).isSome then 5 else if left l up < quota then 3 else 0
def openN (l : Nodes) (id up quota : Int) : Nodes := if openE l id up quota = 0 then mput id ⟨up, quota, 0⟩ l else l
def closeE (l : Nodes) (id : Int) : Int := if askedE l id 0 ≠ 0 then askedE l id 0 else if id = 1 ∨ ((mget id l).map Node.used).getD 0 ≠ 0 then 9 else 0
def closeN (l : Nodes) (id : Int) : Nodes :=
  if closeE l id = 0 then (mdel id l).map fun p => (p.1, { p.2 with up := if p.2.up = id then ((mget id l).map Node.up).getD 0 else p.2.up }) else l
end Go.Priory
