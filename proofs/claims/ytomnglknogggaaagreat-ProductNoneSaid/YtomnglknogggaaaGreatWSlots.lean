/- The table of processes (package slots): what it is; New, none, there, Get, Add. No condition. -/
import Derived.Test.YtomnglknogggaaaGreatWBudget3
import Derived.Test.YtomnglknogggaaaGreatMaps
import Derived.Test.YtomnglknogggaaaGreatWConf
namespace Go.Priory
open Go.RowKit Go.Proofs
set_option maxRecDepth 100000

structure Proc where
  parent : Int
  state : Int
  code : Int
abbrev Procs := List (Int × Proc)
def procVal (p : Int × Proc) : Int × Value := (p.1, .agg #[.int .i64 p.1, .int .i64 p.2.parent, .int .i64 p.2.state, .int .u32 p.2.code])
def TableAt (w : World) (b m : Nat) (most : Int) (l : Procs) : Prop :=
  Blk w b [.int .i64 most, .map (some m)] ∧ MapIs w m (l.map procVal)
theorem TableAt.fr {S : Nat → Prop} {w w' : World} {b m : Nat} {most : Int} {l : Procs} (h : TableAt w b m most l) (f : Fr S w w') (h1 : ¬ S b) (h2 : ¬ S m) : TableAt w' b m most l :=
  ⟨h.1.fr f h1, h.2.fr f h2⟩
/-- What may be told of the processes of a table. -/
structure ProcsOk (most : Int) (l : Procs) : Prop where
  low : 1 ≤ most
  high : most ≤ 8
  sorted : Sorted l
  within : ∀ p ∈ l, 1 ≤ p.1 ∧ p.1 ≤ most
theorem procs_sorted {l : Procs} (h : Sorted l) : Sorted (l.map procVal) := by
  have : l.map procVal = l.map fun p => (p.1, (procVal p).2) := rfl
  rw [this]
  unfold Sorted at *
  rw [List.pairwise_map]
  exact h.imp (fun h => h)
theorem mget_procVal (k : Int) : ∀ (l : Procs), mget k (l.map procVal) = (mget k l).map fun x => .agg #[.int .i64 k, .int .i64 x.parent, .int .i64 x.state, .int .u32 x.code]
  | [] => rfl
  | p :: l => by
    simp only [List.map_cons, mget, procVal]
    split
    · rename_i e; simp [e]
    · exact mget_procVal k l
theorem mput_procVal (k : Int) (x : Proc) : ∀ (l : Procs), mput k (.agg #[.int .i64 k, .int .i64 x.parent, .int .i64 x.state, .int .u32 x.code]) (l.map procVal) = (mput k x l).map procVal
  | [] => rfl
  | p :: l => by
    simp only [List.map_cons, mput, procVal]
    split
    · rfl
    · split
      · rfl
      · simp only [List.map_cons, procVal, List.cons.injEq, true_and]
        exact mput_procVal k x l
def newProc : Proc := ⟨0, 1, 0⟩
theorem slotsNew_bad (w : World) (n : Int) (h : n < 1 ∨ 8 < n) : Calls Tryz.prog 62 #[.int .i64 n] w fun e w' => e = .returned (.tuple #[.pointer none, .int .i64 2]) ∧ w = w' := by
  rcases h with h | h
  · go_enter Tryz.func62, Tryz.ntmps62
    go_wp2
    go_ret2
    exact ⟨rfl, rfl⟩
  · have h1 : 1 ≤ n := by omega
    go_enter Tryz.func62, Tryz.ntmps62
    go_wp2
    go_ret2
    exact ⟨rfl, rfl⟩
theorem slotsNew_any (w : World) (n : Int) (h1 : 1 ≤ n) (h8 : n ≤ 8) : Calls Tryz.prog 62 #[.int .i64 n] w fun e w' => (∃ b m, e = .returned (.tuple #[.pointer (some ⟨b, 0, none⟩), .int .i64 0]) ∧
    w.heap.size ≤ b ∧ w.heap.size ≤ m ∧ TableAt w' b m n [(1, newProc)]) ∧ Fr Nil w w' := by
  have hmm := @run_makeMap Tryz.prog
  have hm := MapIs.new w
  go_enter Tryz.func62, Tryz.ntmps62
  go_wp2_with (refine wpList_mapIns rfl _ _ _ 191 rfl 3 190 Tryz.underlying191 Tryz.underlying3 _ _ _ _ rfl rfl rfl hm (by simp [Sorted]) ?_; intro ob hm2; dsimp only [Act.put])
  go_ret2
  refine ⟨⟨w.heap.size + 1, w.heap.size, rfl, by omega, by omega, ?_, ?_⟩, (((Fr.refl _ _).alloc _).putObj _ _ (fun h => by omega)).alloc _⟩
  · have := Blk.new ((w.alloc (.map #[] 0)).putObj w.heap.size ob) [.int .i64 n, .map (some w.heap.size)] 193
    simpa using this
  · exact hm2.alloc _
theorem tnone_none (w : World) : Calls Tryz.prog 213 #[.pointer none] w fun e w' => e = .returned (.bool true) ∧ w = w' := by
  go_enter Tryz.func213, Tryz.ntmps213
  go_wp2
  go_ret
  exact ⟨rfl, rfl⟩
theorem tnone_any {b m : Nat} {most : Int} {l : Procs} (w : World) (h : TableAt w b m most l) : Calls Tryz.prog 213 #[.pointer (some ⟨b, 0, none⟩)] w fun e w' => e = .returned (.bool false) ∧ w = w' := by
  have hc := h.1.cell
  have hq := run_eql_map_nil (P := Tryz.prog) w 191 3 190 (some m) Tryz.underlying191
  go_enter Tryz.func213, Tryz.ntmps213
  go_wp2
  go_ret
  exact ⟨rfl, rfl⟩
def thereV (l : Procs) (k : Int) : Value := match mget k l with
  | some x => .tuple #[.agg #[.int .i64 k, .int .i64 x.parent, .int .i64 x.state, .int .u32 x.code], .int .i64 0]
  | none => .tuple #[.agg #[.int .i64 0, .int .i64 0, .int .i64 0, .int .u32 0], .int .i64 4]
theorem zero190 (w : World) : (zeroValue 190).run Tryz.prog w = .ok (.agg #[.int .i64 0, .int .i64 0, .int .i64 0, .int .u32 0]) w := by kernel_rfl
theorem there_any {b m : Nat} {most : Int} {l : Procs} (w : World) (h : TableAt w b m most l) (k : Int) : Calls Tryz.prog 215 #[.pointer (some ⟨b, 0, none⟩), .int .i64 k] w fun e w' => e = .returned (thereV l k) ∧ Fr Nil w w' := by
  have h1 : TableAt (w.alloc (.cells #[.int .i64 0, .int .i64 0, .int .i64 0, .int .u32 0] 190)) b m most l := h.fr ((Fr.refl Nil _).alloc _) (fun h => h) (fun h => h)
  have hc := h1.1.cell
  have hl2 := h1.2.lookup2 Tryz.underlying191 Tryz.underlying3 k zero190
  rw [mget_procVal] at hl2
  have hnot := run_not'
  cases hk : mget k l with
  | some x =>
    rw [hk] at hl2
    have HK := Lib.hid hk
    clear hk
    go_enter Tryz.func215, Tryz.ntmps215
    go_wp2_with (go_at_call 213; refine (tnone_any _ h1).mono ?_; rintro e w' ⟨rfl, rfl⟩)
    refine ⟨rfl, thereV l k, ?_, rfl, ((Fr.refl _ _).alloc _).alloc _⟩
    rw [thereV, HK.out]
    simp [results, Tryz.results215, go_sem]
  | none =>
    rw [hk] at hl2
    have HK := Lib.hid hk
    clear hk
    go_enter Tryz.func215, Tryz.ntmps215
    go_wp2_with (go_at_call 213; refine (tnone_any _ h1).mono ?_; rintro e w' ⟨rfl, rfl⟩)
    refine ⟨rfl, thereV l k, ?_, rfl, ((Fr.refl _ _).alloc _).alloc _⟩
    rw [thereV, HK.out]
    simp [results, Tryz.results215, go_sem]
def getV (l : Procs) (k : Int) : Value := match mget k l with
  | some x => .tuple #[.agg #[.int .i64 k, .int .i64 x.parent, .int .i64 x.state, .int .u32 x.code], .bool true]
  | none => .tuple #[.agg #[.int .i64 0, .int .i64 0, .int .i64 0, .int .u32 0], .bool false]
theorem tget_any {b m : Nat} {most : Int} {l : Procs} (w : World) (h : TableAt w b m most l) (k : Int) : Calls Tryz.prog 182 #[.pointer (some ⟨b, 0, none⟩), .int .i64 k] w fun e w' => e = .returned (getV l k) ∧ Fr Nil w w' := by
  have f0 : Fr Nil w (w.alloc (.cells #[.int .i64 0, .int .i64 0, .int .i64 0, .int .u32 0] 190)) := (Fr.refl Nil _).alloc _
  have h1 : TableAt (w.alloc (.cells #[.int .i64 0, .int .i64 0, .int .i64 0, .int .u32 0] 190)) b m most l := h.fr f0 (fun h => h) (fun h => h)
  have X := Blk.new w [.int .i64 0, .int .i64 0, .int .i64 0, .int .u32 0] 190
  have key := there_any (w.alloc (.cells #[.int .i64 0, .int .i64 0, .int .i64 0, .int .u32 0] 190)) h1 k
  unfold thereV at key
  cases hk : mget k l with
  | some x =>
    simp only [hk] at key
    have HK := Lib.hid hk
    clear hk
    go_enter Tryz.func182, Tryz.ntmps182
    go_wp2_with (go_at_call 215; refine key.mono ?_; rintro e w1 ⟨rfl, f1⟩; have X1 := X.fr f1 (fun h => h); have xc := X1.cell; have xz := X1.frozen; have xl := X1.lt)
    have Y := (((((X1.set 0 (.int .i64 k)).set 1 (.int .i64 x.parent)).set 2 (.int .i64 x.state)).set 3 (.int .u32 x.code)).alloc (.cells #[.int .i64 k, .int .i64 x.parent, .int .i64 x.state, .int .u32 x.code] 190)).cell
    have F := (((((f0.trans f1 (fun _ _ h => h)).setCell ⟨w.heap.size, 0, none⟩ (.int .i64 k) (fun h => by simp at h)).setCell ⟨w.heap.size, 1, none⟩ (.int .i64 x.parent) (fun h => by simp at h)).setCell ⟨w.heap.size, 2, none⟩ (.int .i64 x.state) (fun h => by simp at h)).setCell ⟨w.heap.size, 3, none⟩ (.int .u32 x.code) (fun h => by simp at h)).alloc (.cells #[.int .i64 k, .int .i64 x.parent, .int .i64 x.state, .int .u32 x.code] 190)
    refine ⟨rfl, getV l k, ?_, rfl, F⟩
    clear F
    generalize World.alloc _ (.cells #[.int .i64 k, .int .i64 x.parent, .int .i64 x.state, .int .u32 x.code] 190) = W9 at Y ⊢
    rw [getV, HK.out]
    simp [results, Tryz.results182, go_sem, Y]
  | none =>
    simp only [hk] at key
    have HK := Lib.hid hk
    clear hk
    go_enter Tryz.func182, Tryz.ntmps182
    go_wp2_with (go_at_call 215; refine key.mono ?_; rintro e w1 ⟨rfl, f1⟩; have X1 := X.fr f1 (fun h => h); have xc := X1.cell; have xz := X1.frozen; have xl := X1.lt)
    have Y := (((((X1.set 0 (.int .i64 0)).set 1 (.int .i64 0)).set 2 (.int .i64 0)).set 3 (.int .u32 0)).alloc (.cells #[.int .i64 0, .int .i64 0, .int .i64 0, .int .u32 0] 190)).cell
    have F := (((((f0.trans f1 (fun _ _ h => h)).setCell ⟨w.heap.size, 0, none⟩ (.int .i64 0) (fun h => by simp at h)).setCell ⟨w.heap.size, 1, none⟩ (.int .i64 0) (fun h => by simp at h)).setCell ⟨w.heap.size, 2, none⟩ (.int .i64 0) (fun h => by simp at h)).setCell ⟨w.heap.size, 3, none⟩ (.int .u32 0) (fun h => by simp at h)).alloc (.cells #[.int .i64 0, .int .i64 0, .int .i64 0, .int .u32 0] 190)
    refine ⟨rfl, getV l k, ?_, rfl, F⟩
    clear F
    generalize World.alloc _ (.cells #[.int .i64 0, .int .i64 0, .int .i64 0, .int .u32 0] 190) = W9 at Y ⊢
    rw [getV, HK.out]
    simp [results, Tryz.results182, go_sem, Y]
end Go.Priory
