/- What the calls of package budget do, on a budget whose nodes are a given list. Conditions: the numbers in it are at most 65536, its Ids from 1 to 8. -/
import Derived.Test.YtomnglknogggaaaGreatProg
import Derived.Test.YtomnglknogggaaaGreatOps
import Derived.Test.YtomnglknogggaaaGreatDraw
import Derived.Test.YtomnglknogggaaaGreatPure
import Derived.LoopTactic
import Derived.Outline
import Derived.Lib.Hide
namespace Go.Priory
open Go.RowKit Go.Proofs
set_option maxRecDepth 100000

theorem zero3 (w : World) : (zeroValue 3).run Tryz.prog w = .ok (.int .i64 0) w := by kernel_rfl
theorem zero194 (w : World) : (zeroValue 194).run Tryz.prog w = .ok (.pointer none) w := by kernel_rfl
theorem ret_int {k : IntKind} {a b : Int} (h : a = b) : Ending.returned (.int k a) = Ending.returned (.int k b) := by rw [h]
theorem makeFunc_any : ∀ (fn : Fn) (first cap : Array Value) (w : World), (Instr.makeFunc fn first cap).run Tryz.prog w = .ok (.func fn first cap) w := fun _ _ _ _ => rfl

def nodePtr (nb : Int → Nat) (p : Int × Node) : Int × Value := (p.1, .pointer (some ⟨nb p.1, 0, none⟩))
def nodeCells (p : Int × Node) : List Value := [.int .i64 p.1, .int .i64 p.2.up, .int .i64 p.2.quota, .int .i64 p.2.used]
structure BudgetAt (S : Nat → Prop) (w : World) (b : Nat) (l : Nodes) (bm : Nat) (nb : Int → Nat) : Prop where
  sb : S b
  sm : S bm
  blk : Blk w b [.map (some bm)]
  map : MapIs w bm (l.map (nodePtr nb))
  node : ∀ p ∈ l, S (nb p.1) ∧ Blk w (nb p.1) (nodeCells p)
/-- Block b is a budget with the nodes l; what may be written lies in S. -/
def BudgetIs (S : Nat → Prop) (w : World) (b : Nat) (l : Nodes) : Prop := ∃ (bm : Nat) (nb : Int → Nat), BudgetAt S w b l bm nb

theorem BudgetAt.fr {S T : Nat → Prop} {w w' : World} {b : Nat} {l : Nodes} {bm : Nat} {nb : Int → Nat} (h : BudgetAt S w b l bm nb) (f : Fr T w w') (hd : ∀ x, S x → ¬ T x) : BudgetAt S w' b l bm nb :=
  ⟨h.sb, h.sm, h.blk.fr f (hd b h.sb), h.map.fr f (hd bm h.sm), fun p hp => ⟨(h.node p hp).1, (h.node p hp).2.fr f (hd _ (h.node p hp).1)⟩⟩
theorem BudgetIs.fr {S T : Nat → Prop} {w w' : World} {b : Nat} {l : Nodes} (h : BudgetIs S w b l) (f : Fr T w w') (hd : ∀ x, S x → ¬ T x) : BudgetIs S w' b l := by
  obtain ⟨bm, nb, h⟩ := h; exact ⟨bm, nb, h.fr f hd⟩
theorem BudgetIs.nil {S : Nat → Prop} {w w' : World} {b : Nat} {l : Nodes} (h : BudgetIs S w b l) (f : Fr Nil w w') : BudgetIs S w' b l := h.fr f (fun _ _ h => h)
theorem BudgetIs.mono {S T : Nat → Prop} {w : World} {b : Nat} {l : Nodes} (h : BudgetIs S w b l) (hd : ∀ x, S x → T x) : BudgetIs T w b l := by
  obtain ⟨bm, nb, h⟩ := h; exact ⟨bm, nb, hd _ h.sb, hd _ h.sm, h.blk, h.map, fun p hp => ⟨hd _ (h.node p hp).1, (h.node p hp).2⟩⟩
theorem mget_nodePtr (nb : Int → Nat) (k : Int) : ∀ (l : Nodes), mget k (l.map (nodePtr nb)) = (mget k l).map fun _ => .pointer (some ⟨nb k, 0, none⟩)
  | [] => rfl
  | p :: l => by
    simp only [List.map_cons, mget, nodePtr]
    split
    · rename_i e; simp [e]
    · exact mget_nodePtr nb k l
theorem BudgetAt.look {S : Nat → Prop} {w : World} {b : Nat} {l : Nodes} {bm : Nat} {nb : Int → Nat} (h : BudgetAt S w b l bm nb) (id : Int) :
    (Instr.lookup 197 (.map (some bm)) (.int .i64 id) false).run Tryz.prog w = .ok (.pointer ((mget id l).map fun _ => ⟨nb id, 0, none⟩)) w := by
  rw [h.map.lookup Tryz.underlying197 Tryz.underlying3 id zero194, mget_nodePtr]; cases mget id l <;> rfl
theorem BudgetAt.look_some {S : Nat → Prop} {w : World} {b : Nat} {l : Nodes} {bm : Nat} {nb : Int → Nat} (h : BudgetAt S w b l bm nb) {id : Int} {x : Node} (hx : mget id l = some x) :
    (Instr.lookup 197 (.map (some bm)) (.int .i64 id) false).run Tryz.prog w = .ok (.pointer (some ⟨nb id, 0, none⟩)) w := by rw [h.look id, hx]; rfl
theorem BudgetAt.inj {S : Nat → Prop} {w : World} {b : Nat} {l : Nodes} {bm : Nat} {nb : Int → Nat} (h : BudgetAt S w b l bm nb) : ∀ p ∈ l, ∀ q ∈ l, nb p.1 = nb q.1 → p.1 = q.1 := by
  intro p hp q hq e
  have h1 := (h.node p hp).2.cell 0
  have h2 := (h.node q hq).2.cell 0
  rw [e, h2] at h1
  simp [nodeCells] at h1
  exact h1.symm
/-- One node's cell is written. -/
theorem BudgetAt.set {S : Nat → Prop} {w : World} {b : Nat} {l : Nodes} {bm : Nat} {nb : Int → Nat} (h : BudgetAt S w b l bm nb) (hs : Sorted l) {id : Int} {x : Node} (hx : mget id l = some x) (f : Node → Node) (o : Nat) (v : Value)
    (hf : (nodeCells (id, x)).set o v = nodeCells (id, f x)) : BudgetAt S (w.setCell ⟨nb id, o, none⟩ v) b (nupd id f l) bm nb := by
  have hm := mget_mem hx
  have e1 : (nupd id f l).map (nodePtr nb) = l.map (nodePtr nb) := by simp [nupd, nodePtr, Function.comp_def]
  have hb1 : b ≠ nb id := fun e => by
    have h1 := h.blk.cell 0
    have h2 := (h.node _ hm).2.cell 0
    rw [e, h2] at h1
    simp [nodeCells] at h1
  have hb2 : bm ≠ nb id := fun e => by
    obtain ⟨es, c, h1, _⟩ := h.map
    obtain ⟨T, h2⟩ := (h.node _ hm).2
    simp only at h2
    rw [e, h2] at h1; cases h1
  refine ⟨h.sb, h.sm, h.blk.setOther _ _ hb1, by rw [e1]; exact h.map.setCell hb2, fun p hp => ?_⟩
  obtain ⟨q, hq, rfl⟩ := List.mem_map.1 hp
  refine ⟨(h.node q hq).1, ?_⟩
  by_cases e : q.1 = id
  · have hqx : q = (id, x) := by
      have h1 : mget id l = some q.2 := mget_of_mem hs.nodup (by rw [← e]; exact hq)
      rw [hx] at h1; cases h1
      rw [← e]
    subst hqx
    simp only [if_true]
    rw [← hf]
    exact (h.node _ hq).2.set o v
  · simp only [if_neg e]
    exact (h.node q hq).2.setOther _ _ (fun e' => e (h.inj q hq _ hm e'))

theorem asked_any {S : Nat → Prop} {b : Nat} {l : Nodes} (w : World) (h : BudgetIs S w b l) (id n : Int) :
    Calls Tryz.prog 109 #[.pointer (some ⟨b, 0, none⟩), .int .i64 id, .int .i64 n] w fun e w' => e = .returned (.int .i64 (askedE l id n)) ∧ w = w' := by
  obtain ⟨bm, nb, h⟩ := h
  have cB := h.blk.cell
  have hl := h.look id
  have he : (binOp .eql 197 (.map (some bm)) (.map none)).run Tryz.prog w = .ok (.bool false) w := run_eql_map_nil w 197 3 194 _ Tryz.underlying197
  have hx : askedE l id n = if id < 1 ∨ 8 < id ∨ n < 0 ∨ 65536 < n then 2 else if (mget id l).isNone then 4 else 0 := rfl
  have HX := Lib.hid hx
  clear hx h
  generalize mget id l = x at hl HX
  go_enter Tryz.func109, Tryz.ntmps109
  cases x <;> go_wp2 <;> go_ret <;> exact ⟨ret_int (by rw [HX.out]; first | rw [if_pos (by omega)] | (rw [if_neg (by omega)]; rfl)), rfl⟩

theorem carved_any {S : Nat → Prop} {b : Nat} {l : Nodes} (w : World) (h : BudgetIs S w b l) (hl : NodesOk l) (pb pi : Nat) (id : Int)
    (Pb : Blk w pb [.pointer (some ⟨b, 0, none⟩)]) (Pi : Blk w pi [.int .i64 id]) :
    Calls Tryz.prog 110 #[.pointer (some ⟨pb, 0, none⟩), .pointer (some ⟨pi, 0, none⟩)] w fun e w' => e = .returned (.int .i64 (carved l id)) ∧ Fr Nil w w' := by
  obtain ⟨bm, nb, sb, sm, B, M, N⟩ := h
  obtain ⟨o, hrg, it⟩ := M.range (P := Tryz.prog) Tryz.underlying197
  have c1 := Pb.cell
  have c2 := Pi.cell
  have c3 := B.cell
  have mlt := M.lt
  go_enter Tryz.func110, Tryz.ntmps110
  go_wp2_with fail
  go_loopw [3] (fun n wr => ∃ done rest, Iter wr w.heap.size bm (l.map (nodePtr nb)) (rest.map (nodePtr nb)) ∧ l.Perm (done ++ rest) ∧ n = .int .i64 (carved done id) ∧ Fr Nil w wr)
     (fun _ wr => toCome wr w.heap.size bm)
  case atStart =>
    exact ⟨[], l, it, by simp, rfl, (Fr.refl _ _).alloc _⟩
  case round =>
    obtain ⟨done, rest, hit, hp, rfl, hf⟩ := hrel
    rcases hit.step (P := Tryz.prog) (by omega) 0 with ⟨rfl, hn⟩ | ⟨p, rest', w1, hp', hn, hen, hit', hf1, hsz⟩
    · go_wp2
      go_ret
      exact ⟨ret_int (carved_perm (by simpa using hp.symm) id), hf⟩
    · have e1 : (nodePtr nb p).1 = p.1 := rfl
      have e2 : (nodePtr nb p).2 = .pointer (some ⟨nb p.1, 0, none⟩) := rfl
      rw [e1, e2] at hn hen
      have hpm : p ∈ l := hp.mem_iff.2 (List.mem_append_right _ (hp'.mem_iff.2 (.head _)))
      have hf2 : Fr Nil w w1 := hf.trans hf1 (fun x hx e => by omega)
      have n1 := ((N p hpm).2.fr hf2 (fun h => h)).drew.cls (S := Nil) (fun h => h)
      have i1 := (Pi.fr hf2 (fun h => h)).drew.cls (S := Nil) (fun h => h)
      have hb := hl.part hp id
      have hq := hl.2 p hpm
      have hpp : l.Perm ((done ++ [p]) ++ rest') := hp.trans (by simpa using hp'.append_left done)
      have n2 := ((N p hpm).2.fr hf2 (fun h => h))
      unfold nodeCells at n1
      clear c1 c2 c3 hrg e1 e2
      go_wp2_with fail
      refine wp_draw_all Nil (by kernel_rfl) (by kernel_rfl) (by kernel_rfl) ?_
      repeat (go_big_quiet_step (fail))
      refine wpQuiet_nil ?_
      intro z
      have n3 := (n2.drew.fr z.fr (fun h => h)).cell
      have hz : Iter z.w w.heap.size bm (l.map (nodePtr nb)) (rest'.map (nodePtr nb)) := (show Iter w1.drew _ _ _ _ from hit').fr z.fr (fun h => h) (fun h => h)
      have hms : toCome z.w w.heap.size bm < toCome wr w.heap.size bm := by
        rw [hz.toCome, hit.toCome]; have := hp'.length_eq; simp at this ⊢; omega
      have f9 : Fr Nil w z.w := hf2.drew.trans z.fr (fun _ _ h => h)
      unfold nodeCells at n3
      go_wp2
      · rename_i ht
        exact ⟨⟨done ++ [p], rest', hz, hpp, by rw [carved_snoc]; unfold share; rw [if_pos (by simpa using ht)], f9⟩, hms⟩
      · rename_i ht
        exact ⟨⟨done ++ [p], rest', hz, hpp, by rw [carved_snoc]; unfold share; rw [if_neg (by simpa using ht)]; simp, f9⟩, hms⟩

theorem asked_ok {l : Nodes} {id n : Int} (h : askedE l id n = 0) : ∃ x, mget id l = some x := by
  unfold askedE at h
  cases hx : mget id l with
  | some x => exact ⟨x, rfl⟩
  | none => rw [hx] at h; split at h <;> simp at h
theorem left_of_asked {l : Nodes} (hl : NodesOk l) {id : Int} (h : ¬ askedE l id 0 = 0) : left l id = 0 := by
  unfold left
  cases hx : mget id l with
  | none => rfl
  | some x =>
    exfalso
    have := hl.2 _ (mget_mem hx)
    apply h
    unfold askedE
    rw [if_neg (by simp only at this; omega), hx]; rfl
set_option maxHeartbeats 1000000 in
theorem left_any {S : Nat → Prop} {b : Nat} {l : Nodes} (w : World) (h : BudgetIs S w b l) (hl : NodesOk l) (id : Int) :
    Calls Tryz.prog 71 #[.pointer (some ⟨b, 0, none⟩), .int .i64 id] w fun e w' => e = .returned (.int .i64 (left l id)) ∧ Fr Nil w w' := by
  have f1 : Fr Nil w ((w.alloc (.cells #[.pointer (some ⟨b, 0, none⟩)] 92)).alloc (.cells #[.int .i64 id] 3)) := ((Fr.refl _ _).alloc _).alloc _
  have P1 : Blk ((w.alloc (.cells #[.pointer (some ⟨b, 0, none⟩)] 92)).alloc (.cells #[.int .i64 id] 3)) w.heap.size [.pointer (some ⟨b, 0, none⟩)] := (Blk.new w [_] 92).alloc _
  have P2 : Blk ((w.alloc (.cells #[.pointer (some ⟨b, 0, none⟩)] 92)).alloc (.cells #[.int .i64 id] 3)) (w.heap.size + 1) [.int .i64 id] := by
    have := Blk.new (w.alloc (.cells #[.pointer (some ⟨b, 0, none⟩)] 92)) [.int .i64 id] 3
    rwa [World.size_alloc] at this
  have h1 := h.nil f1
  have hmf := makeFunc_any
  by_cases ha : askedE l id 0 = 0
  · obtain ⟨x, hx⟩ := asked_ok ha
    go_enter Tryz.func71, Tryz.ntmps71
    go_wp2_with (go_at_call 109; refine (asked_any _ h1 _ _).mono ?_; rintro e w' ⟨rfl, rfl⟩; rw [ha])
    generalize ((w.alloc (.cells #[.pointer (some ⟨b, 0, none⟩)] 92)).alloc (.cells #[.int .i64 id] 3)) = W at *
    obtain ⟨bm, nb, hA⟩ := h1
    have h2 : ∀ y : Cls Nil W.drew, BudgetAt S y.w b l bm nb := fun y => (hA.fr (Fr.refl Nil _).drew (fun _ _ h => h)).fr y.fr (fun _ _ h => h)
    have c1 := P1.drew.cls (S := Nil) (fun h => h)
    have c2 := P2.drew.cls (S := Nil) (fun h => h)
    have c3 := (show Blk W.drew b _ from hA.blk).cls (S := Nil) (fun h => h)
    have e1 := fun y => (h2 y).look_some hx
    have HX := Lib.hid hx
    clear hmf ha hx
    refine wp_draw_all Nil (by kernel_rfl) (by kernel_rfl) (by kernel_rfl) ?_
    repeat (go_big_quiet_step (fail))
    refine wpQuiet_nil ?_
    intro y
    have f2 : Fr Nil w y.w := f1.drew.trans y.fr (fun _ _ h => h)
    have Q1 := P1.drew.fr y.fr (fun h => h)
    have Q2 := P2.drew.fr y.fr (fun h => h)
    have hB := h2 y
    clear c1 c2 c3 e1 h2
    generalize y.w = V at *
    have c1 := (show Blk V.drew _ _ from (hB.node _ (mget_mem HX.out)).2).cls (S := Nil) (fun h => h)
    unfold nodeCells at c1
    have hc := hl.carved id
    have hx := hl.2 _ (mget_mem HX.out)
    simp only at hx c1
    have h110 : ∀ x : Cls Nil V.drew, Calls Tryz.prog 110 #[.pointer (some ⟨w.heap.size, 0, none⟩), .pointer (some ⟨w.heap.size + 1, 0, none⟩)] x.w fun e w' => e = .returned (.int .i64 (carved l id)) ∧ Fr Nil x.w w' :=
      fun x => carved_any x.w ⟨bm, nb, (hB.fr (Fr.refl Nil _).drew (fun _ _ h => h)).fr x.fr (fun _ _ h => h)⟩ hl _ _ _ (Q1.drew.fr x.fr (fun h => h)) (Q2.drew.fr x.fr (fun h => h))
    go_wp2_with fail
    refine wp_draw_all Nil (by kernel_rfl) (by kernel_rfl) (by kernel_rfl) ?_
    repeat (go_big_quiet_step ((go_at_call 110; exact Calls.cls (h110 _) (fun _ h => h))))
    refine wpQuiet_nil ?_
    intro z
    go_wp2
    go_ret
    exact ⟨ret_int (by unfold left; rw [HX.out]), (f2.drew.trans z.fr (fun _ _ h => h))⟩
  · go_enter Tryz.func71, Tryz.ntmps71
    have HL := Lib.hid (left_of_asked hl ha)
    have hab : (askedE l id 0 != 0) = true := by simpa using ha
    clear ha
    go_wp2_with (go_at_call 109; refine (asked_any _ h1 _ _).mono ?_; rintro e w' ⟨rfl, rfl⟩)
    go_ret
    exact ⟨ret_int HL.out.symm, f1⟩

theorem nz {n : Int} (h : ¬ n = 0) : (n != 0) = true := by simpa using h
theorem z_nz {n : Int} (h : n = 0) : (n != 0) = false := by simp [h]

set_option maxHeartbeats 1000000 in
theorem charge_any {S : Nat → Prop} {b : Nat} {l : Nodes} (w : World) (h : BudgetIs S w b l) (hl : NodesOk l) (id n : Int) :
    Calls Tryz.prog 100 #[.pointer (some ⟨b, 0, none⟩), .int .i64 id, .int .i64 n] w fun e w' => e = .returned (.int .i64 (chargeE l id n)) ∧ BudgetIs S w' b (chargeN l id n) ∧ Fr S w w' := by
  by_cases ha : askedE l id n = 0
  · by_cases hlt : left l id < n
    · have hE : chargeE l id n = 3 := by unfold chargeE; rw [if_neg (by simpa using ha), if_pos hlt]
      have hN : chargeN l id n = l := by unfold chargeN; rw [if_neg (by rw [hE]; omega)]
      go_enter Tryz.func100, Tryz.ntmps100
      go_wp2_with (first
        | (go_at_call 109; refine (asked_any _ h _ _).mono ?_; rintro e w' ⟨rfl, rfl⟩; rw [ha])
        | (go_at_call 71; refine (left_any _ h hl _).mono ?_; rintro e w' ⟨rfl, hf⟩))
      go_ret
      exact ⟨ret_int hE.symm, by rw [hN]; exact h.nil hf, hf.mono (fun _ h => h.elim)⟩
    · obtain ⟨x, hx⟩ := asked_ok ha
      have hE : chargeE l id n = 0 := by unfold chargeE; rw [if_neg (by simpa using ha), if_neg hlt]
      have hN : chargeN l id n = nupd id (fun x => { x with used := x.used + n }) l := by unfold chargeN; rw [if_pos hE]
      have hb := hl.2 _ (mget_mem hx)
      have hc := hl.carved id
      have hL : left l id = x.quota - x.used - carved l id := by unfold left; rw [hx]
      have hn : 0 ≤ n := by
        unfold askedE at ha; split at ha
        · simp at ha
        · omega
      have hu : x.used + n ≤ 65536 := by simp only at hb; omega
      have HE := Lib.hid hE
      have HL := Lib.hid hL
      clear hE hL
      go_enter Tryz.func100, Tryz.ntmps100
      go_wp2_with (first
        | (go_at_call 109; refine (asked_any _ h _ _).mono ?_; rintro e w' ⟨rfl, rfl⟩; rw [ha])
        | (go_at_call 71; refine (left_any _ h hl _).mono ?_; rintro e w' ⟨rfl, hf⟩; obtain ⟨bm, nb, hA⟩ := h.nil hf; have c1 := hA.blk.cell; have c2 := (hA.node _ (mget_mem hx)).2.cell; have f2 := (hA.node _ (mget_mem hx)).2.frozen; have hlk := hA.look_some hx; unfold nodeCells at c2; simp only at c2 f2 hb))
      go_ret
      refine ⟨ret_int HE.out.symm, ?_, ?_⟩
      · rw [hN]; exact ⟨bm, nb, hA.set hl.1 hx _ _ _ rfl⟩
      · exact (hf.mono (fun _ h => h.elim)).setCell _ _ (fun _ => (hA.node _ (mget_mem hx)).1)
  · have hE : chargeE l id n = askedE l id n := by unfold chargeE; rw [if_pos ha]
    have hN : chargeN l id n = l := by unfold chargeN; rw [if_neg (by rw [hE]; exact ha)]
    have hab := nz ha
    clear ha
    go_enter Tryz.func100, Tryz.ntmps100
    go_wp2_with (go_at_call 109; refine (asked_any _ h _ _).mono ?_; rintro e w' ⟨rfl, rfl⟩)
    go_ret
    exact ⟨ret_int hE.symm, by rw [hN]; exact h, Fr.refl _ _⟩
end Go.Priory
