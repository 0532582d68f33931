/- What a cell is (package cell), in memory; begin. No condition. -/
import Derived.Test.YtomnglknogggaaaGreatWSlots2
import Derived.Test.YtomnglknogggaaaGreatWPages
import Derived.Test.YtomnglknogggaaaGreatWQueue3
import Derived.Test.YtomnglknogggaaaGreatWQs2
import Derived.Test.YtomnglknogggaaaGreatDrawF
namespace Go.Priory
open Go.RowKit Go.Proofs
set_option maxRecDepth 100000

structure Area where
  from_ : Int
  many : Int
  write : Bool
structure Man where
  r : List Int
  areas : List Area
  pages : List (Int × List Int)
structure CellSt where
  n : Int
  most : Int
  procs : Procs
  nodes : Nodes
  row : List Int
  men : List (Int × Man)
/-- What a block is to a cell. -/
inductive Kind where
  | no | cell | table | tmap | budget | row | men | man (p : Int) | pages (p : Int) | areas
def areaCells (a : Area) : List Value := [.int .i64 a.from_, .int .i64 a.many, .bool a.write]
def pageVal (p : Int × List Int) : Int × Value := (p.1, .agg (p.2.map (Value.int .u32)).toArray)
def manPtr (mb : Int → Nat) (p : Int × Man) : Int × Value := (p.1, .pointer (some ⟨mb p.1, 0, none⟩))
structure ManAt (k : Nat → Kind) (w : World) (b pm : Nat) (m : Man) : Prop where
  blk : ∃ av, Blk w b (m.r.map (Value.int .u32) ++ [av, .map (some pm)]) ∧ SlcIn (fun x => k x = .areas) w 3 av (m.areas.flatMap areaCells)
  pages : MapIs w pm (m.pages.map pageVal)
structure Addrs where
  t : Nat
  tm : Nat
  b : Nat
  row : Nat
  lm : Nat
  mb : Int → Nat
  pb : Int → Nat
structure CellAt (k : Nat → Kind) (w : World) (c : Nat) (A : Addrs) (q : Value) (st : CellSt) : Prop where
  kc : k c = .cell
  kt : k A.t = .table
  ktm : k A.tm = .tmap
  krow : k A.row = .row
  klm : k A.lm = .men
  blk : Blk w c [.int .i64 st.n, .int .i64 st.most, .pointer (some ⟨A.t, 0, none⟩), .pointer (some ⟨A.b, 0, none⟩), .pointer (some ⟨A.row, 0, none⟩), q, .map (some A.lm)]
  table : TableAt w A.t A.tm st.most st.procs
  budget : BudgetIs (fun x => k x = .budget) w A.b st.nodes
  queue : QueueIs w A.row st.row
  men : MapIs w A.lm (st.men.map (manPtr A.mb))
  man : ∀ p ∈ st.men, k (A.mb p.1) = .man p.1 ∧ k (A.pb p.1) = .pages p.1 ∧ ManAt k w (A.mb p.1) (A.pb p.1) p.2
/-- The blocks of a cell. -/
def Own (k : Nat → Kind) : Nat → Prop := fun x => k x ≠ .no
theorem ManAt.fr {k : Nat → Kind} {S : Nat → Prop} {w w' : World} {b pm : Nat} {m : Man} (h : ManAt k w b pm m) (f : Fr S w w') (h1 : ¬ S b) (h2 : ¬ S pm) (h3 : ∀ x, k x = .areas → ¬ S x) : ManAt k w' b pm m := by
  obtain ⟨av, hb, hs⟩ := h.blk
  exact ⟨⟨av, hb.fr f h1, hs.fr f h3⟩, h.pages.fr f h2⟩
theorem men_sorted {mb : Int → Nat} {l : List (Int × Man)} (h : Sorted l) : Sorted (l.map (manPtr mb)) := by
  unfold Sorted at *
  rw [List.pairwise_map]
  exact h.imp (fun h => h)
theorem mget_manPtr (mb : Int → Nat) (k : Int) : ∀ (l : List (Int × Man)), mget k (l.map (manPtr mb)) = (mget k l).map fun _ => .pointer (some ⟨mb k, 0, none⟩)
  | [] => rfl
  | p :: l => by
    simp only [List.map_cons, mget, manPtr]
    split
    · rename_i e; simp [e]
    · exact mget_manPtr mb k l
theorem manPtr_congr {mb mb' : Int → Nat} {l : List (Int × Man)} (h : ∀ p ∈ l, mb' p.1 = mb p.1) : l.map (manPtr mb) = l.map (manPtr mb') :=
  List.map_congr_left fun p hp => by unfold manPtr; rw [h p hp]
theorem mput_manPtr {mb mb' : Int → Nat} (k : Int) (x : Man) : ∀ (l : List (Int × Man)), Sorted l → (∀ p ∈ l, p.1 ≠ k → mb' p.1 = mb p.1) → mput k (.pointer (some ⟨mb' k, 0, none⟩)) (l.map (manPtr mb)) = (mput k x l).map (manPtr mb')
  | [], _, _ => rfl
  | p :: l, hs, h => by
    have hs' := List.pairwise_cons.1 hs
    have hl : ∀ q ∈ l, q.1 ≠ k → mb' q.1 = mb q.1 := fun q hq => h q (.tail _ hq)
    simp only [List.map_cons, mput]
    rw [show (manPtr mb p).1 = p.1 from rfl]
    split
    · rename_i e
      rw [List.map_cons, ← List.map_cons, manPtr_congr (mb' := mb') (fun q hq => h q hq (by
        rcases List.mem_cons.1 hq with rfl | hq
        · omega
        · have := hs'.1 q hq; omega))]
      rfl
    · split
      · rename_i e
        rw [List.map_cons, manPtr_congr (mb' := mb') (fun q hq => hl q hq (by have := hs'.1 q hq; omega))]
        rfl
      · rename_i e1 e2
        rw [List.map_cons, mput_manPtr k x l hs'.2 hl, show manPtr mb p = manPtr mb' p by unfold manPtr; rw [h p (.head _) (by omega)]]

/-- A process more: what lies behind begin. -/
def Addrs.with (A : Addrs) (pid : Int) (b pm : Nat) : Addrs := { A with mb := fun x => if x = pid then b else A.mb x, pb := fun x => if x = pid then pm else A.pb x }
def beginSt (st : CellSt) (pid : Int) (m : Man) : CellSt :=
  { st with men := mput pid m st.men, nodes := chargeN st.nodes pid (chargedE (mkeys m.pages)), row := pushN st.row pid }
theorem BudgetIs.kind {k : Nat → Kind} {S : Nat → Prop} {w w' : World} {b : Nat} {l : Nodes} (h : BudgetIs (fun x => k x = .budget) w b l) (f : Fr S w w') (hd : ∀ x, k x = .budget → ¬ S x) : BudgetIs (fun x => k x = .budget) w' b l := h.fr f hd
set_option maxHeartbeats 2000000 in
theorem begin_any {k : Nat → Kind} {c : Nat} {A : Addrs} {q : Value} {st : CellSt} (w : World) (h : CellAt k w c A q st) (hS : Sorted st.men) (hN : NodesOk st.nodes) (hR : RowOk st.row)
    (pid : Int) (b pm : Nat) (m : Man) (hM : ManAt k w b pm m) (kb : k b = .man pid) (kp : k pm = .pages pid) (hpg : ∀ x ∈ mkeys m.pages, 0 ≤ x ∧ x < 1024) (hpl : m.pages.length ≤ 1024) (hr8 : m.r.length = 8) :
    Calls Tryz.prog 65 #[.pointer (some ⟨c, 0, none⟩), .int .i64 pid, .pointer (some ⟨b, 0, none⟩)] w fun e w' => e = .returned (.tuple #[]) ∧ CellAt k w' c (A.with pid b pm) q (beginSt st pid m) ∧ Fr (Own k) w w' := by
  have hc := h.blk.cell
  have hms := men_sorted (mb := A.mb) hS
  obtain ⟨av, hMb, hMa⟩ := hM.blk
  have hkm : (mkeys (m.pages.map pageVal)) = mkeys m.pages := by simp [mkeys, pageVal, Function.comp_def]
  go_enter Tryz.func65, Tryz.ntmps65
  go_wp2_with (at_mapUpdate; refine wpList_mapSet rfl _ _ _ 94 rfl 3 151 Tryz.underlying94 Tryz.underlying3 _ _ _ _ rfl rfl rfl h.men hms ?_; intro ob hm2; dsimp only [Act.put])
  have F1 : Fr (fun x => k x = .men) w (w.putObj A.lm ob) := (Fr.refl _ _).putObj _ _ (fun _ => h.klm)
  generalize w.putObj A.lm ob = W1 at *
  have D1 : Fr (fun x => k x = .men) w W1.drew := F1.drew
  have B1 := h.blk.fr D1 (by rw [h.kc]; exact fun e => by cases e)
  have M1 := hMb.fr D1 (by rw [kb]; exact fun e => by cases e)
  have P1 := hM.pages.fr D1 (by rw [kp]; exact fun e => by cases e)
  have G1 := h.budget.kind D1 (fun x hx => by rw [hx]; exact fun e => by cases e)
  have cC : ∀ (x : UCls (Fr Nil W1.drew)) (o : Nat), x.w.cell? ⟨c, o, none⟩ = [Value.int .i64 st.n, .int .i64 st.most, .pointer (some ⟨A.t, 0, none⟩), .pointer (some ⟨A.b, 0, none⟩), .pointer (some ⟨A.row, 0, none⟩), q, .map (some A.lm)][o]? :=
    fun x => (B1.fr x.fr (fun h => h)).cell
  have cM : ∀ (x : UCls (Fr Nil W1.drew)), x.w.cell? ⟨b, 9, none⟩ = some (.map (some pm)) := fun x => by
    rw [(M1.fr x.fr (fun h => h)).cell, List.getElem?_append_right (by simp [hr8])]
    simp [hr8]
  have hCh : ∀ (x : UCls (Fr Nil W1.drew)), Calls Tryz.prog 67 #[.map (some pm)] x.w fun e w' => e = .returned (.int .i64 (chargedE (mkeys m.pages))) ∧ Fr Nil W1.drew w' := fun x => by
    refine (charged_any x.w (P1.fr x.fr (fun h => h)) (by rw [hkm]; exact hpg) (by simpa using hpl)).mono ?_
    rintro e w' ⟨rfl, hf⟩
    exact ⟨by rw [hkm], x.fr.trans hf (fun _ _ h => h.elim)⟩
  refine wp_draw_first [true, true, true, true, true, true, true, true, true, true, false] Nil (by kernel_rfl) (by kernel_rfl) (by kernel_rfl) (by kernel_rfl) ?_
  simp only [pickL, restL]
  repeat (go_big_quiet_step (((go_at_call 67; exact Calls.u (hCh _)))))
  refine wpQuiet_nil ?_
  intro z
  have D2 := D1.trans z.fr (fun _ _ h => h.elim)
  have G2 := G1.kind z.fr (fun x hx h => h)
  refine wpSeq_step (fun K hK => ?_)
  go_simp
  refine (charge_any _ G2 hN _ _).mono ?_
  rintro e W3 ⟨rfl, G3, F3⟩
  refine ⟨_, rfl, ?_⟩
  first | refine ⟨trivial, hK _ _ (wpSeq_nil ?_)⟩ | refine hK _ _ (wpSeq_nil ?_)
  have B3 := ((B1.fr z.fr (fun h => h)).fr F3 (by rw [h.kc]; exact fun e => by cases e)).cell
  have Q3 : QueueIs W3 A.row st.row := ((h.queue.fr D2 (by rw [h.krow]; exact fun e => by cases e))).fr F3 (by rw [h.krow]; exact fun e => by cases e)
  go_wp2_with (go_at_call 101; refine (push_any _ Q3 hR _).mono ?_; rintro e W4 ⟨rfl, Q4, F4⟩)
  go_end0
  have T1 : Fr (fun x => k x = .budget ∨ k x = .row) W1 W4 := ((((Fr.refl _ W1).drew.trans z.fr (fun _ _ h => h.elim)).trans F3 (fun _ _ h => .inl h)).trans F4 (fun x _ e => .inr (by rw [e]; exact h.krow)))
  have FT : Fr (fun x => k x = .men ∨ k x = .budget ∨ k x = .row) w W4 := (F1.mono (T := fun x => k x = .men ∨ k x = .budget ∨ k x = .row) (fun _ h => .inl h)).trans T1 (fun _ _ h => .inr h)
  refine ⟨rfl, ?_, FT.mono (fun x hx => show k x ≠ .no from fun e => by rw [e] at hx; simp at hx)⟩
  exact {
    kc := h.kc
    kt := h.kt
    ktm := h.ktm
    krow := h.krow
    klm := h.klm
    blk := h.blk.fr FT (by rw [h.kc]; simp)
    table := h.table.fr FT (by rw [h.kt]; simp) (by rw [h.ktm]; simp)
    budget := G3.kind F4 (fun x hx e => by rw [e, h.krow] at hx; cases hx)
    queue := Q4
    men := by
      have := hm2.fr T1 (by rw [h.klm]; simp)
      rw [show (beginSt st pid m).men = mput pid m st.men from rfl]
      rw [← mput_manPtr (mb := A.mb) (mb' := (A.with pid b pm).mb) pid m st.men hS (fun p _ hp => by simp [Addrs.with, hp])]
      have e : (A.with pid b pm).mb pid = b := by simp [Addrs.with]
      rw [e]; exact this
    man := fun p hp => by
      rcases (mem_mput hS).1 hp with rfl | ⟨hp1, hp2⟩
      · have e1 : (A.with pid b pm).mb pid = b := by simp [Addrs.with]
        have e2 : (A.with pid b pm).pb pid = pm := by simp [Addrs.with]
        simp only [e1, e2]
        exact ⟨kb, kp, hM.fr FT (by rw [kb]; simp) (by rw [kp]; simp) (fun x hx => by rw [hx]; simp)⟩
      · have e1 : (A.with pid b pm).mb p.1 = A.mb p.1 := by simp [Addrs.with, hp2]
        have e2 : (A.with pid b pm).pb p.1 = A.pb p.1 := by simp [Addrs.with, hp2]
        rw [e1, e2]
        obtain ⟨g1, g2, g3⟩ := h.man p hp1
        exact ⟨g1, g2, g3.fr FT (by rw [g1]; simp) (by rw [g2]; simp) (fun x hx => by rw [hx]; simp)⟩ }
end Go.Priory
