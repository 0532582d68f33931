/- What cell.reach does. No condition. -/
import Derived.Test.YtomnglknogggaaaGreatWRegion
import Derived.Test.YtomnglknogggaaaGreatWMapClone
import Derived.Test.YtomnglknogggaaaGreatPure2
namespace Go.Priory
open Go.RowKit Go.Proofs
set_option maxRecDepth 100000

def zeroPage : List Int := [0, 0, 0, 0, 0, 0, 0, 0, 0, 0, 0, 0, 0, 0, 0, 0, 0, 0, 0, 0, 0, 0, 0, 0, 0, 0, 0, 0, 0, 0, 0, 0]
theorem zero257 (w : World) : (zeroValue 257).run Tryz.prog w = .ok (.agg (zeroPage.map (Value.int .u32)).toArray) w := by kernel_rfl
/-- A cell's blocks have grown. -/
structure Grew (k k' : Nat → Kind) (w w' : World) : Prop where
  keep : ∀ x, Own k x → k' x = k x
  new : ∀ x, Own k' x → Own k x ∨ (w.heap.size ≤ x ∧ x < w'.heap.size)
  fr : Fr (Own k) w w'
theorem Grew.same {k : Nat → Kind} {w w' : World} (f : Fr (Own k) w w') : Grew k k w w' := ⟨fun _ _ => rfl, fun _ h => .inl h, f⟩
theorem Grew.trans {k k' k'' : Nat → Kind} {a b c : World} (h : Grew k k' a b) (g : Grew k' k'' b c) : Grew k k'' a c where
  keep := fun x hx => by
    have h1 := h.keep x hx
    have : Own k' x := by show k' x ≠ .no; rw [h1]; exact hx
    rw [g.keep x this, h1]
  new := fun x hx => by
    rcases g.new x hx with hx | hx
    · rcases h.new x hx with hx | hx
      · exact .inl hx
      · have := g.fr.size; exact .inr ⟨hx.1, by omega⟩
    · have := h.fr.size; exact .inr ⟨by omega, hx.2⟩
  fr := h.fr.trans g.fr fun x hlt hx => by
    rcases h.new x hx with hx | hx
    · exact hx
    · omega
theorem CellAt.more {k k' : Nat → Kind} {w : World} {c : Nat} {A : Addrs} {q : Value} {st : CellSt} (h : CellAt k w c A q st) (hk : ∀ x, Own k x → k' x = k x) : CellAt k' w c A q st where
  kc := by rw [hk c (show k c ≠ .no by rw [h.kc]; simp), h.kc]
  kt := by rw [hk _ (show k A.t ≠ .no by rw [h.kt]; simp), h.kt]
  ktm := by rw [hk _ (show k A.tm ≠ .no by rw [h.ktm]; simp), h.ktm]
  krow := by rw [hk _ (show k A.row ≠ .no by rw [h.krow]; simp), h.krow]
  klm := by rw [hk _ (show k A.lm ≠ .no by rw [h.klm]; simp), h.klm]
  blk := h.blk
  table := h.table
  budget := h.budget.mono fun x hx => by rw [hk x (show k x ≠ .no by rw [hx]; simp), hx]
  queue := h.queue
  men := h.men
  man := fun p hp => by
    obtain ⟨g1, g2, g3⟩ := h.man p hp
    refine ⟨by rw [hk _ (show k (A.mb p.1) ≠ .no by rw [g1]; simp), g1], by rw [hk _ (show k (A.pb p.1) ≠ .no by rw [g2]; simp), g2], ?_, g3.pages⟩
    obtain ⟨av, hb, hs⟩ := g3.blk
    exact ⟨av, hb, hs.mono fun x hx => by rw [hk x (show k x ≠ .no by rw [hx]; simp), hx]⟩
theorem mget_pageVal (n : Int) : ∀ (l : List (Int × List Int)), mget n (l.map pageVal) = (mget n l).map fun x => .agg (x.map (Value.int .u32)).toArray
  | [] => rfl
  | p :: l => by
    simp only [List.map_cons, mget, pageVal]
    split
    · rfl
    · exact mget_pageVal n l
theorem mput_pageVal (n : Int) (x : List Int) : ∀ (l : List (Int × List Int)), mput n (.agg (x.map (Value.int .u32)).toArray) (l.map pageVal) = (mput n x l).map pageVal
  | [] => rfl
  | p :: l => by
    simp only [List.map_cons, mput, pageVal]
    split
    · rfl
    · split
      · rfl
      · simp only [List.map_cons, pageVal, List.cons.injEq, true_and]
        exact mput_pageVal n x l
/-- The pages of some words, one after the other. -/
def reachFrom (areas : List Area) (va : Int) (write : Bool) : Nat → Int → List (Int × List Int) → Int × List (Int × List Int)
  | 0, _, l => (0, l)
  | s + 1, k, l =>
    if 32768 ≤ va + k then (7, l) else
    match findE areas ((va + k) / 32) with
    | none => (7, l)
    | some may => if write && !may then (8, l) else reachFrom areas va write s (k + 1) (mput ((va + k) / 32) ((mget ((va + k) / 32) l).getD zeroPage) l)
def PagesOk (l : List (Int × List Int)) : Prop := Sorted l ∧ (∀ x ∈ mkeys l, 0 ≤ x ∧ x < 1024) ∧ ∀ p ∈ l, p.2.length = 32 ∧ ∀ x ∈ p.2, 0 ≤ x ∧ x < 4294967296
theorem PagesOk.put {l : List (Int × List Int)} (h : PagesOk l) {n : Int} (h0 : 0 ≤ n) (h1 : n < 1024) {x : List Int} (hx : x.length = 32 ∧ ∀ y ∈ x, 0 ≤ y ∧ y < 4294967296) : PagesOk (mput n x l) := by
  refine ⟨sorted_mput h.1, fun y hy => ?_, fun p hp => ?_⟩
  · obtain ⟨p, hp, rfl⟩ := List.mem_map.1 hy
    rcases (mem_mput h.1).1 hp with rfl | ⟨hp, _⟩
    · exact ⟨h0, h1⟩
    · exact h.2.1 _ (List.mem_map.2 ⟨p, hp, rfl⟩)
  · rcases (mem_mput h.1).1 hp with rfl | ⟨hp, _⟩
    · exact hx
    · exact h.2.2 p hp
theorem PagesOk.get {l : List (Int × List Int)} (h : PagesOk l) (n : Int) : ((mget n l).getD zeroPage).length = 32 ∧ ∀ y ∈ (mget n l).getD zeroPage, 0 ≤ y ∧ y < 4294967296 := by
  cases hg : mget n l with
  | some x => exact h.2.2 _ (mget_mem hg)
  | none =>
    refine ⟨rfl, fun y hy => ?_⟩
    have : ∀ z ∈ zeroPage, z = 0 := by decide
    rw [this y hy]; omega
theorem ManOk.pagesOk {m : Man} (h : ManOk m) : PagesOk m.pages := ⟨h.sorted, h.keys, h.words⟩
theorem ManOk.with {m : Man} (h : ManOk m) {l : List (Int × List Int)} (hl : PagesOk l) : ManOk { m with pages := l } := ⟨h.r8, h.rw, hl.1, hl.2.1, hl.2.2⟩
theorem ManOk.areasWith {m : Man} {l : List (Int × List Int)} : ({ m with pages := l } : Man).areas = m.areas := rfl
def reachE (m : Man) (va : Int) (words : Int) (write : Bool) : Int × List (Int × List Int) := if words < 1 ∨ 1024 < words then (2, m.pages) else reachFrom m.areas va write words.toNat 0 m.pages
def ReachPost (k : Nat → Kind) (c : Nat) (q : Value) (st : CellSt) (pid : Int) (m : Man) (va words : Int) (write : Bool) (w : World) (e : Ending) (w' : World) : Prop :=
  ∃ k' A', Grew k k' w w' ∧
    (if (reachE m va words write).1 ≠ 0 then e = .returned (.int .i64 (reachE m va words write).1) ∧ CellAt k' w' c A' q st
     else ChargePost k' c q st pid m (reachE m va words write).2 w (chargedE (mkeys m.pages)) (chargedE (mkeys (reachE m va words write).2)) e w')
section
variable {k : Nat → Kind} {c : Nat} {A : Addrs} {q : Value} {st : CellSt}
set_option maxHeartbeats 4000000 in
theorem reach_any (w : World) (h : CellAt k w c A q st) (hlo : ∀ x, Own k x → x < w.heap.size) (hS : Sorted st.men) (hN : NodesOk st.nodes) {pid : Int} {m : Man} (hm : mget pid st.men = some m) (hok : ManOk m) (har : AreasOk m.areas)
    (va words : Int) (hva : 0 ≤ va ∧ va < 4294967296) (write : Bool) :
    Calls Tryz.prog 106 #[.pointer (some ⟨c, 0, none⟩), .int .i64 pid, .int .u32 va, .int .i64 words, .bool write] w (ReachPost k c q st pid m va words write w) := by
  by_cases hw : words < 1 ∨ 1024 < words
  · have HR := Lib.hid (show reachE m va words write = (2, m.pages) by unfold reachE; rw [if_pos hw])
    rcases hw with hw | hw
    · go_enter Tryz.func106, Tryz.ntmps106
      go_wp2
      go_ret
      exact ⟨k, A, Grew.same (Fr.refl _ _), by rw [HR.out]; exact ⟨rfl, h⟩⟩
    · have hw1 : 1 ≤ words := by omega
      go_enter Tryz.func106, Tryz.ntmps106
      go_wp2
      go_ret
      exact ⟨k, A, Grew.same (Fr.refl _ _), by rw [HR.out]; exact ⟨rfl, h⟩⟩
  · obtain ⟨n, rfl⟩ : ∃ n : Nat, words = n := ⟨words.toNat, by omega⟩
    have hn1 : 1 ≤ n := by omega
    have hn2 : n ≤ 1024 := by omega
    have hRE : reachE m va n write = reachFrom m.areas va write n 0 m.pages := by unfold reachE; rw [if_neg hw, Int.toNat_natCast]
    have HR := Lib.hid hRE
    clear hRE hw
    obtain ⟨hva1, hva2⟩ := hva
    have hc := h.blk.cell
    have hlk := h.look pid
    rw [hm] at hlk
    obtain ⟨km, kpp, hM⟩ := h.man_of hm
    have c9 := hM.c9 hok.r8
    obtain ⟨av, hMb, hMa⟩ := hM.blk
    have hnot := run_not'
    have hPm := hM.pages
    obtain ⟨aa, an, ac, rfl⟩ := hMa.slice
    have hmbl := hMb.lt
    have hcl := h.blk.lt
    have Hm := Lib.hid hm
    clear hm
    go_enter Tryz.func106, Tryz.ntmps106
    go_wp2_with (go_at_call 146; refine (mapsClone_any _ hPm).mono ?_; rintro e w1 ⟨rfl, hC1, f1, hs1⟩)
    obtain ⟨pm, hpm⟩ : ∃ pm, w.heap.size = pm := ⟨_, rfl⟩
    rw [hpm] at hC1 ⊢
    go_loopw [36] (fun i wr => ∃ (j : Nat) (l : List (Int × List Int)), j ≤ n ∧ i = .int .i64 j ∧ PagesOk l ∧ reachFrom m.areas va write n 0 m.pages = reachFrom m.areas va write (n - j) j l ∧ MapIs wr pm (l.map pageVal) ∧ Fr (fun x => x = pm) w1 wr)
      (fun i _ => n - (intOf i).toNat)
    case atStart => exact ⟨0, m.pages, Nat.zero_le _, rfl, hok.pagesOk, by simp, hC1, Fr.refl _ _⟩
    case round =>
      clear hc hlk c9
      obtain ⟨j, l, hj, rfl, hl, hrf, hC, f2⟩ := hrel
      have F : Fr Nil w wr := f1.trans f2 (fun x hx e => by omega)
      have h' := h.nil F
      have c8 : wr.cell? ⟨A.mb pid, 8, none⟩ = some (.slice aa an ac) := by
        rw [(hMb.fr F (fun h => h)).cell, List.getElem?_append_right (by simp [hok.r8])]; simp [hok.r8]
      have hAr := hMa.nil F
      have HRF := Lib.hid hrf
      have HL := Lib.hid hl
      clear hrf hl
      by_cases hlt : j < n
      · have hstep : n - j = (n - (j + 1)) + 1 := by omega
        by_cases h1 : 32768 ≤ va + j
        · have HE := Lib.hid (show (reachE m va n write).1 = 7 by rw [HR.out, HRF.out, hstep]; unfold reachFrom; rw [if_pos h1])
          go_wp2
          go_ret
          exact ⟨k, A, Grew.same (F.mono (fun _ h => h.elim)), by rw [HE.out, if_pos (by omega)]; exact ⟨rfl, h'⟩⟩
        · have h1' : va + j < 32768 := by omega
          have hq0 : 0 ≤ (va + j) / 32 := by omega
          have hq1 : (va + j) / 32 < 1024 := by omega
          cases hf : findE m.areas ((va + j) / 32) with
          | none =>
            have HE := Lib.hid (show (reachE m va n write).1 = 7 by rw [HR.out, HRF.out, hstep]; unfold reachFrom; rw [if_neg h1, hf])
            have HF := Lib.hid hf
            clear hf
            go_wp2_with (go_at_call 147; refine (rfind_any _ hAr har _).mono ?_; rintro e w5 ⟨rfl, f5⟩; rw [HF.out]; unfold findV; simp only [Option.getD_none, Option.isSome_none])
            go_ret
            exact ⟨k, A, Grew.same ((F.trans f5 (fun _ _ h => h)).mono (fun _ h => h.elim)), by rw [HE.out, if_pos (by omega)]; exact ⟨rfl, h'.nil f5⟩⟩
          | some may =>
            have HF := Lib.hid hf
            clear hf
            by_cases hwm : write = true ∧ may = false
            · obtain ⟨rfl, rfl⟩ := hwm
              have HE := Lib.hid (show (reachE m va n true).1 = 8 by rw [HR.out, HRF.out, hstep]; unfold reachFrom; rw [if_neg h1, HF.out]; rfl)
              go_wp2_with (go_at_call 147; refine (rfind_any _ hAr har _).mono ?_; rintro e w5 ⟨rfl, f5⟩; rw [HF.out]; unfold findV; simp only [Option.getD_some, Option.isSome_some])
              go_ret
              exact ⟨k, A, Grew.same ((F.trans f5 (fun _ _ h => h)).mono (fun _ h => h.elim)), by rw [HE.out, if_pos (by omega)]; exact ⟨rfl, h'.nil f5⟩⟩
            · have hwb : (write && !may) = false := by cases write <;> cases may <;> simp_all
              have HE := Lib.hid (show reachFrom m.areas va write n 0 m.pages = reachFrom m.areas va write (n - (j + 1)) (j + 1 : Nat) (mput ((va + j) / 32) ((mget ((va + j) / 32) l).getD zeroPage) l) by
                rw [HRF.out, hstep]; conv => lhs; unfold reachFrom
                rw [if_neg h1, HF.out]; simp [hwb])
              have hcase : (write = false) ∨ (may = true) := by cases write <;> cases may <;> simp_all
              obtain ⟨pv, hpv⟩ : ∃ pv, Value.agg ((((mget ((va + j) / 32) l).getD zeroPage).map (Value.int .u32)).toArray) = pv := ⟨_, rfl⟩
              have hlk2 : ∀ w5, Fr Nil wr w5 → (Instr.lookup 152 (.map (some pm)) (.int .i64 ((va + j) / 32)) false).run Tryz.prog w5 = .ok pv w5 := fun w5 f5 => by
                rw [(hC.fr f5 (fun h => h)).lookup Tryz.underlying152 Tryz.underlying3 ((va + j) / 32) zero257, mget_pageVal, ← hpv]
                cases mget ((va + j) / 32) l <;> rfl
              have HPV := Lib.hid hpv
              have HS := Lib.hid (show Sorted (l.map pageVal) by
                have := HL.out.1
                unfold Sorted at *
                rw [List.pairwise_map]; exact this.imp (fun h => h))
              clear hwm hpv
              cases write with
              | false =>
                go_wp2_with (first
                  | (go_at_call 147; refine (rfind_any _ hAr har _).mono ?_; rintro e w5 ⟨rfl, f5⟩; rw [HF.out]; unfold findV; simp only [Option.getD_some, Option.isSome_some]; have hl5 := hlk2 _ f5)
                  | (at_mapUpdate; refine wpList_mapSet rfl _ _ _ 152 rfl 3 257 Tryz.underlying152 Tryz.underlying3 pm _ _ _ rfl rfl rfl (hC.fr f5 (fun h => h)) HS.out ?_; intro ob hm2; dsimp only [Act.put]))
                go_roundw
                case rel =>
                  refine ⟨j + 1, mput ((va + j) / 32) ((mget ((va + j) / 32) l).getD zeroPage) l, by omega, by go_num, HL.out.put hq0 hq1 (HL.out.get _), HE.out, ?_, (f2.trans f5 (fun _ _ h => h.elim)).putObj _ _ (fun _ => rfl)⟩
                  rw [← mput_pageVal, HPV.out]; exact hm2
                case measure => simp [intOf]; omega
              | true =>
                obtain rfl : may = true := hcase.resolve_left (by simp)
                go_wp2_with (first
                  | (go_at_call 147; refine (rfind_any _ hAr har _).mono ?_; rintro e w5 ⟨rfl, f5⟩; rw [HF.out]; unfold findV; simp only [Option.getD_some, Option.isSome_some]; have hl5 := hlk2 _ f5)
                  | (at_mapUpdate; refine wpList_mapSet rfl _ _ _ 152 rfl 3 257 Tryz.underlying152 Tryz.underlying3 pm _ _ _ rfl rfl rfl (hC.fr f5 (fun h => h)) HS.out ?_; intro ob hm2; dsimp only [Act.put]))
                go_roundw
                case rel =>
                  refine ⟨j + 1, mput ((va + j) / 32) ((mget ((va + j) / 32) l).getD zeroPage) l, by omega, by go_num, HL.out.put hq0 hq1 (HL.out.get _), HE.out, ?_, (f2.trans f5 (fun _ _ h => h.elim)).putObj _ _ (fun _ => rfl)⟩
                  rw [← mput_pageVal, HPV.out]; exact hm2
                case measure => simp [intOf]; omega
      · obtain rfl : j = n := by omega
        have hRE : reachE m va j write = (0, l) := by rw [HR.out, HRF.out, Nat.sub_self]; rfl
        have HE := Lib.hid hRE
        clear hRE
        have hpno : ∀ x, Own k x → x ≠ pm := fun x hx e => by have := hlo x hx; omega
        let k' : Nat → Kind := fun x => if x = pm then .pages pid else k x
        have hk' : ∀ x, Own k x → k' x = k x := fun x hx => by simp [k', hpno x hx]
        have hkp : k' pm = .pages pid := by simp [k']
        have hkn : ∀ x, Own k' x → Own k x ∨ x = pm := fun x hx => by
          by_cases e : x = pm
          · exact .inr e
          · refine .inl ?_
            show k x ≠ .no
            have : k' x = k x := by simp [k', e]
            rw [← this]; exact hx
        have hch := charge_pages wr (h'.more hk') hS hN Hm.out hok hC hkp (hok.with HL.out) (hN.charge _ _)
        clear_value k'
        clear h'
        go_wp2_with (go_at_call 148; refine hch.mono ?_; clear hch; intro e w6 hpost; obtain ⟨rfl, hcell, f6⟩ := hpost)
        go_ret
        have s6 := f6.size
        have s2 := f2.size
        have FF : Fr (Own k') w w6 := (F.mono (T := Own k') (fun _ h => h.elim)).trans f6 (fun _ _ h => h)
        refine ⟨k', A, ⟨hk', fun x hx => ?_, ?_⟩, ?_⟩
        · rcases hkn x hx with hx | rfl
          · exact .inl hx
          · exact .inr ⟨by omega, by omega⟩
        · exact F.mono (T := Own k) (fun _ h => h.elim) |>.trans f6 (fun x hxl hx => by
            rcases hkn x hx with hx | rfl
            · exact hx
            · omega)
        · rw [HE.out, if_neg (by simp)]
          exact ⟨rfl, hcell, FF⟩
end
end Go.Priory
