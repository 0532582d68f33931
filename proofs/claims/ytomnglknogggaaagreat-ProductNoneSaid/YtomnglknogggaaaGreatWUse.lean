/- What none, Left, Pid, Turn, Used of a cell do. No condition. -/
import Derived.Test.YtomnglknogggaaaGreatWCell
namespace Go.Priory
open Go.RowKit Go.Proofs
set_option maxRecDepth 100000

structure ManOk (m : Man) : Prop where
  r8 : m.r.length = 8
  rw : ∀ x ∈ m.r, 0 ≤ x ∧ x < 4294967296
  sorted : Sorted m.pages
  keys : ∀ x ∈ mkeys m.pages, 0 ≤ x ∧ x < 1024
  words : ∀ p ∈ m.pages, p.2.length = 32 ∧ ∀ x ∈ p.2, 0 ≤ x ∧ x < 4294967296
theorem ManOk.few {m : Man} (h : ManOk m) : m.pages.length ≤ 1024 := by
  have := sorted_length 0 m.pages 1024 h.sorted (fun p hp => h.keys p.1 (List.mem_map.2 ⟨p, hp, rfl⟩)) (by omega)
  omega
theorem mkeys_pageVal (l : List (Int × List Int)) : mkeys (l.map pageVal) = mkeys l := by simp [mkeys, pageVal, Function.comp_def]
theorem cnone_none (w : World) : Calls Tryz.prog 66 #[.pointer none] w fun e w' => e = .returned (.bool true) ∧ w = w' := by
  go_enter Tryz.func66, Tryz.ntmps66
  go_wp2
  go_ret
  exact ⟨rfl, rfl⟩
theorem cnone_zero {c : Nat} {v1 v2 v4 v5 v6 v7 : Value} (w : World) (h : Blk w c [v1, v2, .pointer none, v4, v5, v6, v7]) : Calls Tryz.prog 66 #[.pointer (some ⟨c, 0, none⟩)] w fun e w' => e = .returned (.bool true) ∧ w = w' := by
  have hc := h.cell
  go_enter Tryz.func66, Tryz.ntmps66
  go_wp2
  go_ret
  exact ⟨rfl, rfl⟩
theorem cnone_any {k : Nat → Kind} {c : Nat} {A : Addrs} {q : Value} {st : CellSt} (w : World) (h : CellAt k w c A q st) : Calls Tryz.prog 66 #[.pointer (some ⟨c, 0, none⟩)] w fun e w' => e = .returned (.bool false) ∧ w = w' := by
  have hc := h.blk.cell
  go_enter Tryz.func66, Tryz.ntmps66
  go_wp2
  go_ret
  exact ⟨rfl, rfl⟩
theorem cturn_none {c : Value} (w : World) (h : Calls Tryz.prog 66 #[c] w fun e w' => e = .returned (.bool true) ∧ w = w') : Calls Tryz.prog 31 #[c] w fun e w' => e = .returned (.tuple #[]) ∧ w = w' := by
  have hnot := run_not'
  go_enter Tryz.func31, Tryz.ntmps31
  go_wp2_with (go_at_call 66; refine h.mono ?_; rintro e w1 ⟨rfl, rfl⟩)
  go_end0
  exact ⟨rfl, rfl⟩
theorem cpid_none {c : Value} (w : World) (h : Calls Tryz.prog 66 #[c] w fun e w' => e = .returned (.bool true) ∧ w = w') : Calls Tryz.prog 28 #[c] w fun e w' => e = .returned (.int .i64 0) ∧ w = w' := by
  go_enter Tryz.func28, Tryz.ntmps28
  go_wp2_with (go_at_call 66; refine h.mono ?_; rintro e w1 ⟨rfl, rfl⟩)
  go_ret
  exact ⟨rfl, rfl⟩
theorem cleft_none {c : Value} (w : World) (h : Calls Tryz.prog 66 #[c] w fun e w' => e = .returned (.bool true) ∧ w = w') (pid : Int) : Calls Tryz.prog 27 #[c, .int .i64 pid] w fun e w' => e = .returned (.int .i64 0) ∧ w = w' := by
  go_enter Tryz.func27, Tryz.ntmps27
  go_wp2_with (go_at_call 66; refine h.mono ?_; rintro e w1 ⟨rfl, rfl⟩)
  go_ret
  exact ⟨rfl, rfl⟩
theorem cused_none {c : Value} (w : World) (h : Calls Tryz.prog 66 #[c] w fun e w' => e = .returned (.bool true) ∧ w = w') : Calls Tryz.prog 25 #[c] w fun e w' => e = .returned (.int .i64 0) ∧ w = w' := by
  go_enter Tryz.func25, Tryz.ntmps25
  go_wp2_with (go_at_call 66; refine h.mono ?_; rintro e w1 ⟨rfl, rfl⟩)
  go_ret
  exact ⟨rfl, rfl⟩
section
variable {k : Nat → Kind} {c : Nat} {A : Addrs} {q : Value} {st : CellSt}
theorem CellAt.nil {w w' : World} (h : CellAt k w c A q st) (f : Fr Nil w w') : CellAt k w' c A q st where
  kc := h.kc
  kt := h.kt
  ktm := h.ktm
  krow := h.krow
  klm := h.klm
  blk := h.blk.fr f (fun h => h)
  table := h.table.fr f (fun h => h) (fun h => h)
  budget := h.budget.nil f
  queue := h.queue.fr f (fun h => h)
  men := h.men.fr f (fun h => h)
  man := fun p hp => ⟨(h.man p hp).1, (h.man p hp).2.1, (h.man p hp).2.2.fr f (fun h => h) (fun h => h) (fun _ _ h => h)⟩
theorem cleft_any (w : World) (h : CellAt k w c A q st) (hN : NodesOk st.nodes) (pid : Int) :
    Calls Tryz.prog 27 #[.pointer (some ⟨c, 0, none⟩), .int .i64 pid] w fun e w' => e = .returned (.int .i64 (left st.nodes pid)) ∧ Fr Nil w w' := by
  have hc := h.blk.cell
  go_enter Tryz.func27, Tryz.ntmps27
  go_wp2_with (first
    | (go_at_call 66; refine (cnone_any _ h).mono ?_; rintro e w1 ⟨rfl, rfl⟩)
    | (go_at_call 71; refine (left_any _ h.budget hN _).mono ?_; rintro e w2 ⟨rfl, f2⟩))
  go_ret
  exact ⟨rfl, f2⟩
theorem cpid_any (w : World) (h : CellAt k w c A q st) :
    Calls Tryz.prog 28 #[.pointer (some ⟨c, 0, none⟩)] w fun e w' => e = .returned (.int .i64 ((st.row.head?).getD 0)) ∧ Fr Nil w w' := by
  have hc := h.blk.cell
  go_enter Tryz.func28, Tryz.ntmps28
  go_wp2_with (first
    | (go_at_call 66; refine (cnone_any _ h).mono ?_; rintro e w1 ⟨rfl, rfl⟩)
    | (go_at_call 68; refine (head_any _ h.queue).mono ?_; rintro e w2 ⟨rfl, f2⟩))
  go_ret
  exact ⟨rfl, f2⟩
theorem cturn_any (w : World) (h : CellAt k w c A q st) (hR : RowOk st.row) :
    Calls Tryz.prog 31 #[.pointer (some ⟨c, 0, none⟩)] w fun e w' => e = .returned (.tuple #[]) ∧ CellAt k w' c A q { st with row := turnN st.row } ∧ Fr (Own k) w w' := by
  have hc := h.blk.cell
  have hnot := run_not'
  go_enter Tryz.func31, Tryz.ntmps31
  go_wp2_with (first
    | (go_at_call 66; refine (cnone_any _ h).mono ?_; rintro e w1 ⟨rfl, rfl⟩)
    | (go_at_call 76; refine (qturn_any _ h.queue hR).mono ?_; rintro e w2 ⟨rfl, Q2, f2⟩))
  go_end0
  have F : Fr (fun x => k x = .row) w w2 := f2.mono (fun x e => by rw [e]; exact h.krow)
  refine ⟨rfl, ?_, F.mono (fun x hx => show k x ≠ .no by rw [hx]; simp)⟩
  exact {
    kc := h.kc
    kt := h.kt
    ktm := h.ktm
    krow := h.krow
    klm := h.klm
    blk := h.blk.fr F (by rw [h.kc]; simp)
    table := h.table.fr F (by rw [h.kt]; simp) (by rw [h.ktm]; simp)
    budget := h.budget.kind F (fun x hx => by rw [hx]; simp)
    queue := Q2
    men := h.men.fr F (by rw [h.klm]; simp)
    man := fun p hp => ⟨(h.man p hp).1, (h.man p hp).2.1, (h.man p hp).2.2.fr F (by rw [(h.man p hp).1]; simp) (by rw [(h.man p hp).2.1]; simp) (fun x hx => by rw [hx]; simp)⟩ }
def usedE (l : List (Int × Man)) : Int := isum (l.map fun p => chargedE (mkeys p.2.pages))
theorem chargedE_few {m : Man} (h : ManOk m) : 1 ≤ chargedE (mkeys m.pages) ∧ chargedE (mkeys m.pages) ≤ 1057 := by
  have h1 := tables_len (mkeys m.pages)
  have h2 := h.few
  have h3 : (mkeys m.pages).length = m.pages.length := by simp [mkeys]
  unfold chargedE
  rw [h3]
  omega
set_option maxHeartbeats 1000000 in
theorem cused_any (w : World) (h : CellAt k w c A q st) (hM : ∀ p ∈ st.men, ManOk p.2) (hS : Sorted st.men) (hk : ∀ p ∈ st.men, 1 ≤ p.1 ∧ p.1 ≤ 8) :
    Calls Tryz.prog 25 #[.pointer (some ⟨c, 0, none⟩)] w fun e w' => e = .returned (.int .i64 (usedE st.men)) ∧ Fr Nil w w' := by
  have hc := h.blk.cell
  obtain ⟨o, hrg, it⟩ := h.men.range (P := Tryz.prog) Tryz.underlying94
  have hmlt := h.men.lt
  have hfew : (st.men.length : Int) ≤ 8 := by
    have := sorted_length 1 st.men 9 hS (fun p hp => by have := hk p hp; omega) (by omega)
    omega
  go_enter Tryz.func25, Tryz.ntmps25
  go_wp2_with (go_at_call 66; refine (cnone_any _ h).mono ?_; rintro e w1 ⟨rfl, rfl⟩)
  go_loopw [3] (fun n wr => ∃ done rest, Iter wr w.heap.size A.lm (st.men.map (manPtr A.mb)) (rest.map (manPtr A.mb)) ∧ st.men.Perm (done ++ rest) ∧ n = .int .i64 (usedE done) ∧ Fr Nil w wr)
     (fun _ wr => toCome wr w.heap.size A.lm)
  case atStart => exact ⟨[], st.men, it, by simp, rfl, (Fr.refl _ _).alloc _⟩
  case round =>
    obtain ⟨done, rest, hit, hp, rfl, hf⟩ := hrel
    rcases hit.step (P := Tryz.prog) (by omega) 0 with ⟨rfl, hn⟩ | ⟨p, rest', w1, hp', hn, hen, hit', hf1, hsz⟩
    · go_wp2
      go_ret
      refine ⟨ret_int ?_, hf⟩
      rw [List.append_nil] at hp
      unfold usedE; exact isum_perm (hp.symm.map _)
    · have e1 : (manPtr A.mb p).1 = p.1 := rfl
      have e2 : (manPtr A.mb p).2 = .pointer (some ⟨A.mb p.1, 0, none⟩) := rfl
      rw [e1, e2] at hn hen
      have hpm : p ∈ st.men := hp.mem_iff.2 (List.mem_append_right _ (hp'.mem_iff.2 (.head _)))
      have hf2 : Fr Nil w w1 := hf.trans hf1 (fun x hx e => by omega)
      obtain ⟨_, _, hMa⟩ := (h.nil hf2).man p hpm
      obtain ⟨av, hMb, -⟩ := hMa.blk
      have hok := hM p hpm
      have cM : w1.cell? ⟨A.mb p.1, 9, none⟩ = some (.map (some (A.pb p.1))) := by
        rw [hMb.cell, List.getElem?_append_right (by simp [hok.r8])]; simp [hok.r8]
      have hpp : st.men.Perm ((done ++ [p]) ++ rest') := hp.trans (by simpa using hp'.append_left done)
      obtain ⟨g1, g2⟩ := chargedE_few hok
      have hbd := isum_bound (n := 1057) (done.map fun p => chargedE (mkeys p.2.pages)) (fun x hx => by
        obtain ⟨r, hr, rfl⟩ := List.mem_map.1 hx
        have := chargedE_few (hM r (hp.mem_iff.2 (List.mem_append_left _ hr)))
        omega)
      have hdl : done.length ≤ st.men.length := by have := hp.length_eq; simp at this; omega
      rw [List.length_map] at hbd
      have b1 : 0 ≤ usedE done := hbd.1
      have b2 : usedE done ≤ 10000 := by have := hbd.2; unfold usedE; omega
      have hsn : usedE (done ++ [p]) = usedE done + chargedE (mkeys p.2.pages) := by unfold usedE; rw [List.map_append, isum_append]; simp [isum]
      have HSN := Lib.hid hsn
      clear hrg e1 e2 hbd hsn
      go_wp2_with (go_at_call 67; refine (charged_any _ hMa.pages (by rw [mkeys_pageVal]; exact hok.keys) (by simpa using hok.few)).mono ?_; rintro e w2 ⟨rfl, f2⟩; rw [mkeys_pageVal])
      have hit2 := hit'.fr f2 (fun h => h) (fun h => h)
      refine ⟨⟨done ++ [p], rest', hit2, hpp, by rw [HSN.out], hf2.trans f2 (fun _ _ h => h)⟩, ?_⟩
      rw [hit2.toCome, hit.toCome]; have := hp'.length_eq; simp at this ⊢; omega
end
end Go.Priory
