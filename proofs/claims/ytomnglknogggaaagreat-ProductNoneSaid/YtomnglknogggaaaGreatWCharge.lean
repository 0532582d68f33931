/- What cell.charge does. No condition. -/
import Derived.Test.YtomnglknogggaaaGreatWUse
namespace Go.Priory
open Go.RowKit Go.Proofs
set_option maxRecDepth 100000

theorem zero151 (w : World) : (zeroValue 151).run Tryz.prog w = .ok (.pointer none) w := by kernel_rfl
def payE (l : Nodes) (pid was now : Int) : Int := if was < now then chargeE l pid (now - was) else 0
def payN (l : Nodes) (pid was now : Int) : Nodes := if payE l pid was now ≠ 0 then l else refundN (if was < now then chargeN l pid (now - was) else l) pid (max (was - now) 0)
def Addrs.page (A : Addrs) (pid : Int) (pm : Nat) : Addrs := { A with pb := fun x => if x = pid then pm else A.pb x }
section
variable {k : Nat → Kind} {c : Nat} {A : Addrs} {q : Value} {st : CellSt}
theorem CellAt.look {w : World} (h : CellAt k w c A q st) (pid : Int) : (Instr.lookup 94 (.map (some A.lm)) (.int .i64 pid) false).run Tryz.prog w = .ok (match mget pid st.men with | some _ => .pointer (some ⟨A.mb pid, 0, none⟩) | none => .pointer none) w := by
  rw [h.men.lookup Tryz.underlying94 Tryz.underlying3 pid zero151, mget_manPtr]
  cases mget pid st.men <;> rfl
theorem CellAt.man_of {w : World} (h : CellAt k w c A q st) {pid : Int} {m : Man} (hm : mget pid st.men = some m) : k (A.mb pid) = .man pid ∧ k (A.pb pid) = .pages pid ∧ ManAt k w (A.mb pid) (A.pb pid) m :=
  h.man (pid, m) (mget_mem hm)
theorem ManAt.c9 {w : World} {b pm : Nat} {m : Man} (h : ManAt k w b pm m) (hr : m.r.length = 8) : w.cell? ⟨b, 9, none⟩ = some (.map (some pm)) := by
  obtain ⟨av, hb, -⟩ := h.blk
  rw [hb.cell, List.getElem?_append_right (by simp [hr])]; simp [hr]
/-- The cell with other nodes. -/
theorem CellAt.nodes {w w' : World} {l : Nodes} (h : CellAt k w c A q st) (f : Fr (fun x => k x = .budget) w w') (hb : BudgetIs (fun x => k x = .budget) w' A.b l) : CellAt k w' c A q { st with nodes := l } where
  kc := h.kc
  kt := h.kt
  ktm := h.ktm
  krow := h.krow
  klm := h.klm
  blk := h.blk.fr f (by rw [h.kc]; simp)
  table := h.table.fr f (by rw [h.kt]; simp) (by rw [h.ktm]; simp)
  budget := hb
  queue := h.queue.fr f (by rw [h.krow]; simp)
  men := h.men.fr f (by rw [h.klm]; simp)
  man := fun p hp => ⟨(h.man p hp).1, (h.man p hp).2.1, (h.man p hp).2.2.fr f (by rw [(h.man p hp).1]; simp) (by rw [(h.man p hp).2.1]; simp) (fun x hx => by rw [hx]; simp)⟩
/-- The cell with another man of the number pid, whose block has been written. -/
theorem CellAt.setMan {w w' : World} {pid : Int} {m : Man} {pm : Nat} (h : CellAt k w c A q st) (hS : Sorted st.men) (f : Fr (fun x => k x = .man pid ∨ k x = .pages pid) w w') (hin : (mget pid st.men).isSome) (kp : k pm = .pages pid)
    (hm : ManAt k w' (A.mb pid) pm m) : CellAt k w' c (A.page pid pm) q { st with men := mput pid m st.men } where
  kc := h.kc
  kt := h.kt
  ktm := h.ktm
  krow := h.krow
  klm := h.klm
  blk := h.blk.fr f (by rw [h.kc]; simp)
  table := h.table.fr f (by rw [h.kt]; simp) (by rw [h.ktm]; simp)
  budget := h.budget.kind f (fun x hx => by rw [hx]; simp)
  queue := h.queue.fr f (by rw [h.krow]; simp)
  men := by
    have h1 := h.men.fr f (by rw [h.klm]; simp)
    have e : mput pid (.pointer (some ⟨A.mb pid, 0, none⟩)) (st.men.map (manPtr A.mb)) = (mput pid m st.men).map (manPtr A.mb) := mput_manPtr (mb' := A.mb) pid m st.men hS (fun _ _ _ => rfl)
    have e2 : mput pid (.pointer (some ⟨A.mb pid, 0, none⟩)) (st.men.map (manPtr A.mb)) = st.men.map (manPtr A.mb) := by
      obtain ⟨m0, hm0⟩ := Option.isSome_iff_exists.1 hin
      refine sorted_ext (sorted_mput (men_sorted hS)) (men_sorted hS) fun x => ?_
      rw [mem_mput (men_sorted hS)]
      have hmem : (pid, Value.pointer (some ⟨A.mb pid, 0, none⟩)) ∈ st.men.map (manPtr A.mb) := List.mem_map.2 ⟨(pid, m0), mget_mem hm0, rfl⟩
      constructor
      · rintro (rfl | ⟨hx, _⟩)
        · exact hmem
        · exact hx
      · intro hx
        by_cases hxe : x.1 = pid
        · left
          obtain ⟨p, hp, rfl⟩ := List.mem_map.1 hx
          have : p.1 = pid := hxe
          unfold manPtr
          rw [this]
        · exact .inr ⟨hx, hxe⟩
    rw [show (A.page pid pm).lm = A.lm from rfl, show (A.page pid pm).mb = A.mb from rfl]
    show MapIs w' A.lm ((mput pid m st.men).map (manPtr A.mb))
    rw [← e, e2]; exact h1
  man := fun p hp => by
    rcases (mem_mput hS).1 hp with rfl | ⟨hp1, hp2⟩
    · obtain ⟨m0, hm0⟩ := Option.isSome_iff_exists.1 hin
      have e1 : (A.page pid pm).pb pid = pm := by simp [Addrs.page]
      rw [e1]
      exact ⟨(h.man_of hm0).1, kp, hm⟩
    · have e1 : (A.page pid pm).pb p.1 = A.pb p.1 := by simp [Addrs.page, hp2]
      rw [e1]
      obtain ⟨g1, g2, g3⟩ := h.man p hp1
      exact ⟨g1, g2, g3.fr f (by show ¬ (k (A.mb p.1) = _ ∨ k (A.mb p.1) = _); rw [g1]; simp [hp2]) (by show ¬ (k (A.pb p.1) = _ ∨ k (A.pb p.1) = _); rw [g2]; simp [hp2]) (fun x hx => by rw [hx]; simp)⟩
theorem man_set9 {m : Man} {av : Value} {pm pm2 : Nat} (hr : m.r.length = 8) : (m.r.map (Value.int .u32) ++ [av, .map (some pm)]).set 9 (.map (some pm2)) = m.r.map (Value.int .u32) ++ [av, .map (some pm2)] := by
  rw [List.set_append_right _ _ (by simp [hr])]; simp [hr]
theorem charge_end {w : World} (h : CellAt k w c A q st) (hS : Sorted st.men) {pid : Int} {m : Man} (hm : mget pid st.men = some m) (hr : m.r.length = 8) {pm : Nat} {pages : List (Int × List Int)}
    (hP : MapIs w pm (pages.map pageVal)) (kp : k pm = .pages pid) : CellAt k (w.setCell ⟨A.mb pid, 9, none⟩ (.map (some pm))) c (A.page pid pm) q { st with men := mput pid { m with pages := pages } st.men } ∧
      Fr (fun x => k x = .man pid) w (w.setCell ⟨A.mb pid, 9, none⟩ (.map (some pm))) := by
  obtain ⟨km, kpp, hM⟩ := h.man_of hm
  obtain ⟨av, hb, ha⟩ := hM.blk
  have F : Fr (fun x => k x = .man pid) w (w.setCell ⟨A.mb pid, 9, none⟩ (.map (some pm))) := (Fr.refl _ _).setCell ⟨A.mb pid, 9, none⟩ _ (fun _ => km)
  have hb' := hb.set 9 (.map (some pm))
  rw [man_set9 hr] at hb'
  exact ⟨h.setMan hS (F.mono (fun x hx => .inl hx)) (by rw [hm]; rfl) kp ⟨⟨av, hb', ha.fr F (fun x hx => by rw [hx]; simp)⟩, hP.fr F (by rw [kp]; simp)⟩, F⟩
def ChargePost (k : Nat → Kind) (c : Nat) (q : Value) (st : CellSt) (pid : Int) (m : Man) (pages : List (Int × List Int)) (w : World) (was now : Int) (e : Ending) (w' : World) : Prop :=
  e = .returned (.int .i64 (payE st.nodes pid was now)) ∧
      (∃ A', CellAt k w' c A' q (if payE st.nodes pid was now = 0 then
        { st with men := mput pid { m with pages := pages } st.men, nodes := payN st.nodes pid was now } else st)) ∧ Fr (Own k) w w'
set_option maxHeartbeats 4000000 in
theorem charge_pages (w : World) (h : CellAt k w c A q st) (hS : Sorted st.men) (hN : NodesOk st.nodes) {pid : Int} {m : Man} (hm : mget pid st.men = some m) (hok : ManOk m) {pm : Nat} {pages : List (Int × List Int)}
    (hP : MapIs w pm (pages.map pageVal)) (kp : k pm = .pages pid) (hnew : ManOk { m with pages := pages }) (hnN : NodesOk (chargeN st.nodes pid (chargedE (mkeys pages) - chargedE (mkeys m.pages)))) :
    Calls Tryz.prog 148 #[.pointer (some ⟨c, 0, none⟩), .int .i64 pid, .map (some pm)] w (ChargePost k c q st pid m pages w (chargedE (mkeys m.pages)) (chargedE (mkeys pages))) := by
  have hc := h.blk.cell
  have hlk := h.look pid
  rw [hm] at hlk
  obtain ⟨km, kpp, hM⟩ := h.man_of hm
  have c9 := hM.c9 hok.r8
  obtain ⟨a1, a2⟩ := chargedE_few hok
  obtain ⟨b1, b2⟩ := chargedE_few hnew
  have hch1 : ∀ w', Fr Nil w w' → Calls Tryz.prog 67 #[.map (some (A.pb pid))] w' fun e w'' => e = .returned (.int .i64 (chargedE (mkeys m.pages))) ∧ Fr Nil w' w'' := fun w' f => by
    have := charged_any w' (hM.pages.fr f (fun h => h)) (by rw [mkeys_pageVal]; exact hok.keys) (by simpa using hok.few)
    rw [mkeys_pageVal] at this; exact this
  have hch2 : ∀ w', Fr Nil w w' → Calls Tryz.prog 67 #[.map (some pm)] w' fun e w'' => e = .returned (.int .i64 (chargedE (mkeys pages))) ∧ Fr Nil w' w'' := fun w' f => by
    have := charged_any w' (hP.fr f (fun h => h)) (by rw [mkeys_pageVal]; exact hnew.keys) (by simpa using hnew.few)
    rw [mkeys_pageVal] at this; exact this
  obtain ⟨av, hMb, -⟩ := hM.blk
  have HP := Lib.hid hP
  have Hm := Lib.hid hm
  clear hP hM hm
  generalize hwas : chargedE (mkeys m.pages) = was at *
  generalize hnow : chargedE (mkeys pages) = now at *
  clear hwas hnow
  by_cases hlt : was < now
  · by_cases hce : chargeE st.nodes pid (now - was) = 0
    · have HE := Lib.hid (show payE st.nodes pid was now = 0 by unfold payE; rw [if_pos hlt, hce])
      have HN := Lib.hid (show payN st.nodes pid was now = refundN (chargeN st.nodes pid (now - was)) pid 0 by
        unfold payN; rw [if_neg (by rw [HE.out]; simp), if_pos hlt, Int.max_eq_right (by omega)])
      have hmx : max (was - now) 0 = 0 := Int.max_eq_right (by omega)
      go_enter Tryz.func148, Tryz.ntmps148
      go_wp2_with (first
        | (go_at_call 67; refine (hch1 _ (Fr.refl _ _)).mono ?_; clear hch1; rintro e w1 ⟨rfl, f1⟩)
        | (go_at_call 67; refine (hch2 _ f1).mono ?_; clear hch2; rintro e w2 ⟨rfl, f2⟩; have f12 := f1.trans f2 (fun _ _ h => h); have h2 := h.nil f12; have hc2 := h2.blk.cell)
        | (go_at_call 100; refine (charge_any _ h2.budget hN _ _).mono ?_; rintro e w3 ⟨rfl, G3, f3⟩; rw [hce]; have hc3 := (h2.blk.fr f3 (by rw [h.kc]; simp)).cell; have f34 := fun {w4 : World} (f4 : Fr (fun x => k x = .budget) w3 w4) => f3.trans f4 (fun _ _ h => h))
        | (go_at_call 177; refine (refund_any _ G3 hnN _ _).mono ?_; rintro e w4 ⟨rfl, G4, f4⟩; have M4 := (hMb.fr f12 (fun h => h)).fr (f34 f4) (by rw [km]; simp); have m9 : w4.cell? ⟨A.mb pid, 9, none⟩ = some (.map (some (A.pb pid))) := (by rw [M4.cell, List.getElem?_append_right (by simp [hok.r8])]; simp [hok.r8]); have mz := M4.frozen))
      go_ret
      have h4 := h2.nodes (f34 f4) G4
      have P4 := (HP.out.fr f12 (fun h => h)).fr (f34 f4) (by rw [kp]; simp)
      obtain ⟨hE, FE⟩ := charge_end h4 hS Hm.out hok.r8 P4 kp
      refine ⟨ret_int HE.out.symm, ⟨_, by rw [if_pos HE.out, HN.out]; exact hE⟩, ?_⟩
      exact ((f12.mono (T := Own k) (fun _ h => h.elim)).trans (f34 f4) (fun x _ hx => show k x ≠ .no by rw [hx]; simp)).trans FE (fun x _ hx => show k x ≠ .no by rw [hx]; simp)
    · have HE := Lib.hid (show payE st.nodes pid was now = chargeE st.nodes pid (now - was) by unfold payE; rw [if_pos hlt])
      have hb : (chargeE st.nodes pid (now - was) != 0) = true := by simpa using hce
      have hstay : chargeN st.nodes pid (now - was) = st.nodes := by unfold chargeN; rw [if_neg hce]
      go_enter Tryz.func148, Tryz.ntmps148
      go_wp2_with (first
        | (go_at_call 67; refine (hch1 _ (Fr.refl _ _)).mono ?_; clear hch1; rintro e w1 ⟨rfl, f1⟩)
        | (go_at_call 67; refine (hch2 _ f1).mono ?_; clear hch2; rintro e w2 ⟨rfl, f2⟩; have f12 := f1.trans f2 (fun _ _ h => h); have h2 := h.nil f12; have hc2 := h2.blk.cell)
        | (go_at_call 100; refine (charge_any _ h2.budget hN _ _).mono ?_; rintro e w3 ⟨rfl, G3, f3⟩))
      go_ret
      rw [hstay] at G3
      have h4 := h2.nodes f3 G3
      refine ⟨ret_int HE.out.symm, ⟨A, ?_⟩, ?_⟩
      · rw [if_neg (by rw [HE.out]; exact hce)]; exact h4
      · exact (f12.mono (T := Own k) (fun _ h => h.elim)).trans f3 (fun x _ hx => show k x ≠ .no by rw [hx]; simp)
  · have HE := Lib.hid (show payE st.nodes pid was now = 0 by unfold payE; rw [if_neg hlt])
    have HN := Lib.hid (show payN st.nodes pid was now = refundN st.nodes pid (was - now) by
      unfold payN; rw [if_neg (by rw [HE.out]; simp), if_neg hlt, Int.max_eq_left (by omega)])
    have hmx : max (was - now) 0 = was - now := Int.max_eq_left (by omega)
    have hle : now ≤ was := by omega
    go_enter Tryz.func148, Tryz.ntmps148
    go_wp2_with (first
      | (go_at_call 67; refine (hch1 _ (Fr.refl _ _)).mono ?_; clear hch1; rintro e w1 ⟨rfl, f1⟩)
      | (go_at_call 67; refine (hch2 _ f1).mono ?_; clear hch2; rintro e w2 ⟨rfl, f2⟩; have f12 := f1.trans f2 (fun _ _ h => h); have h2 := h.nil f12; have hc2 := h2.blk.cell; have f34 := fun {w4 : World} (f4 : Fr (fun x => k x = .budget) w2 w4) => f4)
      | (go_at_call 177; refine (refund_any _ h2.budget hN _ _).mono ?_; rintro e w4 ⟨rfl, G4, f4⟩; have M4 := (hMb.fr f12 (fun h => h)).fr (f34 f4) (by rw [km]; simp); have m9 : w4.cell? ⟨A.mb pid, 9, none⟩ = some (.map (some (A.pb pid))) := (by rw [M4.cell, List.getElem?_append_right (by simp [hok.r8])]; simp [hok.r8]); have mz := M4.frozen))
    go_ret
    have h4 := h2.nodes (f34 f4) G4
    have P4 := (HP.out.fr f12 (fun h => h)).fr (f34 f4) (by rw [kp]; simp)
    obtain ⟨hE, FE⟩ := charge_end h4 hS Hm.out hok.r8 P4 kp
    refine ⟨ret_int HE.out.symm, ⟨_, by rw [if_pos HE.out, HN.out]; exact hE⟩, ?_⟩
    exact ((f12.mono (T := Own k) (fun _ h => h.elim)).trans (f34 f4) (fun x _ hx => show k x ≠ .no by rw [hx]; simp)).trans FE (fun x _ hx => show k x ≠ .no by rw [hx]; simp)
end
end Go.Priory
