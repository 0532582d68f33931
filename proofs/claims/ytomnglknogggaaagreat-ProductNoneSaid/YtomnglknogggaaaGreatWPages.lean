/- What pages cost (cell.charged). No condition. -/
import Derived.Test.YtomnglknogggaaaGreatSlc
import Derived.Test.YtomnglknogggaaaGreatWBudget
namespace Go.Priory
open Go.RowKit Go.Proofs
set_option maxRecDepth 100000

/-- The tables that pages want. -/
def tables (ks : List Int) : List Int := ((List.range 32).map Int.ofNat).filter fun q => ks.any fun k => k / 32 == q
def chargedE (ks : List Int) : Int := 1 + ks.length + (tables ks).length
theorem mem_tables {ks : List Int} (hk : ∀ k ∈ ks, 0 ≤ k ∧ k < 1024) (q : Int) : q ∈ tables ks ↔ ∃ k ∈ ks, k / 32 = q := by
  unfold tables
  simp only [List.mem_filter, List.mem_map, List.mem_range, List.any_eq_true, beq_iff_eq]
  constructor
  · rintro ⟨_, h⟩; exact h
  · rintro ⟨k, hk', rfl⟩
    have := hk k hk'
    exact ⟨⟨(k / 32).toNat, by omega, by simp only [Int.ofNat_eq_natCast]; omega⟩, k, hk', rfl⟩
theorem sorted_tables (ks : List Int) : (tables ks).Pairwise (· < ·) := by
  unfold tables
  refine List.Pairwise.filter _ ?_
  rw [List.pairwise_map]
  exact List.pairwise_lt_range.imp (fun h => by simp only [Int.ofNat_eq_natCast]; omega)
theorem tables_len (ks : List Int) : (tables ks).length ≤ 32 := by
  unfold tables
  exact Nat.le_trans (List.length_filter_le _ _) (by simp)
theorem sorted_int_ext {l l' : List Int} (h : l.Pairwise (· < ·)) (h' : l'.Pairwise (· < ·)) (e : ∀ x, x ∈ l ↔ x ∈ l') : l = l' := by
  have hp : l.Perm l' := (List.perm_ext_iff_of_nodup (h.imp (fun h => by omega)) (h'.imp (fun h => by omega))).2 e
  exact hp.eq_of_pairwise (fun a b _ _ h1 h2 => by omega) h h'
def Grouped (m : List (Int × Int)) (ks : List Int) : Prop := ∀ q, q ∈ mkeys m ↔ ∃ k ∈ ks, k / 32 = q
theorem grouped_len {m : List (Int × Int)} {ks : List Int} (hk : ∀ k ∈ ks, 0 ≤ k ∧ k < 1024) (hs : Sorted m) (hg : Grouped m ks) : m.length = (tables ks).length := by
  have : mkeys m = tables ks := sorted_int_ext (List.pairwise_map.2 hs) (sorted_tables ks) (fun q => (hg q).trans (mem_tables hk q).symm)
  rw [← this]; simp [mkeys]
def intVals (m : List (Int × Int)) : List (Int × Value) := m.map fun p => (p.1, .int .i64 p.2)
theorem tables_perm {ks ks' : List Int} (h : ks.Perm ks') : tables ks = tables ks' := by
  unfold tables; congr 1; funext q
  rw [Bool.eq_iff_iff]; simp only [List.any_eq_true]
  exact ⟨fun ⟨k, a, b⟩ => ⟨k, h.mem_iff.1 a, b⟩, fun ⟨k, a, b⟩ => ⟨k, h.mem_iff.2 a, b⟩⟩

set_option maxHeartbeats 1000000 in
theorem charged_any {b : Nat} {kv : List (Int × Value)} (w : World) (h : MapIs w b kv) (hk : ∀ k ∈ mkeys kv, 0 ≤ k ∧ k < 1024) (hl : kv.length ≤ 1024) :
    Calls Tryz.prog 67 #[.map (some b)] w fun e w' => e = .returned (.int .i64 (chargedE (mkeys kv))) ∧ Fr Nil w w' := by
  have hmm := @run_makeMap Tryz.prog
  have m0 := h.alloc (.map #[] 0)
  obtain ⟨o, hrg, it⟩ := m0.range (P := Tryz.prog) Tryz.underlying152
  have hb := h.lt
  have n0 := (MapIs.new w).alloc o
  simp only [World.size_alloc] at it
  go_enter Tryz.func67, Tryz.ntmps67
  go_wp2_with fail
  go_loopw [] (fun wr => ∃ rest done m, Iter wr (w.heap.size + 1) b kv rest ∧ kv.Perm (done ++ rest) ∧ MapIs wr w.heap.size (intVals m) ∧ Sorted m ∧ Grouped m (mkeys done) ∧ Fr Nil w wr)
     (fun wr => toCome wr (w.heap.size + 1) b)
  case atStart =>
    exact ⟨kv, [], [], it, by simp, n0, by simp [Sorted], by simp [Grouped, mkeys], ((Fr.refl _ _).alloc _).alloc _⟩
  case round =>
    obtain ⟨rest, done, m, hit, hp, hm, hs, hg, hf⟩ := hrel
    rcases hit.next (P := Tryz.prog) (by omega) 0 with ⟨rfl, hn⟩ | ⟨k, v, rest', w1, hp', hn, hen, hit', hf1, hsz⟩
    · have hln := fun ty => hit.map.len (P := Tryz.prog) Tryz.underlying152 ty
      have hln2 := fun ty => hm.len (P := Tryz.prog) Tryz.underlying205 ty
      have hpk : (mkeys kv).Perm (mkeys done) := by rw [List.append_nil] at hp; exact hp.map _
      have e1 := grouped_len (fun k hk' => hk k (hpk.mem_iff.2 hk')) hs hg
      rw [← tables_perm hpk] at e1
      have e2 : (intVals m).length = m.length := by simp [intVals]
      have e3 := tables_len (mkeys kv)
      have E := Lib.hid (show chargedE (mkeys kv) = (1 + kv.length : Int) + (tables (mkeys kv)).length by unfold chargedE; simp [mkeys])
      rw [e1] at e2
      clear hmm hrg e1
      go_wp2
      go_ret
      exact ⟨ret_int E.out.symm, hf⟩
    · have hm1 : MapIs w1 w.heap.size (intVals m) := hm.fr hf1 (by omega)
      have hk1 := hk k (List.mem_map.2 ⟨(k, v), hit.sub _ (hp'.mem_iff.2 (by simp)), rfl⟩)
      obtain ⟨c, hc⟩ : ∃ c, (mget (k / 32) m).getD 0 = c := ⟨_, rfl⟩
      have hlk : (Instr.lookup 205 (.map (some w.heap.size)) (.int .i64 (k / 32)) false).run Tryz.prog w1 = .ok (.int .i64 c) w1 := by
        rw [hm1.lookup Tryz.underlying205 Tryz.underlying3 (k / 32) zero3, ← hc]
        unfold intVals; rw [mget_map]; cases mget (k / 32) m <;> rfl
      obtain ⟨hk1, hk2⟩ := hk1
      clear hmm hrg hc
      have hS : Sorted (intVals m) := (sorted_map _).2 hs
      go_wp2_with (at_mapUpdate; refine wpList_mapSet rfl _ _ _ 205 rfl 3 3 Tryz.underlying205 Tryz.underlying3 _ _ _ _ rfl rfl rfl hm1 hS ?_; intro ob hm2; dsimp only [Act.put])
      go_roundw
      case rel =>
        have hfin : Iter (w1.putObj w.heap.size ob) (w.heap.size + 1) b kv rest' := hit'.of (World.putObj_heap_other (by omega)) (World.putObj_heap_other (by omega))
        refine ⟨rest', done ++ [(k, v)], mput (k / 32) (wrap64 (c + 1)) m, hfin, hp.trans (by simpa using hp'.append_left done), ?_, sorted_mput hs, ?_, (hf.trans hf1 (fun x hx e => by omega)).putObj _ _ (fun h => by omega)⟩
        · unfold intVals at hm2 ⊢
          rw [← mput_map (fun x => Value.int .i64 x)]; exact hm2
        · intro q
          have := hg q
          simp only [mkeys, List.mem_map] at this ⊢
          constructor
          · rintro ⟨p, hp1, rfl⟩
            rcases (mem_mput hs).1 hp1 with rfl | ⟨hp2, _⟩
            · exact ⟨k, ⟨(k, v), by simp, rfl⟩, rfl⟩
            · obtain ⟨k', ⟨r, hr, hrk⟩, hk'⟩ := this.1 ⟨p, hp2, rfl⟩
              exact ⟨k', ⟨r, List.mem_append_left _ hr, hrk⟩, hk'⟩
          · rintro ⟨k', ⟨r, hr, rfl⟩, rfl⟩
            rcases List.mem_append.1 hr with hr | hr
            · obtain ⟨p, hp1, hp2⟩ := this.2 ⟨r.1, ⟨r, hr, rfl⟩, rfl⟩
              by_cases e : p.1 = k / 32
              · exact ⟨(k / 32, _), (mem_mput hs).2 (.inl rfl), by rw [← e, hp2]⟩
              · exact ⟨p, (mem_mput hs).2 (.inr ⟨hp1, e⟩), hp2⟩
            · rw [List.mem_singleton.1 hr]
              exact ⟨(k / 32, _), (mem_mput hs).2 (.inl rfl), rfl⟩
      case measure =>
        have hfin : Iter (w1.putObj w.heap.size ob) (w.heap.size + 1) b kv rest' := hit'.of (World.putObj_heap_other (by omega)) (World.putObj_heap_other (by omega))
        rw [hfin.toCome, hit.toCome]; have := hp'.length_eq; simp at this ⊢; omega
end Go.Priory
