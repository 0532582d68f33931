/- The queues of a configuration (cell.Queues): what they are, what may and Len and NewQueues do. No condition. -/
import Derived.Test.YtomnglknogggaaaGreatWConf2
import Derived.Test.YtomnglknogggaaaGreatWClone
import Derived.Test.YtomnglknogggaaaGreatWSame
namespace Go.Priory
open Go.RowKit Go.Proofs
set_option maxRecDepth 100000

structure Qs where
  conf : Conf
  l : List (List (List Int))
/-- v is one channel's messages: their cells lie in block b (no block where there is no message and no room). -/
def RowIs (p : Nat → Prop) (w : World) (v : Value) (ob : Option Nat) (ms : List (List Int)) : Prop :=
  (ob = none ∧ v = .slice none 0 0 ∧ ms = []) ∨
  ∃ b off cap cells, ob = some b ∧ v = .slice (some ⟨b, off, none⟩) ms.length cap ∧ Blk w b cells ∧ cells.length = off + cap ∧ ms.length ≤ cap ∧
    (∀ i m, ms[i]? = some m → ∃ mv, cells[off + i]? = some mv ∧ SlcIn p w 1 mv (m.map (Value.int .u32)) ∧ mv.oneCell' = true)
structure QueuesAt (p : Nat → Prop) (w : World) (q : Nat) (s : Qs) (bl : Nat) (rb : Nat → Option Nat) : Prop where
  blk : ∃ v1 v2 v3, Blk w q [v1, v2, v3, .slice (some ⟨bl, 0, none⟩) s.l.length s.l.length] ∧ ConfIs p w (.agg #[v1, v2, v3]) s.conf
  len : s.l.length = s.conf.chans.length
  few : s.l.length ≤ 16
  some_ : s.conf.parts ≠ []
  rows : ∃ vs, Blk w bl vs ∧ vs.length = s.l.length ∧ ∀ i ms, s.l[i]? = some ms → ∃ v, vs[i]? = some v ∧ RowIs p w v (rb i) ms ∧ v.oneCell' = true
  nq : ¬ p q
  nbl : ¬ p bl
  nrb : ∀ i b, rb i = some b → ¬ p b
  qbl : q ≠ bl
  qrb : ∀ i b, rb i = some b → b ≠ q ∧ b ≠ bl
  inj : ∀ i j b, rb i = some b → rb j = some b → i = j
theorem may_none (w : World) (part ch : Int) (send : Bool) : Calls Tryz.prog 57 #[.pointer none, .int .i64 part, .int .i64 ch, .bool send] w fun e w' => e = .returned (.int .i64 1) ∧ w = w' := by
  go_enter Tryz.func57, Tryz.ntmps57
  go_wp2
  go_ret
  exact ⟨rfl, rfl⟩
theorem may_zero {q : Nat} {v2 v3 v4 : Value} {c : Nat} (w : World) (h : Blk w q [.slice none 0 c, v2, v3, v4]) (part ch : Int) (send : Bool) :
    Calls Tryz.prog 57 #[.pointer (some ⟨q, 0, none⟩), .int .i64 part, .int .i64 ch, .bool send] w fun e w' => e = .returned (.int .i64 1) ∧ w = w' := by
  have hc := h.cell
  go_enter Tryz.func57, Tryz.ntmps57
  go_wp2
  go_ret
  exact ⟨rfl, rfl⟩
def mayE (s : Qs) (part ch : Int) (send : Bool) : Int :=
  if ch < 0 ∨ (s.l.length : Int) ≤ ch then 4 else
    match s.conf.chans[ch.toNat]? with
    | some x => if (if send then x.from_ else x.to) = part then 0 else 8
    | none => 4
theorem may_any {p : Nat → Prop} {q bl : Nat} {s : Qs} {rb : Nat → Option Nat} (w : World) (h : QueuesAt p w q s bl rb) (part ch : Int) (send : Bool) :
    Calls Tryz.prog 57 #[.pointer (some ⟨q, 0, none⟩), .int .i64 part, .int .i64 ch, .bool send] w fun e w' => e = .returned (.int .i64 (mayE s part ch send)) ∧ w = w' := by
  obtain ⟨v1, v2, v3, hB, hC⟩ := h.blk
  have hlen := h.len
  have hfew := h.few
  obtain ⟨v1', v2', v3', e, ⟨a1, n1, c1, rfl, hl1, hm1, hc1⟩, h2, ⟨a3, n3, c3, rfl, hl3, hm3, hc3⟩⟩ := hC
  simp only [Value.agg.injEq, Array.mk.injEq, List.cons.injEq, and_true] at e
  obtain ⟨rfl, rfl, rfl⟩ := e
  rw [flat_pair_len] at hl1
  rw [flat_chan_len] at hl3
  obtain rfl : n1 = s.conf.parts.length := by omega
  obtain rfl : n3 = s.conf.chans.length := by omega
  have hne := h.some_
  have h1 : (((s.conf.parts.length : Nat) : Int) == 0) = false := by
    cases hp : s.conf.parts with
    | nil => exact absurd hp hne
    | cons x l => simp; omega
  have hc := hB.cell
  have hnot := run_not'
  clear hl1 hl3 hc1 h2
  by_cases hr : ch < 0 ∨ (s.l.length : Int) ≤ ch
  · have HE := Lib.hid (show mayE s part ch send = 4 by unfold mayE; rw [if_pos hr])
    by_cases h0 : ch < 0
    · go_enter Tryz.func57, Tryz.ntmps57
      go_wp2
      go_ret
      exact ⟨ret_int HE.out.symm, rfl⟩
    · have h1' : (s.l.length : Int) ≤ ch := by omega
      go_enter Tryz.func57, Tryz.ntmps57
      go_wp2
      go_ret
      exact ⟨ret_int HE.out.symm, rfl⟩
  · obtain ⟨k, rfl⟩ : ∃ k : Nat, ch = k := ⟨ch.toNat, by omega⟩
    obtain ⟨x, hx⟩ : ∃ x, s.conf.chans[k]? = some x := ⟨s.conf.chans[k]'(by omega), by rw [List.getElem?_eq_getElem (by omega)]⟩
    obtain ⟨g1, g2, g3, g4⟩ := flat_chan _ _ _ hx
    rcases hc3 with hz | ⟨b, off, rfl, hp, hc3⟩
    · omega
    have e1 := hc3 _ _ g1
    have e2 : w.cell? ⟨b, off + k * 4 + 1, none⟩ = some (.int .i64 x.to) := hc3 _ _ g2
    have hk : k < s.l.length := by omega
    have hk2 : k < s.conf.chans.length := by omega
    have hE : mayE s part k send = if (if send then x.from_ else x.to) = part then 0 else 8 := by
      unfold mayE; rw [if_neg hr, Int.toNat_natCast, hx]
    have HE := Lib.hid hE
    clear hc3 g1 g2 g3 g4 hE hr
    cases send with
    | true =>
      by_cases hp : x.from_ = part
      · have hb : (x.from_ != part) = false := by simpa using hp
        go_enter Tryz.func57, Tryz.ntmps57
        go_wp2
        go_ret
        exact ⟨ret_int (by rw [HE.out, if_pos (by simpa using hp)]), rfl⟩
      · have hb : (x.from_ != part) = true := by simpa using hp
        go_enter Tryz.func57, Tryz.ntmps57
        go_wp2
        go_ret
        exact ⟨ret_int (by rw [HE.out, if_neg (by simpa using hp)]), rfl⟩
    | false =>
      by_cases hp : x.to = part
      · have hb : (x.to != part) = false := by simpa using hp
        go_enter Tryz.func57, Tryz.ntmps57
        go_wp2
        go_ret
        exact ⟨ret_int (by rw [HE.out, if_pos (by simpa using hp)]), rfl⟩
      · have hb : (x.to != part) = true := by simpa using hp
        go_enter Tryz.func57, Tryz.ntmps57
        go_wp2
        go_ret
        exact ⟨ret_int (by rw [HE.out, if_neg (by simpa using hp)]), rfl⟩
theorem len_none (w : World) (ch : Int) : Calls Tryz.prog 22 #[.pointer none, .int .i64 ch] w fun e w' => e = .returned (.int .i64 0) ∧ w = w' := by
  go_enter Tryz.func22, Tryz.ntmps22
  go_wp2
  go_ret
  exact ⟨rfl, rfl⟩
theorem len_zero {q : Nat} {v1 v2 v3 : Value} {a : Option Addr} {c : Nat} (w : World) (h : Blk w q [v1, v2, v3, .slice a 0 c]) (ch : Int) :
    Calls Tryz.prog 22 #[.pointer (some ⟨q, 0, none⟩), .int .i64 ch] w fun e w' => e = .returned (.int .i64 0) ∧ w = w' := by
  have hc := h.cell
  by_cases h0 : ch < 0
  · go_enter Tryz.func22, Tryz.ntmps22
    go_wp2
    go_ret
    exact ⟨rfl, rfl⟩
  · have h1 : 0 ≤ ch := by omega
    go_enter Tryz.func22, Tryz.ntmps22
    go_wp2
    go_ret
    exact ⟨rfl, rfl⟩
def lenE (s : Qs) (ch : Int) : Int := if ch < 0 then 0 else match s.l[ch.toNat]? with | some ms => ms.length | none => 0
theorem qlen_any {p : Nat → Prop} {q bl : Nat} {s : Qs} {rb : Nat → Option Nat} (w : World) (h : QueuesAt p w q s bl rb) (ch : Int) :
    Calls Tryz.prog 22 #[.pointer (some ⟨q, 0, none⟩), .int .i64 ch] w fun e w' => e = .returned (.int .i64 (lenE s ch)) ∧ w = w' := by
  obtain ⟨v1, v2, v3, hB, hC⟩ := h.blk
  have hc := hB.cell
  have hfew := h.few
  by_cases hr : ch < 0 ∨ (s.l.length : Int) ≤ ch
  · have HE := Lib.hid (show lenE s ch = 0 by
      unfold lenE
      by_cases h0 : ch < 0
      · rw [if_pos h0]
      · rw [if_neg h0, List.getElem?_eq_none (by omega)])
    by_cases h0 : ch < 0
    · go_enter Tryz.func22, Tryz.ntmps22
      go_wp2
      go_ret
      exact ⟨ret_int HE.out.symm, rfl⟩
    · have h1 : (s.l.length : Int) ≤ ch := by omega
      go_enter Tryz.func22, Tryz.ntmps22
      go_wp2
      go_ret
      exact ⟨ret_int HE.out.symm, rfl⟩
  · obtain ⟨k, rfl⟩ : ∃ k : Nat, ch = k := ⟨ch.toNat, by omega⟩
    have hk : k < s.l.length := by omega
    obtain ⟨ms, hms⟩ : ∃ ms, s.l[k]? = some ms := ⟨s.l[k], by rw [List.getElem?_eq_getElem hk]⟩
    have HE := Lib.hid (show lenE s k = ms.length by unfold lenE; rw [if_neg (by omega), Int.toNat_natCast, hms])
    obtain ⟨vs, hV, hvl, hrow⟩ := h.rows
    obtain ⟨v, hv, hR, _⟩ := hrow k ms hms
    have cv := hV.cell k
    rw [hv] at cv
    rcases hR with ⟨_, rfl, rfl⟩ | ⟨b, off, cap, cells, _, rfl, hb, hcl, hcap, _⟩
    · clear hr
      go_enter Tryz.func22, Tryz.ntmps22
      go_wp2
      go_ret
      exact ⟨ret_int HE.out.symm, rfl⟩
    · clear hr
      go_enter Tryz.func22, Tryz.ntmps22
      go_wp2
      go_ret
      exact ⟨ret_int HE.out.symm, rfl⟩
end Go.Priory
