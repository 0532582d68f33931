/- Laws of the walk for operations on maps keyed by int. No condition. -/
import Derived.Test.YtomnglknogggaaaGreatMaps
import Derived.Maps.OwnSet
import Derived.Maps.RangeWalk
namespace Go.Priory
open Go.RowKit Go.MapKept

variable {P : Program} {w : World} {ops : Array Oper} {rest : List Oper} {o : Oper} {a : Act} {Q : Exit → Act → World → Prop}

/-- 'm[k] = v' -/
theorem wpList_mapSet (hg : o.guard = none) (m k v : Operand) (T : TypeId) (hop : o.op = Op.mapUpdate T m k v) (K E : TypeId) (ht : P.underlying T = some (.map K E)) (hk : P.underlying K = some (.int .i64))
    (b : Nat) (kk : Int) (vv : Value) (kv : List (Int × Value)) (hm : a.eval m = .map (some b)) (hkk : a.eval k = .int .i64 kk) (hv : a.eval v = vv) (h : MapIs w b kv) (hS : Sorted kv)
    (hK : ∀ ob, MapIs (w.putObj b ob) b (mput kk vv kv) → wpList P ops Q rest (a.put o.dst undef) (w.putObj b ob)) : wpList P ops Q (o :: rest) a w := by
  refine wpList_plain hg fun K hK' => ?_
  obtain ⟨ob, hrun, h2⟩ := h.update hS ht hk kk vv
  unfold Oper.wp
  simp [execOp, hop, hm, hkk, hv, hrun, Result.andThen]
  exact hK' _ _ (hK ob h2)
/-- a map's literal: one entry -/
theorem wpList_mapIns (hg : o.guard = none) (m k v : Operand) (T : TypeId) (hop : o.op = Op.insert T m k v) (K E : TypeId) (ht : P.underlying T = some (.map K E)) (hk : P.underlying K = some (.int .i64))
    (b : Nat) (kk : Int) (vv : Value) (kv : List (Int × Value)) (hm : a.eval m = .map (some b)) (hkk : a.eval k = .int .i64 kk) (hv : a.eval v = vv) (h : MapIs w b kv) (hS : Sorted kv)
    (hK : ∀ ob, MapIs (w.putObj b ob) b (mput kk vv kv) → wpList P ops Q rest (a.put o.dst undef) (w.putObj b ob)) : wpList P ops Q (o :: rest) a w := by
  refine wpList_plain hg fun K hK' => ?_
  obtain ⟨ob, hrun, h2⟩ := h.update hS ht hk kk vv
  unfold Oper.wp
  simp [execOp, hop, hm, hkk, hv, hrun, Result.andThen]
  exact hK' _ _ (hK ob h2)
/-- 'delete(m, k)' -/
theorem wpList_mapDel (hg : o.guard = none) (m k : Operand) (T T2 : TypeId) (hop : o.op = Op.call { callee := Callee.builtin Builtin.delete, args := #[m, k], argTypes := #[T, T2] }) (K E : TypeId) (ht : P.underlying T = some (.map K E)) (hk : P.underlying K = some (.int .i64))
    (b : Nat) (kk : Int) (kv : List (Int × Value)) (hm : a.eval m = .map (some b)) (hkk : a.eval k = .int .i64 kk) (h : MapIs w b kv)
    (hK : ∀ ob, MapIs (w.putObj b ob) b (mdel kk kv) → wpList P ops Q rest (a.put o.dst (.tuple #[])) (w.putObj b ob)) : wpList P ops Q (o :: rest) a w := by
  refine wpList_plain hg fun K hK' => ?_
  obtain ⟨ob, hrun, h2⟩ := h.delete ht hk o.type T2 kk
  unfold Oper.wp
  simp [execOp, hop, resolve, invoke, builtin, hm, hkk, hrun, Result.andThen]
  exact hK' _ _ (hK ob h2)
end Go.Priory
