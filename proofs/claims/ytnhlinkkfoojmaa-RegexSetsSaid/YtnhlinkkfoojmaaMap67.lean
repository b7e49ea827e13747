/- The map of the three readers: what is put, what is looked up. -/
import Derived.Test.YtnhlinkkfoojmaaStroke
import Derived.MapKept
import Derived.Carry
namespace Go.Proofs.Ytnhlinkkfoojmaa
open Go.RowKit Go.MapKept
set_option maxRecDepth 100000
set_option linter.unusedSimpArgs false
set_option linter.unusedVariables false
abbrev u8k (k : Nat) : Value := .int .u8 (k : Nat)
theorem key5 (k : Nat) : IsKey (.int .u8) (u8k k) := rfl
theorem findNew (es : List MapEntry) (hes : ∀ e ∈ es, ∃ j : Nat, e.key = u8k j) (k : Nat) (h : ∀ e ∈ es, e.key ≠ u8k k) : Instr.findNow (.int .u8) (u8k k) es 0 = some none := by
  rcases findNow_spec (key5 k) es 0 (fun x hx => by obtain ⟨j, hj⟩ := hes x hx; rw [hj]; exact key5 j) with ⟨h1, _⟩ | ⟨j, e, _, h2, h3⟩
  · exact h1
  · exact absurd h3 (h e (List.mem_of_getElem? h2))
theorem run_put67 (w : World) (g clock : Nat) (es : Array MapEntry) (k : Nat) (val : Value) (hb : w.heap[g]? = some (.map es clock)) (hf : Instr.findNow (.int .u8) (u8k k) es.toList 0 = some none) :
    (Instr.mapUpdate 67 (.map (some g)) (u8k k) val).run Try.prog w = .ok () { w with heap := w.heap.setIfInBounds g (.map (es.push { key := u8k k, val := val, born := clock }) (clock + 1)) } := by
  have hc : (Instr.checkKey false 10000 5 (u8k k)).run Try.prog w = .ok () w := MapKept.run_checkKey (k := u8k k) Try.underlying5 (key5 k) false 9999
  simp [Instr.mapUpdate, run_underlying Try.underlying67, MapKept.run_getObj_map hb, hc, MapKept.run_findKey Try.underlying5 hf, MapKept.run_setObj_map _ hb, Result.andThen]
def lookRes : Option (Nat × Value) → Array Value
  | some (_, v) => #[v, .bool true]
  | none => #[.nilFunc, .bool false]
theorem run_look67 (w : World) (g clock : Nat) (es : Array MapEntry) (k : Nat) (res : Option (Nat × Value)) (hb : w.heap[g]? = some (.map es clock)) (hf : Instr.findNow (.int .u8) (u8k k) es.toList 0 = some res) :
    (Instr.lookup 67 (.map (some g)) (u8k k) true).run Try.prog w = .ok (.tuple (lookRes res)) w := by
  have hc : ∀ b, (Instr.checkKey b 10000 5 (u8k k)).run Try.prog w = .ok () w := fun b => run_checkKey (k := u8k k) Try.underlying5 (key5 k) b 9999
  cases res with
  | none => simp [Instr.lookup, run_underlying Try.underlying67, MapKept.run_getObj_map hb, hc, MapKept.run_findKey Try.underlying5 hf, Result.andThen, lookRes, Try.zeroValue22]
  | some x => simp [Instr.lookup, run_underlying Try.underlying67, MapKept.run_getObj_map hb, hc, MapKept.run_findKey Try.underlying5 hf, Result.andThen, lookRes]
theorem below_map (w : World) (g : Nat) (o : Obj) : Below g w { w with heap := w.heap.setIfInBounds g o } := ⟨rfl, rfl, rfl, by simp, fun k hk => by
  show (w.heap.setIfInBounds g o)[k]? = _
  rw [Array.getElem?_setIfInBounds, if_neg (by omega)]⟩
/-- The map with the readers that have been put in. -/
def readers (p : Nat) (n : Nat) : Array MapEntry := (([(46, 24), (91, 25), (92, 26)] : List (Nat × Nat)).zipIdx.take n |>.map fun x => { key := u8k x.1.1, val := .func (.func x.1.2) #[.pointer (some ⟨p, 0, none⟩)] #[], born := x.2 }).toArray
structure MapAt (w0 : World) (g p n : Nat) (w : World) : Prop where
  blk : w.heap[g]? = some (.map (readers p n) n)
  bel : Below g w0 w
theorem wpList_make67 {ops : Array Oper} {rest : List Oper} {o : Oper} {a : Act} {w : World} {Q : Exit → Act → World → Prop} (hgd : o.guard = none) (ho : o.op = .makeMap 67 none) (p : Nat)
    (h : ∀ G w', w.heap.size ≤ G → MapAt w G p 0 w' → wpList Try.prog ops Q rest (a.put o.dst (.map (some G))) w') : wpList Try.prog ops Q (o :: rest) a w :=
  wpList_plain hgd fun _ hK => by
    unfold Oper.wp execOp
    simp only [ho, Option.map_none, run_makeMap, Sem.run_bind, Result.andThen_ok]
    exact hK _ _ (h _ _ (Nat.le_refl _) ⟨heap_alloc_new w _, (Below.refl _ w).alloc (Nat.le_refl _) _⟩)
theorem wpList_put67 {ops : Array Oper} {rest : List Oper} {o : Oper} {a : Act} {w w0 : World} {Q : Exit → Act → World → Prop} (hgd : o.guard = none) (m x : Operand) (k : Nat) (ho : o.op = .insert 67 m (.const (u8k k)) x)
    (g p n n' f : Nat) (hn : n' = n + 1) (hm : a.eval m = .map (some g)) (hx : a.eval x = .func (.func f) #[.pointer (some ⟨p, 0, none⟩)] #[]) (hM : MapAt w0 g p n w)
    (hf : Instr.findNow (.int .u8) (u8k k) (readers p n).toList 0 = some none) (hr : (readers p n).push { key := u8k k, val := .func (.func f) #[.pointer (some ⟨p, 0, none⟩)] #[], born := n } = readers p n')
    (h : ∀ w', MapAt w0 g p n' w' → wpList Try.prog ops Q rest (a.put o.dst undef) w') : wpList Try.prog ops Q (o :: rest) a w :=
  wpList_plain hgd fun _ hK => by
    unfold Oper.wp execOp
    simp only [ho, hm, hx]
    show Oper.upon _ _ _ _ _ (Sem.run _ (do Instr.mapUpdate 67 (.map (some g)) (u8k k) _; pure .skip) w)
    simp only [Sem.run_bind, run_put67 w g n (readers p n) k _ hM.blk hf, Result.andThen_ok, Sem.run_pure]
    refine hK _ _ (h _ ⟨?_, hM.bel.trans (below_map w g _)⟩)
    rw [← hr, hn]
    exact (heap_set hM.blk).1
theorem wpList_look67 {ops : Array Oper} {rest : List Oper} {o : Oper} {a : Act} {w w0 : World} {Q : Exit → Act → World → Prop} (hgd : o.guard = none) (m x : Operand) (ho : o.op = .lookup 67 m x true)
    (g p n k : Nat) (hm : a.eval m = .map (some g)) (hx : a.eval x = u8k k) (hM : MapAt w0 g p n w) (res : Option (Nat × Value)) (hf : Instr.findNow (.int .u8) (u8k k) (readers p n).toList 0 = some res)
    (t : Array Value) (ht : t = lookRes res)
    (h : wpList Try.prog ops Q rest (a.put o.dst (.tuple t)) w) : wpList Try.prog ops Q (o :: rest) a w :=
  wpList_plain hgd fun _ hK => by
    subst ht
    unfold Oper.wp execOp
    simp only [ho, hm, hx, Sem.run_bind, run_look67 w g n (readers p n) k res hM.blk hf, Result.andThen_ok]
    exact hK _ _ h
abbrev bound (p f : Nat) : Value := .func (.func f) #[.pointer (some ⟨p, 0, none⟩)] #[]
theorem look_no (p k : Nat) (h1 : k ≠ 46) (h2 : k ≠ 91) (h3 : k ≠ 92) : Instr.findNow (.int .u8) (u8k k) (readers p 3).toList 0 = some none := by
  refine findNew _ ?_ k ?_
  · intro e he
    have he : e ∈ [MapEntry.mk (u8k 46) (bound p 24) 0, MapEntry.mk (u8k 91) (bound p 25) 1, MapEntry.mk (u8k 92) (bound p 26) 2] := he
    simp only [List.mem_cons, List.not_mem_nil, or_false] at he
    rcases he with rfl | rfl | rfl
    · exact ⟨46, rfl⟩
    · exact ⟨91, rfl⟩
    · exact ⟨92, rfl⟩
  · intro e he
    have he : e ∈ [MapEntry.mk (u8k 46) (bound p 24) 0, MapEntry.mk (u8k 91) (bound p 25) 1, MapEntry.mk (u8k 92) (bound p 26) 2] := he
    simp only [List.mem_cons, List.not_mem_nil, or_false] at he
    rcases he with rfl | rfl | rfl
    · intro e; injection e with _ e; exact h1 (by omega)
    · intro e; injection e with _ e; exact h2 (by omega)
    · intro e; injection e with _ e; exact h3 (by omega)
theorem look_46 (p : Nat) : Instr.findNow (.int .u8) (u8k 46) (readers p 3).toList 0 = some (some (0, bound p 24)) := rfl
theorem look_91 (p : Nat) : Instr.findNow (.int .u8) (u8k 91) (readers p 3).toList 0 = some (some (1, bound p 25)) := rfl
theorem look_92 (p : Nat) : Instr.findNow (.int .u8) (u8k 92) (readers p 3).toList 0 = some (some (2, bound p 26)) := rfl
theorem put_46 (p : Nat) : Instr.findNow (.int .u8) (u8k 46) (readers p 0).toList 0 = some none := rfl
theorem put_91 (p : Nat) : Instr.findNow (.int .u8) (u8k 91) (readers p 1).toList 0 = some none := rfl
theorem put_92 (p : Nat) : Instr.findNow (.int .u8) (u8k 92) (readers p 2).toList 0 = some none := rfl
end Go.Proofs.Ytnhlinkkfoojmaa
