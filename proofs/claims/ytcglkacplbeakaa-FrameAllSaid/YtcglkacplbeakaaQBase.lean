import Derived.Test.YtcglkacplbeakaaProg
import Derived.WalkKit
import Derived.WalkMore
import Derived.Scope
import Derived.Lib.SlBytesConst
import Derived.Test.YtcglkacplbeakaaWWords
namespace Go.Proofs.Ytcglkacplbeakaa.PA
theorem wp_scope_body {P : Program} {fn : Func} {R : Ending → World → Prop} {c : Code} {a : Act} {w : World}
    (h : c.wp P (bodyPost P fn R) a w) : (Code.scope c).wp P (bodyPost P fn R) a w :=
  wp_scope_straight (wp_mono h fun e _ _ hq => by cases e <;> first | exact hq | exact hq.elim)
open Go.Proofs.YtcglkacplbeakaaW.PrintWords Go.RowKit
/-- A row of bytes made of a constant text (marked behind its last cell), as it reads. -/
theorem C_marked (w : World) (T : TypeId) (xs : List Int) (m : Nat × Nat) (n : Nat) (hn : n = xs.length) (hlt : xs.length ≤ 9223372036854775807) : Kd.C (Kd.int .u8) (w.alloc (.cells (xs.map (fun x => Value.int .u8 x)).toArray T m)) (some ⟨w.heap.size, 0, none⟩) n xs := by
  subst hn
  refine ⟨rfl, hlt, fun _ => ⟨_, rfl, ?_⟩⟩
  intro j p hp
  refine ⟨[.int .u8 p], rfl, rfl, fun i u hu => ?_⟩
  have hi : i = 0 := by
    cases i with
    | zero => rfl
    | succ i => simp at hu
  subst hi
  simp only [List.getElem?_cons_zero, Option.some.injEq] at hu
  subst hu
  have ha : (Addr.add ⟨w.heap.size, 0, none⟩ (j * 1 + 0)) = ⟨w.heap.size, j, none⟩ := by
    cases j <;> simp [Addr.add]
  show World.cell? _ (Addr.add ⟨w.heap.size, 0, none⟩ (j * 1 + 0)) = _
  rw [ha]
  unfold World.cell?
  have hb : (w.alloc (.cells (xs.map (fun x => Value.int .u8 x)).toArray T m)).heap[w.heap.size]? = some (.cells (xs.map (fun x => Value.int .u8 x)).toArray T m) := by
    show (w.heap.push _)[w.heap.size]? = _
    simp
  rw [hb]
  show ((xs.map (fun x => Value.int .u8 x)).toArray)[j]? = _
  rw [List.getElem?_toArray, List.getElem?_map, hp]
  rfl
end Go.Proofs.Ytcglkacplbeakaa.PA
