/- small facts on texts of bytes, for the walks. -/
import Derived.WalkKit
import Derived.WalkSpells
import Derived.WalkLawsBesides
import Derived.Laws.BytesArg
import Derived.Lib.Strings
namespace Go
/-- a text of bytes -/
def S (l : List UInt8) : ByteArray := ⟨l.toArray⟩
theorem S_data (l : List UInt8) : (S l).data.toList = l := rfl
theorem S_toList (l : List UInt8) : (S l).toList = l := by rw [Lib.toList_data]; rfl
theorem S_size (l : List UInt8) : (S l).size = l.length := by simp [S, ByteArray.size]
theorem S_of (s : ByteArray) : S s.data.toList = s := rfl
theorem S_append (a b : List UInt8) : S a ++ S b = S (a ++ b) := by
  apply ByteArray.ext; apply Array.toList_inj.1; simp [S]
theorem S_extract (l : List UInt8) (i j : Nat) : (S l).extract i j = S ((l.take j).drop i) := by
  apply ByteArray.ext; apply Array.toList_inj.1
  rw [Lib.extract_data]
  simp [S, List.drop_take]
theorem S_inj {a b : List UInt8} (h : S a = S b) : a = b := by
  have := congrArg (fun s => s.data.toList) h; exact this
theorem strOfNums_S (xs : List Int) : strOfNums xs = S (xs.map fun n => UInt8.ofNat n.toNat) := rfl
theorem ret_bool {a b : Bool} (h : a = b) : Ending.returned (.bool a) = .returned (.bool b) := by rw [h]
theorem ret_str {a b : ByteArray} (h : a = b) : Ending.returned (.string a) = .returned (.string b) := by rw [h]
theorem ret_int {a b : Int} (h : a = b) : Ending.returned (.int .i64 a) = .returned (.int .i64 b) := by rw [h]
/-- a quiet call behind an elder draw: the kit's 'quiet_of_same' asks for a bare world -/
theorem quiet_same2 {P : Program} {f : FuncId} {args : Array Value} {w : World} {a n : Nat} {v : Value}
    (h : Calls P f args (w.drewN (a + n)) fun e w' => e = .returned v ∧ w' = w.drewN (a + n)) : Calls P f args (w.drewN (a + n)) fun e w'' => e = .returned v ∧ ∃ m, w'' = w.drewN (a + m) :=
  h.mono fun _ _ ⟨he, hm⟩ => ⟨he, n, hm⟩
/-- 'string([]byte{..})': of a row that was just laid -/
theorem conv_lit {P : Program} {src e dst : TypeId} (hs : P.underlying src = some (.slice e)) (he : P.underlying e = some (.int .u8)) (hd : P.underlying dst = some .string)
    (ns : List Int) (w : World) (T : TypeId) (fr : Nat × Nat) (cap : Nat) :
    (convert src dst (.slice (some ⟨w.heap.size, 0, none⟩) ns.length cap)).run P (w.alloc (.cells (ns.map (Value.int .u8)).toArray T fr)) = .ok (.string (strOfNums ns)) (w.alloc (.cells (ns.map (Value.int .u8)).toArray T fr)) := by
  refine run_convert_bytes_arg _ src e hs he w.heap.size 0 ns.length cap ns rfl ?_ dst hd
  intro i hi
  have h : (w.alloc (.cells (ns.map (Value.int .u8)).toArray T fr)).heap[w.heap.size]? = some (.cells (ns.map (Value.int .u8)).toArray T fr) := by
    show (w.heap.push _)[w.heap.size]? = _
    simp
  simp only [World.cell?, h, Nat.zero_add, Option.isSome_none, Bool.false_eq_true, if_false]
  simp [List.getD, List.getElem?_eq_getElem hi]
end Go
