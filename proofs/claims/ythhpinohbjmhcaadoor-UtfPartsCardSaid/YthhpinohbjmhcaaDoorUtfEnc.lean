/- Encode of both: walks. -/
import Derived.Test.YthhpinohbjmhcaaDoorShelf
import Derived.Test.YthhpinohbjmhcaaDoorUtfRef1
import Derived.Test.YthhpinohbjmhcaaDoorRows0
namespace Go.Proofs.YthhpinohbjmhcaaDoor
open Go.RowKit
/-- what both encoders tell -/
def encOk (xs : List Int) : Bool := xs.all pointB
def encL (xs : List Int) : List UInt8 := Utf.encAll (xs.map Int.toNat)
def encStr (xs : List Int) : ByteArray := if encOk xs then S (encL xs) else S []
def encErr (xs : List Int) : Int := if encOk xs then 0 else 30
def EncPost (xs : List Int) (w : World) (e : Ending) (w' : World) : Prop := e = .returned (.tuple #[.string (encStr xs), .int .i64 (encErr xs)]) ∧ Below w.heap.size w w'
theorem encL_snoc (xs : List Int) (k : Nat) (h : k < xs.length) : encL (xs.take (k + 1)) = encL (xs.take k) ++ Utf.enc (xs[k]).toNat := by
  unfold encL
  rw [List.take_succ_eq_append_getElem h, List.map_append, Utf.encAll_append]
  simp [Utf.encAll]
theorem encOk_snoc (xs : List Int) (k : Nat) (h : k < xs.length) : encOk (xs.take (k + 1)) = (encOk (xs.take k) && pointB xs[k]) := by
  unfold encOk
  rw [List.take_succ_eq_append_getElem h, List.all_append]; simp
theorem encL_le (xs : List Int) (k : Nat) : (encL (xs.take k)).length ≤ 4 * k := by
  have := Utf.encAll_length_le ((xs.take k).map Int.toNat)
  rw [List.length_map, List.length_take] at this
  unfold encL; omega
theorem enc_no (xs : List Int) (k : Nat) (h : k < xs.length) (hp : pointB xs[k] = false) : encStr xs = S [] ∧ encErr xs = 30 := by
  have : encOk xs = false := by
    unfold encOk; rw [List.all_eq_false]; exact ⟨xs[k], List.getElem_mem h, by simp [hp]⟩
  unfold encStr encErr; rw [this]; exact ⟨rfl, rfl⟩
theorem enc_yes (xs : List Int) (k : Nat) (hk : xs.length ≤ k) (h : encOk (xs.take k) = true) : encStr xs = S (encL (xs.take k)) ∧ encErr xs = 0 := by
  rw [List.take_of_length_le hk] at h ⊢
  unfold encStr encErr; rw [h]; exact ⟨rfl, rfl⟩
theorem encB_size (p : Int) : (encB p).size ≤ 4 := by unfold encB; rw [S_size]; exact (Utf.enc_length _).2
theorem pt_t (p : Int) (w : World) (h : pointB p = true) : Calls Tryd.prog 21 #[.int .i64 p] w fun e w' => e = .returned (.bool true) ∧ w = w' := by
  have := point_any p w; rw [h] at this; exact this
theorem pt_f (p : Int) (w : World) (h : pointB p = false) : Calls Tryd.prog 21 #[.int .i64 p] w fun e w' => e = .returned (.bool false) ∧ w = w' := by
  have := point_any p w; rw [h] at this; exact this
def EncRel (xs : List Int) (w : World) (v i : Value) (wr : World) : Prop :=
  ∃ (k : Nat) (out : ByteArray), k ≤ xs.length ∧ i = .int .i64 (k : Int) ∧ v = .string out ∧ out = S (encL (xs.take k)) ∧ encOk (xs.take k) = true ∧ Below w.heap.size w wr
set_option maxRecDepth 100000 in
set_option maxHeartbeats 1000000 in
theorem refEncode_any (v : Value) (xs : List Int) (w : World) (hx : Ints w v xs) (hs : xs.length ≤ 5000) :
    Calls Tryd.prog 14 #[v] w (EncPost xs w) := by
  obtain ⟨_, hx⟩ := hx.cases
  rcases hx with ⟨a, cap, rfl, rfl⟩ | ⟨b, off, cap, rfl, hn, hb, hc⟩
  · go_enter Tryd.func14, Tryd.ntmps14
    go_wp2_with fail
    go_loop [4, 5] (fun v i => v = .string ⟨#[]⟩ ∧ i = .int .i64 0) (fun _ _ => 0)
    case atStart => exact ⟨rfl, rfl⟩
    case round =>
      obtain ⟨rfl, rfl⟩ := hrel
      go_wp2_with fail
      go_ret2
      exact ⟨rfl, Below.refl _ _⟩
  · have HC := Lib.hid hc
    clear hc
    go_enter Tryd.func14, Tryd.ntmps14
    go_wp2_with fail
    go_loopw [4, 5] (fun v i wr => EncRel xs w v i wr) (fun _ i _ => xs.length - (intOf i).toNat)
    case atStart => exact ⟨0, _, Nat.zero_le _, rfl, rfl, rfl, rfl, Below.refl _ _⟩
    case round =>
      obtain ⟨k, out, hk, rfl, rfl, hout, hok, hbw⟩ := hrel
      have hsz : out.size ≤ 4 * k := by rw [hout, S_size]; exact encL_le xs k
      have HO := Lib.hid hout
      have HK := Lib.hid hok
      clear hout hok
      by_cases hlt : k < xs.length
      · have hlti : (k : Int) < (xs.length : Int) := by omega
        have c1 : wr.cell? ⟨b, off + k, none⟩ = some (.int .i64 xs[k]) := by
          rw [hbw.cell (p := ⟨b, off + k, none⟩) hb]; exact HC.out k hlt
        cases hp : pointB xs[k]
        · have HE := Lib.hid (enc_no xs k hlt hp)
          have HP := Lib.hid hp
          clear hp
          go_wp2_with (go_at_call 21; refine (pt_f _ _ HP.out).mono ?_; rintro e w1 ⟨rfl, rfl⟩)
          go_ret2
          exact ⟨by rw [HE.out.1, HE.out.2]; rfl, hbw⟩
        · have hes := encB_size xs[k]
          have HP := Lib.hid hp
          clear hp
          go_wp2_with (first
            | (go_at_call 21; refine (pt_t _ _ HP.out).mono ?_; rintro e w1 ⟨rfl, rfl⟩)
            | (go_at_call 22; refine (bytes_any _ _ HP.out).mono ?_; rintro e w1 ⟨rfl, hb1⟩))
          go_roundw
          case rel =>
            refine ⟨k + 1, out ++ encB xs[k], by omega, by go_num, rfl, ?_, ?_, hbw.trans (hb1.mono hbw.size)⟩
            · rw [encL_snoc xs k hlt, HO.out, encB, S_append]
            · rw [encOk_snoc xs k hlt, HK.out, HP.out]; rfl
          case measure => simp [intOf]; omega
      · obtain rfl : k = xs.length := by omega
        have HE := Lib.hid (enc_yes xs xs.length (Nat.le_refl _) HK.out)
        go_wp2
        go_ret2
        exact ⟨by rw [HE.out.1, HE.out.2, HO.out]; rfl, hbw⟩
end Go.Proofs.YthhpinohbjmhcaaDoor
