/- The program's commands: known: a walk. -/
import Derived.Test.YtjjpngdbbjeaiaaGreatDoorCmd2
import Derived.Test.YtjjpngdbbjeaiaaGreatDoorCmdMath3
import Derived.Deep.LoopGhost
import Derived.WalkMore
namespace Go
theorem allFit_iff : ∀ {xs : List (List UInt8)} {ks : List UInt8}, allFit xs ks = true ↔ xs.length = ks.length ∧ ∀ j, j < xs.length → fitsB (xs.getD j []) (ks.getD j 0) = true
  | [], [] => by simp [allFit]
  | [], _ :: _ => by simp [allFit]
  | _ :: _, [] => by simp [allFit]
  | a :: xs, k :: ks => by
    rw [allFit, Bool.and_eq_true, allFit_iff]
    constructor
    · rintro ⟨h1, h2, h3⟩
      refine ⟨by simp [h2], fun j hj => ?_⟩
      cases j with
      | zero => exact h1
      | succ j => exact h3 j (by simpa using hj)
    · rintro ⟨h1, h2⟩
      refine ⟨h2 0 (by simp), by simpa using h1, fun j hj => ?_⟩
      exact h2 (j + 1) (by simpa using hj)
def formAt (k : Nat) : List UInt8 × List UInt8 × Bool := forms.getD k ([], [], false)
theorem forms_len : forms.length = 10 := rfl
theorem known_at {word : List UInt8} {args : List (List UInt8)} {k : Nat} (hk : k < 10) (hn : ∀ j, j < k → formFits word args (formAt j) = false) (h : formFits word args (formAt k) = true) : knownB word args = some (formAt k).2.2 := by
  have hg : ∀ j (h : j < forms.length), forms[j] = formAt j := fun j h => by unfold formAt; rw [List.getD_eq_getElem?_getD, List.getElem?_eq_getElem h]; rfl
  have : forms.find? (formFits word args) = some (formAt k) := by
    rw [List.find?_eq_some_iff_getElem]
    refine ⟨h, k, hk, hg k hk, fun j hj => ?_⟩
    rw [hg j (by rw [forms_len]; omega), hn j hj]; rfl
  unfold knownB
  rw [this]; rfl
theorem known_none {word : List UInt8} {args : List (List UInt8)} (hn : ∀ j, j < 10 → formFits word args (formAt j) = false) : knownB word args = none := by
  have : forms.find? (formFits word args) = none := by
    rw [List.find?_eq_none]
    intro f hf
    obtain ⟨j, hj, rfl⟩ := List.getElem_of_mem hf
    have := hn j hj
    unfold formAt at this
    rw [List.getD_eq_getElem?_getD, List.getElem?_eq_getElem hj] at this
    simpa using this
  unfold knownB
  rw [this]; rfl
theorem known_yes {word : List UInt8} {args : List (List UInt8)} {b : Bool} (h : knownB word args = some b) : (rightB word args && hasBody word) = b ∧ rightB word args = true := by
  rw [known_right] at h
  split at h
  · rename_i hr
    injection h with h
    exact ⟨by rw [hr, h]; rfl, hr⟩
  · cases h
theorem known_no {word : List UInt8} {args : List (List UInt8)} (h : knownB word args = none) : rightB word args = false := by
  rw [known_right] at h
  split at h
  · cases h
  · rename_i hr; simpa using hr
theorem form_kind (k : Nat) : ∀ c ∈ (formAt k).2.1, c = 110 ∨ c = 118 ∨ c = 115 := by
  unfold formAt
  by_cases hk : k < 10
  · have : ∀ f ∈ forms, ∀ c ∈ f.2.1, c = 110 ∨ c = 118 ∨ c = 115 := by decide
    rw [List.getD_eq_getElem?_getD, List.getElem?_eq_getElem (show k < forms.length from hk)]
    exact this _ (List.getElem_mem _)
  · rw [List.getD_eq_getElem?_getD, List.getElem?_eq_none (by rw [forms_len]; omega)]
    intro c hc; cases hc
theorem form_kinds (k : Nat) (hk : k < 10) : 0 < (formAt k).2.1.length ∧ (formAt k).2.1.length ≤ 4 := by
  unfold formAt
  have : ∀ f ∈ forms, 0 < f.2.1.length ∧ f.2.1.length ≤ 4 := by decide
  rw [List.getD_eq_getElem?_getD, List.getElem?_eq_getElem (show k < forms.length from hk)]
  exact this _ (List.getElem_mem _)
end Go
namespace Go.Proofs.YtjjpngdbbjeaiaaGreatDoor
open Go.RowKit
theorem forms_index (k : Nat) (hk : k < 10) (w : World) : (Instr.index 140 (.agg formsA) (.int .i64 (k : Int))).run Tryz.prog w = .ok (.agg #[.string (S (formAt k).1), .string (S (formAt k).2.1), .bool (formAt k).2.2]) w := by
  rcases (show k = 0 ∨ k = 1 ∨ k = 2 ∨ k = 3 ∨ k = 4 ∨ k = 5 ∨ k = 6 ∨ k = 7 ∨ k = 8 ∨ k = 9 by omega) with h | h | h | h | h | h | h | h | h | h
  all_goals
    subst h
    clear hk
    kernel_rfl
theorem wpList_index_run {P : Program} {ops : Array Oper} {rest : List Oper} {op : Oper} {a : Act} {w : World} {Q : Exit → Act → World → Prop} (hgd : op.guard = none) (t : TypeId) (x y : Operand) (ho : op.op = .index t x y)
    (u v : Value) (hx : a.eval x = u) (hy : a.eval y = v) (r : Value) (hr : (Instr.index t u v).run P w = .ok r w)
    (h : wpList P ops Q rest (a.put op.dst r) w) : wpList P ops Q (op :: rest) a w :=
  wpList_plain hgd fun _ hK => by
    unfold Oper.wp execOp
    simp only [ho, hx, hy, Sem.run_bind, hr, Result.andThen_ok, Sem.run_pure]
    exact hK _ _ h
/-- none of the first forms fits -/
def KnOut (word : List UInt8) (ls : List (List UInt8)) (w : World) (g : Nat) (i : Value) (wr : World) : Prop :=
  ∃ k : Nat, k ≤ 10 ∧ g = 10 - k ∧ i = .int .i64 (k : Int) ∧ (∀ j, j < k → formFits word ls (formAt j) = false) ∧ Below w.heap.size w wr
def KnIn (ls : List (List UInt8)) (ks : List UInt8) (wo : World) (g : Nat) (i : Value) (wi : World) : Prop :=
  ∃ m : Nat, m ≤ ls.length ∧ g = ls.length - m ∧ i = .int .i64 (m : Int) ∧ (∀ j, j < m → fitsB (ls.getD j []) (ks.getD j 0) = true) ∧ Below wo.heap.size wo wi
def KnownAs (word : List UInt8) (ls : List (List UInt8)) (w : World) (e : Ending) (w' : World) : Prop :=
  e = .returned (.tuple #[.bool (rightB word ls && hasBody word), .bool (rightB word ls)]) ∧ Below w.heap.size w w'
theorem known_end_yes {word : List UInt8} {ls : List (List UInt8)} {b : Bool} {w w' : World} (h : knownB word ls = some b) (hb : Below w.heap.size w w') : KnownAs word ls w (.returned (.tuple #[.bool b, .bool true])) w' := by
  obtain ⟨h1, h2⟩ := known_yes h
  exact ⟨by rw [h1, h2], hb⟩
theorem known_end_no {word : List UInt8} {ls : List (List UInt8)} {w w' : World} (h : knownB word ls = none) (hb : Below w.heap.size w w') : KnownAs word ls w (.returned (.tuple #[.bool false, .bool false])) w' :=
  ⟨by rw [known_no h]; rfl, hb⟩
theorem kn_next {word : List UInt8} {ls : List (List UInt8)} {k : Nat} (h : ∀ j, j < k → formFits word ls (formAt j) = false) (hk : formFits word ls (formAt k) = false) : ∀ j, j < k + 1 → formFits word ls (formAt j) = false := by
  intro j hj
  rcases Nat.lt_or_ge j k with h1 | h1
  · exact h j h1
  · obtain rfl : j = k := by omega
    exact hk
set_option maxRecDepth 100000 in
set_option maxHeartbeats 8000000 in
theorem known_any (word : ByteArray) (v : Value) (ls : List (List UInt8)) (w : World) (hE : Env w) (hv : Strs w v ls) (hlen : ∃ a cap, v = .slice a ls.length cap) (hs : ∀ l ∈ ls, l.length < 4294967281) :
    Calls Tryz.prog 50 #[.string word, v] w (KnownAs word.data.toList ls w) := by
  have HE := Lib.hid hE
  obtain ⟨a, cap, rfl⟩ := hlen
  have HV := Lib.hid hv.cases.2
  have hn := hv.cases.1
  unfold maxLen at hn
  have HS := Lib.hid hs
  clear hE hv hs
  go_enter Tryz.func50, Tryz.ntmps50
  go_wp2
  go_step3
  go_wp2
  go_step3
  go_wp2_with fail
  refine (forms_any _).mono ?_
  rintro e w1 ⟨rfl, hb1⟩
  go_wp2_with fail
  go_loopg [7, 8, 9, 11, 26, 27, 28] 10 (fun g _ _ _ i _ _ _ wr => KnOut word.data.toList ls w g i wr)
  case atStart => exact ⟨0, Nat.zero_le _, rfl, rfl, fun j hj => absurd hj (by omega), hb1⟩
  case round =>
    obtain ⟨k, hk, rfl, rfl, hno, hb⟩ := hrel
    have HN := Lib.hid hno
    clear hno
    by_cases hlt : k < 10
    · have HX := Lib.hid (forms_index k hlt)
      have HK1 := Lib.hid (form_kinds k hlt)
      obtain ⟨FW, hFW⟩ : ∃ t, S (formAt k).1 = t := ⟨_, rfl⟩
      obtain ⟨FK, hFK⟩ : ∃ t, S (formAt k).2.1 = t := ⟨_, rfl⟩
      obtain ⟨FB, hFB⟩ : ∃ t, (formAt k).2.2 = t := ⟨_, rfl⟩
      have HFW : Hid (FW.data.toList = (formAt k).1) := by show _ = _; rw [← hFW]; rfl
      have HFK : Hid (FK.data.toList = (formAt k).2.1) := by show _ = _; rw [← hFK]; rfl
      have HFB := Lib.hid hFB
      rw [hFW, hFK, hFB] at HX
      clear hFW hFK hFB
      by_cases hw : FW.data.toList = word.data.toList
      case neg =>
        have q1 : (FW.toList == word.toList) = false := by rw [Lib.toList_data, Lib.toList_data]; exact beq_eq_false_iff_ne.2 hw
        have HF : Hid (formFits word.data.toList ls (formAt k) = false) := by show _ = _; unfold formFits; rw [← HFW.out, decide_eq_false hw]; rfl
        clear hw
        go_wp2_with (refine wpList_index_run rfl 140 _ _ rfl _ _ rfl rfl _ (HX.out _) ?_)
        go_roundg (10 - (k + 1))
        case measure => omega
        case rel => exact ⟨k + 1, by omega, rfl, by go_num, kn_next HN.out HF.out, hb.alloc hb.size _⟩

      have q1 : (FW.toList == word.toList) = true := by rw [Lib.toList_data, Lib.toList_data, hw]; exact beq_self_eq_true _
      have HWd : Hid ((formAt k).1 = word.data.toList) := by show _ = _; rw [← HFW.out, hw]
      clear hw
      by_cases hl : FK.size = ls.length
      case neg =>
        have q2 : ((FK.size : Int) != (ls.length : Int)) = true := by simp; omega
        have q3 : decide (FK.size = ls.length) = false := decide_eq_false hl
        have HF : Hid (formFits word.data.toList ls (formAt k) = false) := by
          show _ = _
          unfold formFits
          rw [allFit_len (by rw [← HFK.out, ← Lib.size_eq]; omega), Bool.and_false]
        clear hl
        go_wp2_with (refine wpList_index_run rfl 140 _ _ rfl _ _ rfl rfl _ (HX.out _) ?_)
        go_roundg (10 - (k + 1))
        case measure => omega
        case rel => exact ⟨k + 1, by omega, rfl, by go_num, kn_next HN.out HF.out, hb.alloc hb.size _⟩

      have q2 : ((FK.size : Int) != (ls.length : Int)) = false := by simp; omega
      have q3 : decide (FK.size = ls.length) = true := decide_eq_true hl
      have hl0 : 0 < ls.length := by have := HK1.out.1; rw [← HFK.out, ← Lib.size_eq] at this; omega
      have HL := Lib.hid hl
      rcases HV.out with ⟨_, _, _, h0⟩ | ⟨bx, ox, cx, hva, _, hbx, hcx⟩
      · rw [h0] at hl0; cases hl0
      have ha : a = some ⟨bx, ox, none⟩ := by injection hva
      subst ha
      have HCX := Lib.hid hcx
      obtain ⟨wo, hwo⟩ : ∃ wo, wo = wr := ⟨_, rfl⟩
      subst hwo
      clear hva hl HV hcx
      go_wp2_with (refine wpList_index_run rfl 140 _ _ rfl _ _ rfl rfl _ (HX.out _) ?_)
      go_loopg [8, 9, 28] ls.length (fun g _ _ i wi => KnIn ls (formAt k).2.1 (wo.alloc (.cells #[.string FW, .string FK, .bool FB] 139)) g i wi)
      case atStart => exact ⟨0, Nat.zero_le _, rfl, rfl, fun j hj => absurd hj (by omega), Below.refl _ _⟩
      case round =>
        obtain ⟨m, hm, rfl, rfl, hfit, hbi⟩ := hrel
        have HFi := Lib.hid hfit
        have hwB := hb.alloc hb.size (.cells #[.string FW, .string FK, .bool FB] 139)
        have hbW := below_then hwB hbi
        have c1 := box_cells (box_of hbi) 1
        have c2 := box_cells (box_of hbi) 2
        simp at c1 c2
        clear hfit
        by_cases hmt : m < ls.length
        · have hm2 : m < FK.size := by rw [HL.out]; exact hmt
          have i0 : (0 : Int) ≤ (m : Int) := by omega
          have i1 : (m : Int) < (ls.length : Int) := by omega
          have i2 : (m : Int) < (FK.size : Int) := by omega
          have c0 := (hbW.cell (p := ⟨bx, ox + m, none⟩) hbx).trans (HCX.out m hmt)
          obtain ⟨y, hy⟩ : ∃ y, FK[m] = y := ⟨_, rfl⟩
          have hyk : (formAt k).2.1.getD m 0 = y := by
            rw [← HFK.out, List.getD_eq_getElem?_getD, List.getElem?_eq_getElem (by rw [← Lib.size_eq]; exact hm2)]; exact hy
          have HYK := Lib.hid hyk
          have HKd := Lib.hid (form_kind k y (by
            rw [← HFK.out, ← hy]
            have : m < FK.data.toList.length := by rw [← Lib.size_eq]; exact hm2
            exact List.getElem_mem this))
          obtain ⟨A, hA⟩ : ∃ A, S ls[m] = A := ⟨_, rfl⟩
          have HAd : Hid (ls.getD m [] = A.data.toList) := by show _ = _; rw [← hA, List.getD_eq_getElem?_getD, List.getElem?_eq_getElem hmt]; rfl
          have HAs : Hid (A.size < 4294967281) := by show _ < _; rw [← hA, S_size]; exact HS.out _ (List.getElem_mem hmt)
          rw [hA] at c0
          obtain ⟨r, hr⟩ : ∃ r, fitsB A.data.toList y = r := ⟨_, rfl⟩
          have HR := Lib.hid hr
          clear hyk hA hr
          cases r
          · have HF : Hid (formFits word.data.toList ls (formAt k) = false) := by
              show _ = _
              unfold formFits
              have : allFit ls (formAt k).2.1 = false := by
                rw [Bool.eq_false_iff]
                intro h
                have := (allFit_iff.1 h).2 m hmt
                rw [HAd.out, HYK.out, HR.out] at this
                cases this
              rw [this, Bool.and_false]
            go_wp2_with fail
            refine (fits_as A y false HKd.out HR.out _ (HE.out.below hbW) HAs.out).mono ?_
            rintro e w3 ⟨rfl, hb3⟩
            have hbX := below_then hbW hb3
            go_wp2_with fail
            go_roundg (10 - (k + 1))
            case measure => omega
            case rel => exact ⟨k + 1, by omega, rfl, by go_num, kn_next HN.out HF.out, hbX⟩
          · go_wp2_with fail
            refine (fits_as A y true HKd.out HR.out _ (HE.out.below hbW) HAs.out).mono ?_
            rintro e w3 ⟨rfl, hb3⟩
            have hbX := below_then hbi hb3
            go_wp2_with fail
            go_roundg (ls.length - (m + 1))
            case measure => omega
            case rel =>
              refine ⟨m + 1, by omega, rfl, by go_num, fun j hj => ?_, hbX⟩
              rcases Nat.lt_or_ge j m with h1 | h1
              · exact HFi.out j h1
              · obtain rfl : j = m := by omega
                rw [HAd.out, HYK.out, HR.out]
        · have q4 : decide (m < ls.length) = false := decide_eq_false hmt
          have HF : Hid (knownB word.data.toList ls = some FB) := by
            show _ = _
            rw [← HFB.out]
            refine known_at hlt HN.out ?_
            unfold formFits
            rw [decide_eq_true HWd.out, Bool.true_and, allFit_iff]
            refine ⟨by rw [← HFK.out, ← Lib.size_eq, HL.out], fun j hj => HFi.out j (by omega)⟩
          clear hmt
          go_wp2_with fail
          (try rw [Exit.noGoto_ret])
          go_ret2
          exact known_end_yes HF.out hbW
    · have q0 : decide (k < 10) = false := decide_eq_false hlt
      have q0' : decide ((k : Int) < 10) = false := by simp; omega
      have HF : Hid (knownB word.data.toList ls = none) := known_none (fun j hj => HN.out j (by omega))
      clear hlt
      go_wp2_with fail
      (try rw [Exit.noGoto_ret])
      go_ret2
      exact known_end_no HF.out hb
end Go.Proofs.YtjjpngdbbjeaiaaGreatDoor
