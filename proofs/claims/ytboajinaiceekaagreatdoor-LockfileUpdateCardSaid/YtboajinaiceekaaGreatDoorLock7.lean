/- Locks: the program's Parse: a walk. -/
import Derived.Test.YtboajinaiceekaaGreatDoorLock6
namespace Go
open Go.RowKit
theorem ext_mid (s : ByteArray) (a b : Nat) : (s.extract a b).data.toList = (s.data.toList.take b).drop a := by
  rw [Lib.extract_data, List.drop_take]
theorem flatN_mem {ts : List (List UInt8)} {t : List UInt8} (h : t ∈ ts) : t.length + 1 ≤ (flatN ts).length := by
  induction ts with
  | nil => cases h
  | cons x ts ih =>
    rw [flatN_cons, List.length_append, List.length_cons]
    rcases List.mem_cons.1 h with rfl | h
    · omega
    · have := ih h; omega
theorem byte_get (s : ByteArray) (i : Nat) (h : i < s.size) : s.data.toList[i]? = some s[i] := by
  rw [List.getElem?_eq_getElem (by rw [← Lib.size_eq]; exact h)]; rfl
theorem Piks.nil (w : World) : Piks w (.slice none 0 0) [] := ⟨rfl, Nat.zero_le _, .inl ⟨_, _, rfl, rfl, fun _ => rfl⟩⟩
/-- what a lock reads as, told by a call -/
def LockPost (l : List UInt8) (w : World) (e : Ending) (w' : World) : Prop :=
  ∃ v ps er, e = .returned (.tuple #[v, .int .i64 er]) ∧ Piks w' v ps ∧ LockIs l ps er ∧ FreshV w.heap.size v ∧ Below w.heap.size w w'
theorem lockPost_no {l : List UInt8} {w w' : World} (h : LockIs l [] 370) (hb : Below w.heap.size w w') : LockPost l w (.returned (.tuple #[.slice none 0 0, .int .i64 370])) w' :=
  ⟨_, [], 370, rfl, Piks.nil _, h, FreshV.nil _ _ _, hb⟩
end Go
namespace Go.Proofs.YtboajinaiceekaaGreatDoor
open Go.RowKit
theorem info_pick : (Tryz.prog.info? 47).map (fun i => (i.zero, i.size, i.bytes)) = some (some (.agg #[.string ⟨#[]⟩, .int .i64 0, .int .i64 0, .int .i64 0, .string ⟨#[]⟩]), 5, 56) := by kernel_rfl
theorem row5_new (w : World) (a b c d e : Value) (t : TypeId) : ∀ j u, [a, b, c, d, e][j]? = some u → (w.alloc (.cells #[a, b, c, d, e] t)).cell? ((⟨w.heap.size, 0, none⟩ : Addr).add j) = some u := by
  intro j u hj
  match j, hj with
  | 0, hj => simp at hj; subst hj; simp [Addr.add]
  | 1, hj => simp at hj; subst hj; simp [Addr.add]
  | 2, hj => simp at hj; subst hj; simp [Addr.add]
  | 3, hj => simp at hj; subst hj; simp [Addr.add]
  | 4, hj => simp at hj; subst hj; simp [Addr.add]
theorem row5_at (w : World) (B : Nat) (hB : B = w.heap.size) (a b c d e : Value) (t : TypeId) : ∀ j u, [a, b, c, d, e][j]? = some u → (w.alloc (.cells #[a, b, c, d, e] t)).cell? ((⟨B, 0, none⟩ : Addr).add j) = some u := by
  subst hB; exact row5_new w a b c d e t
def LpRel (ts : List (List UInt8)) (w4 : World) (v i : Value) (wr : World) : Prop :=
  ∃ (k : Nat) (ps : List Pik), k ≤ ts.length + 1 ∧ i = .int .i64 (k : Int) ∧ PickTo ts (min k ts.length) ps ∧ ps.length ≤ ts.length ∧ wr.ownsRow w4.heap.size 47 5 v ps.length (ps.flatMap Pik.cells) ∧ (∃ a cap, v = .slice a ps.length cap) ∧ Below w4.heap.size w4 wr
theorem pickTo_len {ts : List (List UInt8)} {k : Nat} {ps : List Pik} (h : PickTo ts k ps) (hk : k ≤ ts.length) : ps.length = k := by
  have := congrArg List.length h.1
  rw [List.length_map, List.length_take] at this
  omega
set_option maxRecDepth 100000 in
set_option maxHeartbeats 4000000 in
theorem lparse_any (s : ByteArray) (w : World) (hE : Env w) (hs : s.size ≤ 100000) : Calls Tryz.prog 13 #[.string s] w (LockPost s.data.toList w) := by
  have HE := Lib.hid hE
  obtain ⟨l, hl⟩ : ∃ l, s.data.toList = l := ⟨_, rfl⟩
  have HP := fun w => cutL_any s w
  have HLi := fun w => lastN_any s (by omega) w
  rw [hl] at HP HLi ⊢
  have hll : l.length = s.size := by rw [← hl, ← Lib.size_eq]
  have HL := Lib.hid hl
  have HLL := Lib.hid hll
  obtain ⟨pf, hpf⟩ : ∃ b, Lib.hasPrefix l headL = b := ⟨_, rfl⟩
  obtain ⟨T, hT⟩ : ∃ T, Lib.trimPrefix l headL = T := ⟨_, rfl⟩
  obtain ⟨r, hr⟩ : ∃ r, Lib.lastIndex l sumPre = r := ⟨_, rfl⟩
  obtain ⟨R, hR⟩ : ∃ R, S T = R := ⟨_, rfl⟩
  rw [hpf, hT, hR] at HP
  rw [hr] at HLi
  have HP := Lib.hid HP
  have HLi := Lib.hid HLi
  have hat := last_at l
  rw [hr] at hat
  have HR := Lib.hid hr
  have HPf := Lib.hid hpf
  have HT : Hid (R.data.toList = Lib.trimPrefix l headL) := by show _ = _; rw [hT, ← hR]; rfl
  clear hE hl hll hpf hT hr hR
  cases pf
  · have HN := Lib.hid (lock_bad_pre HPf.out)
    clear hat
    go_enter Tryz.func13, Tryz.ntmps13
    go_wp2_with fail
    refine (HP.out _).mono ?_
    rintro e w1 ⟨rfl, rfl⟩
    go_wp2_with fail
    refine (HLi.out _).mono ?_
    rintro e w1 ⟨rfl, rfl⟩
    go_wp2_with fail
    go_ret2
    exact lockPost_no HN.out (Below.refl _ _)
  rcases hat with rfl | ⟨a, rfl, ha5, hocc⟩
  · have HN := Lib.hid (lock_bad_at HR.out)
    go_enter Tryz.func13, Tryz.ntmps13
    go_wp2_with fail
    refine (HP.out _).mono ?_
    rintro e w1 ⟨rfl, rfl⟩
    go_wp2_with fail
    refine (HLi.out _).mono ?_
    rintro e w1 ⟨rfl, rfl⟩
    go_wp2_with fail
    go_ret2
    exact lockPost_no HN.out (Below.refl _ _)
  have q1 : decide ((a : Int) < 0) = false := decide_eq_false (by omega)
  have ha6 : a + 5 ≤ s.size := by rw [← HLL.out]; exact ha5
  have HOc := Lib.hid hocc
  clear hocc ha5
  have w14 : IntKind.i64.wrap ((a : Int) + 14) = (a : Int) + 14 := by rw [IntKind.wrap_i64]; omega
  by_cases hn : s.size = a + 14
  rotate_left
  · have HN := Lib.hid (lock_bad_len HR.out (by rw [HLL.out]; exact hn))
    have q2 : ((s.size : Int) != (a : Int) + 14) = true := by simp; omega
    clear hn
    go_enter Tryz.func13, Tryz.ntmps13
    go_wp2_with fail
    refine (HP.out _).mono ?_
    rintro e w1 ⟨rfl, rfl⟩
    go_wp2_with fail
    refine (HLi.out _).mono ?_
    rintro e w1 ⟨rfl, rfl⟩
    go_wp2_with fail
    go_ret2
    exact lockPost_no HN.out (Below.refl _ _)
  have q2 : ((s.size : Int) != (a : Int) + 14) = false := by rw [hn]; simp
  have HSz := Lib.hid hn
  have hN14 : l.length = a + 14 := by rw [HLL.out]; exact hn
  have HN14 := Lib.hid hN14
  have i0 : (0 : Int) ≤ (s.size : Int) - 1 := by omega
  have i1 : (s.size : Int) - 1 < (s.size : Int) := by omega
  have hlt1 : s.size - 1 < s.size := by omega
  obtain ⟨x, hx⟩ : ∃ x, s[s.size - 1] = x := ⟨_, rfl⟩
  have hx13 : l[a + 13]? = some x := by
    have hd : s.data.toList[s.size - 1]? = some x := by rw [← hx]; exact byte_get s _ hlt1
    rw [HL.out, hn, show a + 14 - 1 = a + 13 by omega] at hd
    exact hd
  have HX13 := Lib.hid hx13
  clear hn hN14 hx13
  by_cases hx10 : x = 10
  rotate_left
  · have HN := Lib.hid (lock_bad_end HN14.out (by rw [HX13.out]; simpa using hx10))
    have q3 : ((s[s.size - 1].toNat : Int) != 10) = true := by
      rw [hx, bne_iff_ne]
      intro h
      exact hx10 (UInt8.toNat_inj.1 (show x.toNat = 10 by omega))
    clear hx10 hx
    go_enter Tryz.func13, Tryz.ntmps13
    go_wp2_with fail
    refine (HP.out _).mono ?_
    rintro e w1 ⟨rfl, rfl⟩
    go_wp2_with fail
    refine (HLi.out _).mono ?_
    rintro e w1 ⟨rfl, rfl⟩
    go_wp2_with fail
    go_ret2
    exact lockPost_no HN.out (Below.refl _ _)
  subst hx10
  have q3 : ((s[s.size - 1].toNat : Int) != 10) = false := by rw [hx]; decide
  clear hx
  obtain ⟨X, hX⟩ : ∃ X, s.extract (a + 5) (a + 13) = X := ⟨_, rfl⟩
  have hXl : X.data.toList = (l.drop (a + 5)).take 8 := by
    rw [← hX, ext_mid, HL.out, List.drop_take, show a + 13 - (a + 5) = 8 by omega]
  have hXs : X.size = 8 := by
    rw [Lib.size_eq, hXl, List.length_take, List.length_drop, HN14.out]; omega
  have hsl1 : ∀ W, (Instr.slice 9 (.string s) (some (.int .i64 ((a : Int) + 5))) (some (.int .i64 ((a : Int) + 13))) none).run Tryz.prog W = .ok (.string X) W := fun W => by
    have := run_slice_string (P := Tryz.prog) W 9 s .i64 .i64 ((a : Int) + 5) ((a : Int) + 13) Tryz.underlying9 (by omega) (by omega) (by have := HSz.out; omega)
    rw [show ((a : Int) + 5).toNat = a + 5 by omega, show ((a : Int) + 13).toNat = a + 13 by omega, hX] at this
    exact this
  have HXl := Lib.hid hXl
  have HV := Lib.hid (fun W => value_any X hXs W)
  rw [hXl] at HV
  clear hX hXl hXs
  obtain ⟨Bd, hBd⟩ : ∃ Bd, s.extract 0 (a + 1) = Bd := ⟨_, rfl⟩
  have hBl : Bd.data.toList = l.take (a + 1) := by rw [← hBd, ext_mid, HL.out]; rfl
  have hBs : Bd.size ≤ 100000 := by rw [Lib.size_eq, hBl, List.length_take, HN14.out]; have := HSz.out; omega
  have hsl2 : ∀ W, (Instr.slice 9 (.string s) none (some (.int .i64 ((a : Int) + 1))) none).run Tryz.prog W = .ok (.string Bd) W := fun W => by
    have := run_slice_string_to_if (P := Tryz.prog) W 9 s .i64 ((a : Int) + 1) Tryz.underlying9
    rw [if_pos ⟨by omega, by have := HSz.out; omega⟩, show ((a : Int) + 1).toNat = a + 1 by omega, hBd] at this
    exact this
  have HBl := Lib.hid hBl
  obtain ⟨n, hn⟩ : ∃ n, Crc.sum Bd.data.toList = n := ⟨_, rfl⟩
  have HSm := Lib.hid (fun W T => sum1_new Bd hBs W T)
  rw [hn] at HSm
  have HNs : Hid (Crc.sum (l.take (a + 1)) = n) := by show _ = _; rw [← hBl]; exact hn
  clear hBd hBl hBs hn
  go_enter Tryz.func13, Tryz.ntmps13
  go_wp2_with fail
  refine (HP.out _).mono ?_
  rintro e w1 ⟨rfl, rfl⟩
  go_wp2_with fail
  refine (HLi.out _).mono ?_
  rintro e w1 ⟨rfl, rfl⟩
  go_wp2_with fail
  refine (HV.out _).mono ?_
  rintro e w2 ⟨m, ok, rfl, hval, hb2⟩
  have HVal := Lib.hid hval
  clear hval
  cases ok
  · have HN := Lib.hid (lock_bad_sum HN14.out HVal.out (.inl rfl))
    go_wp2_with fail
    go_ret2
    exact lockPost_no HN.out hb2
  have hal2 := (Below.refl w2.heap.size w2).alloc (Nat.le_refl _) (.cells #[.string Bd] 9)
  have hb3 := below_then hb2 hal2
  by_cases hmn : m = n
  rotate_left
  · have HN := Lib.hid (lock_bad_sum HN14.out HVal.out (.inr (by rw [HNs.out]; exact hmn)))
    have q4 : ((m : Int) != (n : Int)) = true := by rw [bne_iff_ne]; omega
    have q5 : (m != n) = true := by rw [bne_iff_ne]; exact hmn
    clear hmn
    go_wp2_with fail
    refine (HSm.out _ _).mono ?_
    rintro e w3 ⟨rfl, rfl⟩
    go_wp2_with fail
    go_ret2
    exact lockPost_no HN.out hb3
  have q4 : ((m : Int) != (n : Int)) = false := by rw [hmn]; simp
  have q5 : (m != n) = false := by rw [hmn]; simp
  have HMN := Lib.hid hmn
  clear hmn
  go_wp2_with fail
  refine (HSm.out _ _).mono ?_
  rintro e w3 ⟨rfl, rfl⟩
  obtain ⟨hsh, u, hu, hul⟩ := lock_shape HN14.out HOc.out HX13.out
  obtain ⟨ha6', ts, hts1, hts2, hts3⟩ := lock_lines HPf.out hu hul
  have hRl : R.data.toList = l.drop 7 := by
    rw [HT.out]
    unfold Lib.trimPrefix
    rw [HPf.out]; rfl
  have hRs : R.size = a + 7 := by rw [Lib.size_eq, hRl, List.length_drop, HN14.out]; omega
  obtain ⟨D, hD⟩ : ∃ D, R.extract 0 (a - 6) = D := ⟨_, rfl⟩
  have hDl : D.data.toList = flatN ts := by rw [← hD, ext_mid, hRl, hts1]; rfl
  have hDs : D.size ≤ 1000000 := by rw [← hD, ByteArray.size_extract]; omega
  have hsl3 : ∀ W, (Instr.slice 9 (.string R) none (some (.int .i64 ((R.size : Int) - 13))) none).run Tryz.prog W = .ok (.string D) W := fun W => by
    have := run_slice_string_to_if (P := Tryz.prog) W 9 R .i64 ((R.size : Int) - 13) Tryz.underlying9
    rw [if_pos ⟨by omega, by omega⟩, show ((R.size : Int) - 13).toNat = a - 6 by omega, hD] at this
    exact this
  have HSp := Lib.hid (fun W hW => splitN_any D ts hDl hts2 W hW hDs)
  have HSh := Lib.hid hsh
  have HT1 := Lib.hid hts2
  have HT2 := Lib.hid hts3
  have hlm : ts.length ≤ 1000000 := by
    have h1 := count_lines ts hts2
    have h2 := List.count_le_length (a := (10 : UInt8)) (l := flatN ts)
    rw [h1, ← hDl, ← Lib.size_eq] at h2
    omega
  have hRb : R.size ≤ 1000000 := by omega
  have HE3 := Lib.hid (HE.out.below hb3)
  have HTl : Hid (∀ t ∈ ts, t.length ≤ 1000000) := by
    show ∀ _, _
    intro t ht
    have := flatN_mem ht
    rw [← hDl, ← Lib.size_eq] at this
    omega
  have HI := Lib.hid (info_parts info_pick)
  clear hsh hu hts1 hts2 hts3 hRl hRs hD hDl hDs
  go_wp2_with fail
  refine (HSp.out _ HE3.out).mono ?_
  rintro e w4 ⟨rfl, hst, hb4⟩
  have hb5 := below_then hb3 hb4
  have HE4 := Lib.hid (HE.out.below hb5)
  obtain ⟨B4, hB4⟩ : ∃ B4, (w2.alloc (.cells #[.string Bd] 9)).heap.size = B4 := ⟨_, rfl⟩
  rw [hB4] at hst ⊢
  have hpl : (piecesN ts).length = ts.length + 1 := by simp [piecesN]
  obtain ⟨bx, ox, capx, hvx, hbx, hcx⟩ := hst.full (by omega)
  have hB0 : bx = B4 := by injection hvx with h; injection h with h; injection h with h1 h2; exact h1.symm
  have hO0 : ox = 0 := by injection hvx with h; injection h with h; injection h with h1 h2; exact h2.symm
  subst hB0 hO0
  have HCX := Lib.hid hcx
  have HPl := Lib.hid hpl
  have hB4' := Lib.hid hB4
  clear hst hvx hcx hb4 hpl hB4
  have HHex : Hid (hexK 8 (Crc.sum (l.take (a + 1))) = (l.drop (a + 5)).take 8) := by
    show _ = _
    rcases HVal.out with ⟨_, _, h⟩ | ⟨h, _⟩
    · rw [HNs.out, ← HMN.out]; exact h
    · cases h
  go_wp2_with fail
  go_loopw [9, 74] (fun v i wr => LpRel ts w4 v i wr) (fun _ i _ => ts.length + 1 - (intOf i).toNat)
  case atStart => exact ⟨0, [], Nat.zero_le _, rfl, by rw [Nat.zero_min]; exact pickTo_zero ts, Nat.zero_le _, World.ownsRow_nil _ _ _ _, ⟨_, _, rfl⟩, Below.refl _ _⟩
  case round =>
    obtain ⟨k, ps, hk, rfl, hpt, hpn, hown, ⟨va, vcap, rfl⟩, hb⟩ := hrel
    have HPT := Lib.hid hpt
    have HO := Lib.hid hown
    have hbw := below_then hb5 hb
    clear hpt hown
    by_cases hlt : k < ts.length + 1
    · have i2 : (0 : Int) ≤ (k : Int) := by omega
      have i3 : (k : Int) < (ts.length : Int) + 1 := by omega
      have c0 := (hb.cell (p := ⟨bx, 0 + k, none⟩) hbx).trans (HCX.out k (by rw [HPl.out]; exact hlt))
      have hkp : k < (piecesN ts).length := by rw [HPl.out]; exact hlt
      rw [Nat.zero_add] at c0
      by_cases hlast : k = ts.length
      · obtain ⟨A, hA⟩ : ∃ A, S (piecesN ts)[k] = A := ⟨_, rfl⟩
        have hAe : A = ⟨#[]⟩ := by
          rw [← hA]
          have : (piecesN ts)[k]? = some [] := by
            unfold piecesN
            rw [List.getElem?_append_right (by rw [List.length_map]; omega), List.length_map, hlast, Nat.sub_self]; rfl
          rw [List.getElem?_eq_getElem hkp] at this
          injection this with this
          rw [this]; rfl
        rw [hA, hAe] at c0
        have HNext : Hid (PickTo ts (min (k + 1) ts.length) ps) := by
          have h := HPT.out
          show PickTo _ _ _
          rw [show min (k + 1) ts.length = min k ts.length by omega]; exact h
        clear hA hAe hlast hkp
        go_wp2_with fail
        go_roundw
        case rel => exact ⟨k + 1, ps, hlt, by go_num, HNext.out, hpn, HO.out, ⟨_, _, rfl⟩, hb⟩
        case measure => simp [intOf]; omega
      · have hkt : k < ts.length := by omega
        obtain ⟨t, ht⟩ : ∃ t, ts[k] = t := ⟨_, rfl⟩
        obtain ⟨A, hA⟩ : ∃ A, S (t ++ [10]) = A := ⟨_, rfl⟩
        have hAp : S (piecesN ts)[k] = A := by
          have : (piecesN ts)[k]? = some (t ++ [10]) := by
            unfold piecesN
            rw [List.getElem?_append_left (by rw [List.length_map]; exact hkt), List.getElem?_map, List.getElem?_eq_getElem hkt, ht]; rfl
          rw [List.getElem?_eq_getElem hkp] at this
          injection this with this
          rw [this]; exact hA
        rw [hAp] at c0
        have hem : A.toList.isEmpty = false := by rw [← hA, S_toList]; simp
        have hem2 : (A.toList == []) = false := by rw [← hA, S_toList]; simp
        have htl : t.length ≤ 1000000 := by rw [← ht]; exact HTl.out _ (List.getElem_mem hkt)
        have HTr := Lib.hid (fun W => trimN_any t A hA htl W)
        have HCu := fun W hW => cutS_any t W hW htl
        obtain ⟨hd, hhd⟩ : ∃ x, headAt 32 t = x := ⟨_, rfl⟩
        obtain ⟨tl, htl2⟩ : ∃ x, tailAt 32 t = x := ⟨_, rfl⟩
        obtain ⟨hs0, hhs⟩ : ∃ x, hasAt 32 t = x := ⟨_, rfl⟩
        have htll : tl.length ≤ 1000000 := by
          rw [← htl2]; unfold tailAt
          have := (List.dropWhile_suffix (l := t) (notC 32)).length_le
          rw [List.length_drop]; omega
        rw [hhd, htl2, hhs] at HCu
        have HCu := Lib.hid HCu
        have HPa := fun W hW => parse_any (S tl) W hW (by rw [S_size]; omega)
        rw [show (S tl).data.toList = tl from rfl] at HPa
        have HPa := Lib.hid HPa
        have hmin : min k ts.length = k := by omega
        have hpt2 := HPT.out
        rw [hmin] at hpt2
        have HPlen := Lib.hid (pickTo_len hpt2 (by omega))
        have HYes : Hid (∀ v : V4, v.IsShow tl → PickTo ts (min (k + 1) ts.length) (ps ++ [⟨S hd, v⟩])) := by
          show ∀ v, _ → PickTo _ _ _
          intro v hv
          have := pickTo_succ (v := v) hpt2 hkt (by rw [ht, htl2]; exact hv)
          rw [ht, hhd] at this
          rw [show min (k + 1) ts.length = k + 1 by omega]
          exact this
        have HNo : Hid ((∀ x y z p, ¬ IsShow x y z p tl) → LockIs l [] 370) := by
          show _ → _
          intro h
          exact lock_bad_line HN14.out HT2.out HT1.out hkt (by rw [ht, htl2]; exact h)
        have HE5 := Lib.hid (HE.out.below hbw)
        clear ht hA hAp hhd htl2 hhs hmin hpt2 hlast htl htll hkp
        go_wp2_with fail
        refine (HTr.out _).mono ?_
        rintro e w5 ⟨rfl, rfl⟩
        go_wp2_with fail
        refine (HCu.out _ HE5.out).mono ?_
        rintro e w6 ⟨rfl, hb6⟩
        have hbw6 := below_then hbw hb6
        have HE6 := Lib.hid (HE.out.below hbw6)
        go_wp2_with fail
        refine (HPa.out _ HE6.out).mono ?_
        rintro e w7 ⟨x, y, z, p, er, rfl, hpi, hb7⟩
        have HPI := Lib.hid hpi
        have hbw7 := below_then hbw6 hb7
        have hb67 := below_then hb (below_then hb6 hb7)
        have HO7 := Lib.hid (owns_below (owns_below HO.out hb6) hb7)
        clear hpi
        by_cases he0 : er = 0
        rotate_left
        · have qe : (er != 0) = true := by simpa using he0
          have HN : Hid (LockIs l [] 370) := by
            refine HNo.out ?_
            rcases HPI.out with ⟨h, _⟩ | ⟨_, _, _, _, _, h⟩
            · exact absurd h he0
            · exact h
          clear he0
          have hb8 := hbw7.alloc hbw7.size (.cells #[.int .i64 x, .int .i64 y, .int .i64 z, .string (S p)] 45)
          go_wp2_with fail
          go_ret2
          exact lockPost_no HN.out hb8
        subst he0
        have HS2 : Hid (PickTo ts (min (k + 1) ts.length) (ps ++ [⟨S hd, ⟨x, y, z, S p⟩⟩])) := by
          refine HYes.out _ ?_
          rcases HPI.out with ⟨_, h⟩ | ⟨h, _⟩
          · exact ⟨h.1, h.2⟩
          · cases h
        have hB3 := hb67.size
        obtain ⟨i0', hi, hz0, hz1, hz2⟩ := HI.out
        go_wp2_with (at_builtin; go_must (refine wpList_append_own _ rfl _ _ 22 rfl w4.heap.size 47 i0' (.agg #[.string ⟨#[]⟩, .int .i64 0, .int .i64 0, .int .i64 0, .string ⟨#[]⟩]) 5 56 Tryz.underlying22 hi hz0 hz1 hz2 rfl (by decide) _ _ _ rfl ((HO7.out.alloc _).alloc _) ⟨_, 0, none⟩ 1 1 [.string (S hd), .int .i64 x, .int .i64 y, .int .i64 z, .string (S p)] rfl rfl ?c1 ?c2 ?c3 ?c4 ?c5 ?_))
        case c1 => exact row5_at _ _ (by simp) _ _ _ _ _ _
        case c2 => intro u hu; simp at hu; rcases hu with rfl | rfl | rfl | rfl | rfl <;> rfl
        case c3 => unfold maxLen; omega
        case c4 => omega
        case c5 => simp; omega
        intro v' w8 hown2 hg2 _
        have hb8 := below_grown ((hb67.alloc hB3 _).alloc (by simp; omega) _) ((HO7.out.alloc _).alloc _) hg2 (by simp; omega)
        obtain ⟨g2, cap2, hv2⟩ := Joins.ownsRow_form hown2 (by omega)
        subst hv2
        have HO2 := Lib.hid hown2
        clear hg2 hown2
        go_wp2
        go_roundw
        case rel =>
          refine ⟨k + 1, ps ++ [⟨S hd, ⟨x, y, z, S p⟩⟩], hlt, by go_num, HS2.out, by have := HPlen.out; rw [List.length_append]; simp; omega, ?_, ⟨some ⟨g2, 0, none⟩, cap2, by rw [List.length_append]; rfl⟩, hb8⟩
          have h := HO2.out
          rw [List.flatMap_append, List.length_append]
          exact h
        case measure => simp [intOf]; omega
    · have q6 : decide (k < ts.length + 1) = false := decide_eq_false hlt
      have q7 : decide ((k : Int) < (ts.length : Int) + 1) = false := decide_eq_false (by omega)
      have hpt2 : PickTo ts ts.length ps := by
        have h := HPT.out
        rw [show min k ts.length = ts.length by omega] at h; exact h
      have HPT2 := Lib.hid hpt2
      obtain ⟨mb, hmb⟩ : ∃ mb, mayB ps = mb := ⟨_, rfl⟩
      have hps := Piks.of_owns HO.out
      have HFr := Lib.hid (FreshV.of_owns HO.out)
      have HMy := Lib.hid (may_as _ ps mb hmb wr hps (HE.out.below hbw) (fun x hx => by
        have := (verOk_bounds (hpt2.2 x hx).1).2.2.2.2.2.2.1
        rw [Lib.size_eq]; omega))
      have HMb := Lib.hid hmb
      have HPs := Lib.hid hps
      clear hlt hpt2 hps hmb
      cases mb
      · have HN := Lib.hid (lock_bad_may HN14.out HT2.out HT1.out HPT2.out HMb.out)
        go_wp2_with fail
        refine HMy.out.mono ?_
        rintro e w5 ⟨rfl, hb6⟩
        go_wp2_with fail
        go_ret2
        exact lockPost_no HN.out (below_then hbw hb6)
      · have HN := Lib.hid (lock_good HSh.out HT2.out HHex.out HPT2.out HMb.out)
        go_wp2_with fail
        refine HMy.out.mono ?_
        rintro e w5 ⟨rfl, hb6⟩
        go_wp2_with fail
        go_ret2
        exact ⟨_, ps, 0, rfl, HPs.out.below hb6 (Nat.le_refl _), HN.out, HFr.out.mono hb5.size, below_then hbw hb6⟩
end Go.Proofs.YtboajinaiceekaaGreatDoor
