/- Rows of ranges; the law's light: a walk. -/
import Derived.Test.YthojbknakmjndaaGreatDoorRanProg1
namespace Go
open Go.RowKit
def light1 (bs : List Bnd) : Bool := decide (bs.length ≤ 60) && bs.all fun b => decide (b.v.p.size ≤ 100)
def lightB (rs : List (List Bnd)) : Bool := decide (rs.length ≤ 20) && rs.all light1
/-- a slice of ranges -/
def Rngs (w : World) (v : Value) (rs : List (Value × List Bnd)) : Prop := Row w 1 v rs.length (rs.map Prod.fst) ∧ ∀ r ∈ rs, Bnds w r.1 r.2 ∧ ∃ a cap, r.1 = .slice a r.2.length cap
theorem Rngs.below {w w' : World} {v : Value} {rs : List (Value × List Bnd)} (h : Rngs w v rs) {B : Nat} (hb : Below B w w') (hB : w.heap.size ≤ B) : Rngs w' v rs :=
  ⟨Row.below h.1 hb hB, fun r hr => ⟨(h.2 r hr).1.below hb hB, (h.2 r hr).2⟩⟩
theorem Rngs.cases {w : World} {v : Value} {rs : List (Value × List Bnd)} (h : Rngs w v rs) :
    (∃ a cap, v = .slice a 0 cap ∧ rs = []) ∨ ∃ b off cap, v = .slice (some ⟨b, off, none⟩) rs.length cap ∧ 0 < rs.length ∧ b < w.heap.size ∧ ∀ j (h : j < rs.length), w.cell? ⟨b, off + j, none⟩ = some rs[j].1 := by
  obtain ⟨h1, h2, ⟨a, cap, h3, h4, _⟩ | ⟨b, off, cap, h3, h4, h5, h6⟩⟩ := h.1
  · exact .inl ⟨a, cap, h3, List.eq_nil_of_length_eq_zero h4⟩
  · refine .inr ⟨b, off, cap, h3, h4, h5, fun j hj => ?_⟩
    rw [h6 j (by omega), List.getElem?_map, List.getElem?_eq_getElem hj]; rfl
theorem rngs_new (w : World) (rs : List (Value × List Bnd)) (T : TypeId) (cap B n : Nat) (cs : Array Value) (hB : B = w.heap.size) (hcs : cs = (rs.map Prod.fst).toArray) (hn' : n = rs.length) (hn : 0 < rs.length) (hm : rs.length ≤ maxLen)
    (h : ∀ r ∈ rs, Bnds w r.1 r.2 ∧ ∃ a cap, r.1 = .slice a r.2.length cap) : Rngs (w.alloc (.cells cs T)) (.slice (some ⟨B, 0, none⟩) n cap) rs := by
  subst hB hcs hn'
  refine ⟨⟨by simp, hm, .inr ⟨w.heap.size, 0, cap, rfl, hn, by simp, fun j hj => ?_⟩⟩, fun r hr => ⟨(h r hr).1.below ((Below.refl w.heap.size w).alloc (Nat.le_refl _) _) (Nat.le_refl _), (h r hr).2⟩⟩
  simp only [World.cell?, Below_heap_new, Nat.zero_add, Option.isSome_none, Bool.false_eq_true, if_false]
  simp
theorem light_out {rs : List (List Bnd)} {x : List Bnd} (hm : x ∈ rs) (h : light1 x = false) : lightB rs = false := by
  unfold lightB
  rw [Bool.and_eq_false_iff]
  right
  rw [List.all_eq_false]
  exact ⟨x, hm, by simp [h]⟩
theorem light1_out {x : List Bnd} {b : Bnd} (hm : b ∈ x) (h : decide (b.v.p.size ≤ 100) = false) : light1 x = false := by
  unfold light1
  rw [Bool.and_eq_false_iff]
  right
  rw [List.all_eq_false]
  exact ⟨b, hm, by rw [h]; decide⟩
theorem lightB_sz {rs : List (List Bnd)} (h : lightB rs = true) : rs.length ≤ 20 ∧ ∀ bs ∈ rs, bs.length ≤ 60 ∧ ∀ b ∈ bs, b.v.p.size ≤ 100 := by
  unfold lightB at h
  rw [Bool.and_eq_true, decide_eq_true_iff, List.all_eq_true] at h
  refine ⟨h.1, fun bs hb => ?_⟩
  have := h.2 bs hb
  unfold light1 at this
  rw [Bool.and_eq_true, decide_eq_true_iff, List.all_eq_true] at this
  exact ⟨this.1, fun b hb => of_decide_eq_true (this.2 b hb)⟩
end Go
namespace Go.Proofs.YthojbknakmjndaaGreatDoor
open Go.RowKit
def LtRel (rs : List (Value × List Bnd)) (i : Value) : Prop := ∃ k : Nat, k ≤ rs.length ∧ k ≤ 20 ∧ i = .int .i64 (k : Int) ∧ ((rs.take k).map Prod.snd).all light1 = true
def LiRel (bs : List Bnd) (i : Value) : Prop := ∃ m : Nat, m ≤ bs.length ∧ i = .int .i64 (m : Int) ∧ (bs.take m).all (fun b => decide (b.v.p.size ≤ 100)) = true
set_option maxRecDepth 100000 in
set_option maxHeartbeats 4000000 in
theorem light_any (v : Value) (rs : List (Value × List Bnd)) (w : World) (hv : Rngs w v rs) (hlen : ∃ a cap, v = .slice a rs.length cap) :
    Calls Tryz.prog 13 #[v] w fun e w' => e = .returned (.bool (lightB (rs.map Prod.snd))) ∧ w' = w := by
  obtain ⟨a0, cap0, rfl⟩ := hlen
  have HC := Lib.hid hv.cases
  have HR := Lib.hid hv.2
  clear hv
  go_enter Tryz.func13, Tryz.ntmps13
  go_wp2_with fail
  go_loop [3, 4] (fun i _ => LtRel rs i) (fun i _ => rs.length - (intOf i).toNat)
  case atStart => exact ⟨0, Nat.zero_le _, Nat.zero_le _, rfl, rfl⟩
  case round =>
    obtain ⟨k, hk, hk20, rfl, hall⟩ := hrel
    have HA := Lib.hid hall
    clear hall
    by_cases hlt : k < rs.length
    · have i0 : (0 : Int) ≤ (k : Int) := by omega
      have i1 : (k : Int) < (rs.length : Int) := by omega
      obtain ⟨bx, ox, cap, hva, hn0, hbx, hc⟩ : ∃ b off cap, (Value.slice a0 rs.length cap0 = Value.slice (some ⟨b, off, none⟩) rs.length cap) ∧ 0 < rs.length ∧ b < w.heap.size ∧ ∀ j (h : j < rs.length), w.cell? ⟨b, off + j, none⟩ = some rs[j].1 := by
        rcases HC.out with ⟨a, cap, hva, he⟩ | h
        · rw [he] at hlt; simp at hlt
        · exact h
      have ha0 : a0 = some ⟨bx, ox, none⟩ := by injection hva
      subst ha0
      have c0 := hc k hlt
      have hrk := HR.out _ (List.getElem_mem hlt)
      have HT := Lib.hid (List.take_succ_eq_append_getElem hlt)
      have HM0 := List.getElem_mem hlt
      obtain ⟨r, hr⟩ : ∃ r, rs[k] = r := ⟨_, rfl⟩
      rw [hr] at c0 hrk HT HM0
      obtain ⟨rv, bs⟩ := r
      obtain ⟨hbs, ra, rcap, hrv⟩ := hrk
      simp only at hbs hrv c0
      subst hrv
      have HM : Hid (bs ∈ rs.map Prod.snd) := List.mem_map_of_mem (f := Prod.snd) HM0
      have HB := Lib.hid hbs.cases.2
      clear hc hva hr hbs HM0
      by_cases h20 : 20 ≤ k
      · have q1 : decide ((20 : Int) ≤ (k : Int)) = true := by simp; omega
        have q1' : decide (20 ≤ k) = true := decide_eq_true h20
        have HF : Hid (lightB (rs.map Prod.snd) = false) := by
          show _ = _
          unfold lightB
          rw [List.length_map, decide_eq_false (by omega)]; rfl
        clear h20
        go_wp2_with fail
        go_ret
        exact ⟨by rw [HF.out]; rfl, rfl⟩
      have q1 : decide ((20 : Int) ≤ (k : Int)) = false := by simp; omega
      have q1' : decide (20 ≤ k) = false := decide_eq_false h20
      by_cases h60 : 60 < bs.length
      · have q2 : decide ((60 : Int) < (bs.length : Int)) = true := by simp; omega
        have q2' : decide (60 < bs.length) = true := decide_eq_true h60
        have HF : Hid (lightB (rs.map Prod.snd) = false) := by
          refine light_out HM.out ?_
          unfold light1; rw [decide_eq_false (by omega)]; rfl
        clear h60 h20
        go_wp2_with fail
        go_ret
        exact ⟨by rw [HF.out]; rfl, rfl⟩
      have q2 : decide ((60 : Int) < (bs.length : Int)) = false := by simp; omega
      have q2' : decide (60 < bs.length) = false := decide_eq_false h60
      have h60' : bs.length ≤ 60 := by omega
      have hk20' : k + 1 ≤ 20 := by omega
      clear h60 h20
      go_wp2_with fail
      go_loop [4] (fun i => LiRel bs i) (fun i => bs.length - (intOf i).toNat)
      case atStart => exact ⟨0, Nat.zero_le _, rfl, rfl⟩
      case round =>
        obtain ⟨m, hm, rfl, hall⟩ := hrel
        have HAi := Lib.hid hall
        clear hall
        by_cases hlm : m < bs.length
        · have j0 : (0 : Int) ≤ (m : Int) := by omega
          have j1 : (m : Int) < (bs.length : Int) := by omega
          obtain ⟨by', oy, cap, hva, hn0, hby, hd⟩ : ∃ b off cap, (Value.slice ra bs.length rcap = Value.slice (some ⟨b, off, none⟩) bs.length cap) ∧ 0 < bs.length ∧ b < w.heap.size ∧ ∀ j (h : j < bs.length), w.cell? ⟨b, off + j * 5, none⟩ = some (.int .i64 bs[j].op) ∧
              w.cell? ⟨b, off + j * 5 + 1, none⟩ = some (.int .i64 bs[j].v.a) ∧ w.cell? ⟨b, off + j * 5 + 2, none⟩ = some (.int .i64 bs[j].v.b) ∧ w.cell? ⟨b, off + j * 5 + 3, none⟩ = some (.int .i64 bs[j].v.c) ∧
              w.cell? ⟨b, off + j * 5 + 4, none⟩ = some (.string bs[j].v.p) := by
            rcases HB.out with ⟨a, cap, hva, he⟩ | h
            · rw [he] at hlm; simp at hlm
            · exact h
          have ha0 : ra = some ⟨by', oy, none⟩ := by injection hva
          subst ha0
          obtain ⟨_, _, _, _, d4⟩ := hd m hlm
          have HTi := Lib.hid (List.take_succ_eq_append_getElem hlm)
          have HMi := Lib.hid (List.getElem_mem hlm)
          obtain ⟨x, hx⟩ : ∃ x, bs[m] = x := ⟨_, rfl⟩
          rw [hx] at d4 HTi HMi
          obtain ⟨p, hp⟩ : ∃ p, x.v.p = p := ⟨_, rfl⟩
          rw [hp] at d4
          have HP := Lib.hid hp
          clear hd hx hva hp
          by_cases h100 : 100 < p.size
          · have q3 : decide ((100 : Int) < (p.size : Int)) = true := by simp; omega
            have q3' : decide (100 < p.size) = true := decide_eq_true h100
            have HF : Hid (lightB (rs.map Prod.snd) = false) := by
              refine light_out HM.out (light1_out HMi.out ?_)
              rw [HP.out]; exact decide_eq_false (by omega)
            clear h100
            go_wp2_with fail
            go_ret
            exact ⟨by rw [HF.out]; rfl, rfl⟩
          · have q3 : decide ((100 : Int) < (p.size : Int)) = false := by simp; omega
            have q3' : decide (100 < p.size) = false := decide_eq_false h100
            have HX : Hid (decide (x.v.p.size ≤ 100) = true) := by
              show _ = _
              rw [HP.out]; exact decide_eq_true (by omega)
            clear h100
            go_wp2_with fail
            go_round
            case rel =>
              refine ⟨m + 1, hlm, by go_num, ?_⟩
              rw [HTi.out, List.all_append, HAi.out]; simpa using HX.out
            case measure => simp [intOf]; omega
        · have q4 : decide (m < bs.length) = false := by simp; omega
          have HX : Hid (light1 bs = true) := by
            show _ = _
            have h := HAi.out
            rw [List.take_of_length_le (by omega)] at h
            unfold light1
            rw [h, decide_eq_true h60']; rfl
          clear hlm
          go_wp2_with fail
          go_round
          case rel =>
            refine ⟨k + 1, hlt, hk20', by go_num, ?_⟩
            rw [HT.out, List.map_append, List.all_append, HA.out]; simpa using HX.out
          case measure => simp [intOf]; omega
    · have q5 : decide (k < rs.length) = false := by simp; omega
      have HF : Hid (lightB (rs.map Prod.snd) = true) := by
        show _ = _
        have h := HA.out
        rw [List.take_of_length_le (by omega)] at h
        unfold lightB
        rw [h, List.length_map, decide_eq_true (by omega)]; rfl
      clear hlt
      go_wp2_with fail
      go_ret
      exact ⟨by rw [HF.out]; rfl, rfl⟩
theorem light_as (v : Value) (rs : List (Value × List Bnd)) (r : Bool) (h : lightB (rs.map Prod.snd) = r) (w : World) (hv : Rngs w v rs) (hlen : ∃ a cap, v = .slice a rs.length cap) :
    Calls Tryz.prog 13 #[v] w fun e w' => e = .returned (.bool r) ∧ w' = w := by
  subst h; exact light_any v rs w hv hlen
theorem light_one (x : Value) (bs : List Bnd) (r : Bool) (h : lightB [bs] = r) (w : World) (T : TypeId) (B n cap : Nat) (cs : Array Value) (hB : B = w.heap.size) (hcs : cs = #[x]) (hn : n = 1) (hv : Bnds w x bs) (hlen : ∃ a cap, x = .slice a bs.length cap) :
    Calls Tryz.prog 13 #[.slice (some ⟨B, 0, none⟩) n cap] (w.alloc (.cells cs T)) fun e w' => e = .returned (.bool r) ∧ w' = w.alloc (.cells cs T) := by
  subst hn
  exact light_as _ [(x, bs)] r h _ (rngs_new w [(x, bs)] T cap B 1 cs hB (by rw [hcs]; rfl) rfl (by simp) (by unfold maxLen; simp) (fun r hr => by simp at hr; subst hr; exact ⟨hv, hlen⟩)) ⟨_, _, rfl⟩
end Go.Proofs.YthojbknakmjndaaGreatDoor
