/- name.first, name.split, name.May, walked. -/
import Derived.Test.YtngmdefhdknggaaDoorCmQ
import Derived.Test.YtngmdefhdknggaaDoorCur
import Derived.Test.YtngmdefhdknggaaDoorStrs
import Derived.Deep.QuietTactic
import Derived.BigQuiet
namespace Go.Proofs.YtngmdefhdknggaaDoor.Nm
open Go.RowKit Go.Proofs.YtngmdefhdknggaaDoor.Cm Go.Proofs.YtngmdefhdknggaaDoor.Cur Go.Proofs.YtngmdefhdknggaaDoor.Ss

theorem byte_get {s : ByteArray} {i : Nat} (h : i < s.size) : (s[i]'h).toNat = bt s.data.toList i := by
  unfold bt
  rw [List.getD_eq_getElem?_getD, List.getElem?_eq_getElem (by simpa using h)]
  rfl
theorem toList_ne {s : ByteArray} (h : 0 < s.size) : s.toList ≠ [] := fun e => by
  have : s.toList.length = 0 := by rw [e]; rfl
  rw [ByteArray.toList_eq, Array.length_toList] at this
  have h2 : s.size = 0 := this
  omega

set_option maxRecDepth 100000 in
set_option maxHeartbeats 4000000 in
theorem first_yes (w : World) (s : ByteArray) (k : Nat) (hs : s.size ≤ 9223372036854775807) (hk : bt s.data.toList 0 = k) (h0 : 0 < k) (h1 : k < 64) (h2 : k + 2 ≤ s.size) :
    Calls Tryd.prog 60 #[.string s] w fun e w' => e = .returned (.tuple #[.string (s.extract 1 (k + 1)), .string (s.extract (k + 1) s.size), .bool true]) ∧ Chg Nob w w' := by
  have hp : 0 < s.size := by omega
  have hx := byte_get hp
  rw [hk] at hx
  have hne := toList_ne hp
  have hem : s.toList.isEmpty = false := by simpa using hne
  have k0 : (0 : Int) ≤ (k : Int) := by omega
  have k1 : (k : Int) < 64 := by omega
  have k2 : ((k : Int) == 0) = false := by simp; omega
  have k3 : ¬ (k = 0) := by omega
  have k4 : ¬ (63 : Int) < (k : Int) := by omega
  have k5 : ¬ (s.size : Int) < (k : Int) + 2 := by omega
  have k6 : (k : Int) + 1 ≤ (s.size : Int) := by omega
  have k7 : (1 : Int) ≤ (k : Int) + 1 := by omega
  clear hk h0 h1 h2
  go_enter Tryd.func60, Tryd.ntmps60
  go_wp2_with fail
  go_quiet (fail)
  go_wp2_with fail
  (try simp only [Exit.inBlock, Exit.then])
  exact bodyPost_ret (v := .tuple #[.string (s.extract 1 (k + 1)), .string (s.extract (k + 1) s.size), .bool true]) (by simp [results, Tryd.results60, go_sem]) rfl ⟨rfl, (Chg.refl Nob w).drewN nq⟩

set_option maxRecDepth 100000 in
set_option maxHeartbeats 4000000 in
theorem first_no (w : World) (s : ByteArray) (hs : s.size ≤ 255) (h : s.data.toList = [] ∨ bt s.data.toList 0 = 0 ∨ 63 < bt s.data.toList 0 ∨ s.data.toList.length < bt s.data.toList 0 + 2) :
    Calls Tryd.prog 60 #[.string s] w fun e w' => e = .returned (.tuple #[.string ⟨#[]⟩, .string ⟨#[]⟩, .bool false]) ∧ Chg Nob w w' := by
  by_cases he : s.size = 0
  · have hnil : s.toList = [] := by
      rw [ByteArray.toList_eq]
      exact List.eq_nil_of_length_eq_zero (by simpa using he)
    have hem : s.toList.isEmpty = true := by rw [hnil]; rfl
    clear h he
    go_enter Tryd.func60, Tryd.ntmps60
    go_wp2_with fail
    (try simp only [Exit.inBlock, Exit.then])
    exact bodyPost_ret (v := .tuple #[.string ⟨#[]⟩, .string ⟨#[]⟩, .bool false]) (by simp [results, Tryd.results60, go_sem]) rfl ⟨rfl, Chg.refl Nob w⟩
  have hp : 0 < s.size := by omega
  have h := h.resolve_left (fun e => by have h3 := congrArg List.length e; rw [Array.length_toList] at h3; have h2 : s.size = 0 := h3; omega)
  have hx := byte_get hp
  have hlen : s.data.toList.length = s.size := by simp
  rw [hlen] at h
  obtain ⟨k, hk⟩ : ∃ k, k = bt s.data.toList 0 := ⟨_, rfl⟩
  rw [← hk] at hx h
  have hne := toList_ne hp
  have hem : s.toList.isEmpty = false := by simpa using hne
  have k0 : (0 : Int) ≤ (k : Int) := by omega
  have k1 : (k : Int) < 256 := by have := bt_lt s.data.toList 0; omega
  clear hk hlen
  by_cases c0 : k = 0
  · have k2 : ((k : Int) == 0) = true := by simp; omega
    clear h
    subst c0
    go_enter Tryd.func60, Tryd.ntmps60
    go_wp2_with fail
    (try simp only [Exit.inBlock, Exit.then])
    exact bodyPost_ret (v := .tuple #[.string ⟨#[]⟩, .string ⟨#[]⟩, .bool false]) (by simp [results, Tryd.results60, go_sem]) rfl ⟨rfl, Chg.refl Nob w⟩
  have k2 : ((k : Int) == 0) = false := by simp; omega
  by_cases c1 : 63 < k
  · have k4 : (63 : Int) < (k : Int) := by omega
    clear h
    go_enter Tryd.func60, Tryd.ntmps60
    go_wp2_with fail
    (try simp only [Exit.inBlock, Exit.then])
    exact bodyPost_ret (v := .tuple #[.string ⟨#[]⟩, .string ⟨#[]⟩, .bool false]) (by simp [results, Tryd.results60, go_sem]) rfl ⟨rfl, Chg.refl Nob w⟩
  have k4 : ¬ (63 : Int) < (k : Int) := by omega
  have k5 : (s.size : Int) < (k : Int) + 2 := by omega
  clear h c1
  go_enter Tryd.func60, Tryd.ntmps60
  go_wp2_with fail
  (try simp only [Exit.inBlock, Exit.then])
  exact bodyPost_ret (v := .tuple #[.string ⟨#[]⟩, .string ⟨#[]⟩, .bool false]) (by simp [results, Tryd.results60, go_sem]) rfl ⟨rfl, Chg.refl Nob w⟩

/-- Labels, as strings. -/
def ba (l : List UInt8) : ByteArray := ⟨l.toArray⟩
theorem ba_toList (l : List UInt8) : (ba l).data.toList = l := by unfold ba; simp
theorem ba_of (s : ByteArray) : ba s.data.toList = s := by
  apply ByteArray.ext
  unfold ba
  simp
theorem ext_seg (s : ByteArray) (i n : Nat) : s.extract i (i + n) = ba (seg s.data.toList i n) := by
  apply ByteArray.ext
  apply Array.toList_inj.1
  rw [ba_toList, ByteArray.data_extract, Array.toList_extract, List.extract_eq_take_drop]
  unfold seg
  rw [show i + n - i = n by omega]
theorem ext_drop (s : ByteArray) (i : Nat) : s.extract i s.size = ba (s.data.toList.drop i) := by
  apply ByteArray.ext
  apply Array.toList_inj.1
  rw [ba_toList, ByteArray.data_extract, Array.toList_extract, List.extract_eq_take_drop, List.take_of_length_le (by simp)]

theorem labs_start {l : List UInt8} (h : l.length ≤ 255) : labs l = (labsF (l.length + 1) l).map ([] ++ ·) := by
  unfold labs
  rw [if_neg (by omega)]
  simp
theorem labs_end {l r : List UInt8} {f : Nat} {t : List (List UInt8)} (h : labs l = (labsF (f + 1) r).map (t ++ ·)) (hr : r = [0]) : labs l = some t := by
  rw [h, labsF, if_pos hr]
  simp
theorem labs_fail {l r : List UInt8} {f : Nat} {t : List (List UInt8)} (h : labs l = (labsF (f + 1) r).map (t ++ ·)) (hr : r ≠ [0]) (hb : r = [] ∨ bt r 0 = 0 ∨ 63 < bt r 0 ∨ r.length < bt r 0 + 2) : labs l = none := by
  rw [h, labsF, if_neg hr, if_pos hb]
  rfl
theorem labs_step {l r : List UInt8} {f : Nat} {t : List (List UInt8)} (h : labs l = (labsF (f + 1) r).map (t ++ ·)) (hr : r ≠ [0]) (hb : ¬ (r = [] ∨ bt r 0 = 0 ∨ 63 < bt r 0 ∨ r.length < bt r 0 + 2)) :
    labs l = (labsF f (r.drop (bt r 0 + 1))).map ((t ++ [seg r 1 (bt r 0)]) ++ ·) := by
  rw [h, labsF, if_neg hr, if_neg hb, Option.map_map]
  congr 1
  funext x
  simp

set_option maxRecDepth 100000 in
set_option maxHeartbeats 4000000 in
theorem split_any (w : World) (s : ByteArray) (hs : s.size ≤ 9223372036854775807) :
    Calls Tryd.prog 46 #[.string s] w fun e w' =>
      (∃ t v, labs s.data.toList = some t ∧ e = .returned (.tuple #[v, .bool true]) ∧ w'.ownsRow w.heap.size 9 1 v (t.map ba).length (strsV (t.map ba)) ∧ t.length ≤ 255 ∧ Chg Nob w w') ∨ (labs s.data.toList = none ∧ e = .returned (.tuple #[.slice none 0 0, .bool false]) ∧ Chg Nob w w') := by
  by_cases hlong : 255 < s.size
  · have hl : labs s.data.toList = none := by
      unfold labs
      rw [if_pos (by rw [Array.length_toList]; exact hlong)]
    have h1 : (255 : Int) < (s.size : Int) := by omega
    have HL := Lib.hid hl
    clear hl hlong
    go_enter Tryd.func46, Tryd.ntmps46
    go_wp2_with fail
    (try simp only [Exit.inBlock, Exit.then])
    exact bodyPost_ret (v := .tuple #[.slice none 0 0, .bool false]) (by simp [results, Tryd.results46, go_sem]) rfl (.inr ⟨HL.out, rfl, Chg.refl Nob w⟩)
  have h1 : ¬ (255 : Int) < (s.size : Int) := by omega
  have hst := labs_start (l := s.data.toList) (by rw [Array.length_toList]; show s.size ≤ 255; omega)
  have HST := Lib.hid hst
  clear hst
  go_enter Tryd.func46, Tryd.ntmps46
  go_wp2_with fail
  go_loopw [0, 2] (fun vn vl wx => ∃ (n : ByteArray) (t : List (List UInt8)) (f : Nat) (a0 : Option Addr) (c0 : Nat), n.size + t.length ≤ 255 ∧ n.size < f ∧ vn = .string n ∧ vl = .slice a0 t.length c0 ∧ labs s.data.toList = (labsF f n.data.toList).map (t ++ ·) ∧ wx.ownsRow w.heap.size 9 1 (.slice a0 t.length c0) (t.map ba).length (strsV (t.map ba)) ∧ Chg Nob w wx) (fun vn _ _ => match vn with | .string n => n.size | _ => 0)
  case atStart => exact ⟨s, [], s.data.toList.length + 1, none, 0, by simp; omega, by rw [Array.length_toList]; show s.size < s.size + 1; omega, rfl, rfl, HST.out, World.ownsRow_nil _ _ _ _, Chg.refl Nob w⟩
  case round =>
    obtain ⟨n, t, f, a0, c0, hn, hf, rfl, rfl, hL, hown, hC⟩ := hrel
    obtain ⟨f, rfl⟩ : ∃ g, f = g + 1 := ⟨f - 1, by omega⟩
    by_cases hroot : n.data.toList = [0]
    · have hend := labs_end hL hroot
      obtain rfl : n = ⟨#[0]⟩ := by
        rw [← ba_of n, hroot]
        rfl
      have HE := Lib.hid hend
      have HO := Lib.hid hown
      clear hend hL hown hroot
      go_wp2_with fail
      (try simp only [Exit.inBlock, Exit.then])
      exact bodyPost_ret (v := .tuple #[.slice a0 t.length c0, .bool true]) (by simp [results, Tryd.results46, go_sem]) rfl (.inl ⟨t, _, HE.out, rfl, HO.out, by omega, hC⟩)
    · have hr2 : n.toList ≠ [0] := by rw [ByteArray.toList_eq]; exact hroot
      have hr3 : (n.toList == [0]) = false := by simpa using hr2
      by_cases hb : n.data.toList = [] ∨ bt n.data.toList 0 = 0 ∨ 63 < bt n.data.toList 0 ∨ n.data.toList.length < bt n.data.toList 0 + 2
      · have hend := labs_fail hL hroot hb
        have HE := Lib.hid hend
        have HF := Lib.hid (fun W => first_no W n (by omega) hb)
        clear hend hL hown hroot hb
        go_wp2_with fail
        refine (HF.out wr).mono ?_
        rintro r w1 ⟨rfl, hC1⟩
        go_wp2_with fail
        (try simp only [Exit.inBlock, Exit.then])
        exact bodyPost_ret (v := .tuple #[.slice none 0 0, .bool false]) (by simp [results, Tryd.results46, go_sem]) rfl (.inr ⟨HE.out, rfl, hC.trans hC1⟩)
      · have hst := labs_step hL hroot hb
        obtain ⟨k, hk⟩ : ∃ k, k = bt n.data.toList 0 := ⟨_, rfl⟩
        rw [← hk] at hst hb
        have hl : n.data.toList.length = n.size := by rw [Array.length_toList]; rfl
        rw [hl] at hb
        have hk0 : 0 < k := by omega
        have hk1 : k < 64 := by omega
        have hk2 : k + 2 ≤ n.size := by omega
        have hF := fun W => first_yes W n k (by omega) hk.symm hk0 hk1 hk2
        have e1 : n.extract 1 (k + 1) = ba (seg n.data.toList 1 k) := by rw [Nat.add_comm k 1]; exact ext_seg n 1 k
        have e2 := ext_drop n (k + 1)
        rw [e1, e2] at hF
        obtain ⟨m, hm⟩ : ∃ m, m = ba (n.data.toList.drop (k + 1)) := ⟨_, rfl⟩
        obtain ⟨u, hu⟩ : ∃ u, u = seg n.data.toList 1 k := ⟨_, rfl⟩
        have hms : m.size = n.size - (k + 1) := by rw [hm]; show (n.data.toList.drop (k + 1)).toArray.size = _; rw [List.size_toArray, List.length_drop, hl]
        have hmd : m.data.toList = n.data.toList.drop (k + 1) := by rw [hm, ba_toList]
        rw [← hm, ← hu] at hF
        rw [← hmd, ← hu] at hst
        have HF := Lib.hid hF
        have HST2 := Lib.hid hst
        have HO := Lib.hid hown
        have HM := Lib.hid hms
        have hlt := hC.size
        clear hst hF hL hroot hb hown e1 e2 hm hu hmd hms hk hl HST
        go_wp2_with fail
        refine (HF.out wr).mono ?_
        rintro r w1 ⟨rfl, hC1⟩
        have hD1 := hC.trans hC1
        have HO1 := Lib.hid ((hC1.own HO.out (fun _ _ h => h)))
        have HO2 := Lib.hid ((HO1.out.alloc (.cells #[.string (ba u)] 9)))
        have hD2 := hD1.alloc (.cells #[.string (ba u)] 9)
        have hs1 := hD1.size
        have hcell : (w1.alloc (.cells #[.string (ba u)] 9)).cell? ⟨w1.heap.size, 0, none⟩ = some (.string (ba u)) := cell_blk (alloc_new w1 (.cells #[.string (ba u)] 9)) 0
        have HCELL := Lib.hid hcell
        clear hcell hC hC1 hD1 HO HO1 HF
        go_wp2_with (at_builtin; refine app_str _ rfl _ _ rfl w.heap.size _ (t.map ba) (by simp [Act.eval]) HO2.out w1.heap.size 1 (ba u) rfl HCELL.out (by rw [List.length_map]; omega) (by rw [World.size_alloc]; omega) ?_; intro a3 c3 w3 hown3 hC3)
        have hmt : t.map ba ++ [ba u] = (t ++ [u]).map ba := by simp
        have hmt2 : (t.map ba ++ [ba u]).length = (t ++ [u]).length := by simp
        have hms := HM.out
        have h3 : w3.ownsRow w.heap.size 9 1 (.slice a3 (t ++ [u]).length c3) ((t ++ [u]).map ba).length (strsV ((t ++ [u]).map ba)) := by
          rw [← hmt, ← hmt2]
          exact hown3
        refine ⟨⟨m, t ++ [u], f, a3, c3, by rw [List.length_append]; simp only [List.length_singleton]; omega, by omega, rfl, by simp, HST2.out, h3, hD2.trans' hC3 (fun j hj => .inr hj)⟩, ?_⟩
        show m.size < n.size
        omega

theorem may_any (w : World) (s : ByteArray) (hs : s.size ≤ 9223372036854775807) :
    Calls Tryd.prog 22 #[.string s] w fun e w' => e = .returned (.bool (mayB s.data.toList)) ∧ Chg Nob w w' := by
  have HS := Lib.hid (split_any w s hs)
  go_enter Tryd.func22, Tryd.ntmps22
  go_wp2_with fail
  refine HS.out.mono ?_
  rintro r w1 (⟨t, v, hl, rfl, hown, _, hC⟩ | ⟨hl, rfl, hC⟩)
  · obtain ⟨a, c, rfl, _⟩ := own_form hown
    have hm : mayB s.data.toList = true := by unfold mayB; rw [hl]; rfl
    have HM := Lib.hid hm
    clear hown hl hm
    go_wp2_with fail
    go_ret
    exact ⟨by rw [HM.out]; rfl, hC⟩
  · have hm : mayB s.data.toList = false := by unfold mayB; rw [hl]; rfl
    have HM := Lib.hid hm
    clear hl hm
    go_wp2_with fail
    go_ret
    exact ⟨by rw [HM.out]; rfl, hC⟩
end Go.Proofs.YtngmdefhdknggaaDoor.Nm
