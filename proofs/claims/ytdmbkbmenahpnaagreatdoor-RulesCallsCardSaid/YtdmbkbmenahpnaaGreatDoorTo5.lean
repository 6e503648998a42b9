/- Each entry of the table is the program's function. -/
import Derived.Test.YtdmbkbmenahpnaaGreatDoorTb5
import Derived.Test.YtdmbkbmenahpnaaGreatDoorVv
import Derived.KernelRfl
import Derived.Test.YtdmbkbmenahpnaaGreatDoorProg
set_option maxRecDepth 100000
namespace Go.Proofs.YtdmbkbmenahpnaaGreatDoor
open Ev Ev.R5
def Good (p : Nat × IFn) : Prop := ∃ fn, Tryz.prog.funcs[p.1]? = some fn ∧ cFn Tryz.prog fn = some p.2 ∧ (fn.name == "runtime.NumGoroutine") = false
theorem ok4 : Good (4, i4) := ⟨Tryz.f4, Tryz.func4, by kernel_rfl, by kernel_rfl⟩
theorem ok5 : Good (5, i5) := ⟨Tryz.f5, Tryz.func5, by kernel_rfl, by kernel_rfl⟩
theorem ok6 : Good (6, i6) := ⟨Tryz.f6, Tryz.func6, by kernel_rfl, by kernel_rfl⟩
theorem ok9 : Good (9, i9) := ⟨Tryz.f9, Tryz.func9, by kernel_rfl, by kernel_rfl⟩
theorem ok10 : Good (10, i10) := ⟨Tryz.f10, Tryz.func10, by kernel_rfl, by kernel_rfl⟩
theorem ok12 : Good (12, i12) := ⟨Tryz.f12, Tryz.func12, by kernel_rfl, by kernel_rfl⟩
theorem ok16 : Good (16, i16) := ⟨Tryz.f16, Tryz.func16, by kernel_rfl, by kernel_rfl⟩
theorem ok23 : Good (23, i23) := ⟨Tryz.f23, Tryz.func23, by kernel_rfl, by kernel_rfl⟩
theorem ok24 : Good (24, i24) := ⟨Tryz.f24, Tryz.func24, by kernel_rfl, by kernel_rfl⟩
theorem ok25 : Good (25, i25) := ⟨Tryz.f25, Tryz.func25, by kernel_rfl, by kernel_rfl⟩
theorem ok32 : Good (32, i32) := ⟨Tryz.f32, Tryz.func32, by kernel_rfl, by kernel_rfl⟩
theorem ok33 : Good (33, i33) := ⟨Tryz.f33, Tryz.func33, by kernel_rfl, by kernel_rfl⟩
theorem ok34 : Good (34, i34) := ⟨Tryz.f34, Tryz.func34, by kernel_rfl, by kernel_rfl⟩
theorem ok37 : Good (37, i37) := ⟨Tryz.f37, Tryz.func37, by kernel_rfl, by kernel_rfl⟩
theorem ok38 : Good (38, i38) := ⟨Tryz.f38, Tryz.func38, by kernel_rfl, by kernel_rfl⟩
theorem ok50 : Good (50, i50) := ⟨Tryz.f50, Tryz.func50, by kernel_rfl, by kernel_rfl⟩
theorem ok51 : Good (51, i51) := ⟨Tryz.f51, Tryz.func51, by kernel_rfl, by kernel_rfl⟩
theorem ok52 : Good (52, i52) := ⟨Tryz.f52, Tryz.func52, by kernel_rfl, by kernel_rfl⟩
theorem ok53 : Good (53, i53) := ⟨Tryz.f53, Tryz.func53, by kernel_rfl, by kernel_rfl⟩
theorem ok54 : Good (54, i54) := ⟨Tryz.f54, Tryz.func54, by kernel_rfl, by kernel_rfl⟩
theorem ok55 : Good (55, i55) := ⟨Tryz.f55, Tryz.func55, by kernel_rfl, by kernel_rfl⟩
theorem ok56 : Good (56, i56) := ⟨Tryz.f56, Tryz.func56, by kernel_rfl, by kernel_rfl⟩
theorem ok57 : Good (57, i57) := ⟨Tryz.f57, Tryz.func57, by kernel_rfl, by kernel_rfl⟩
theorem ok58 : Good (58, i58) := ⟨Tryz.f58, Tryz.func58, by kernel_rfl, by kernel_rfl⟩
theorem ok66 : Good (66, i66) := ⟨Tryz.f66, Tryz.func66, by kernel_rfl, by kernel_rfl⟩
theorem ok67 : Good (67, i67) := ⟨Tryz.f67, Tryz.func67, by kernel_rfl, by kernel_rfl⟩
theorem ok68 : Good (68, i68) := ⟨Tryz.f68, Tryz.func68, by kernel_rfl, by kernel_rfl⟩
theorem ok69 : Good (69, i69) := ⟨Tryz.f69, Tryz.func69, by kernel_rfl, by kernel_rfl⟩
theorem ok70 : Good (70, i70) := ⟨Tryz.f70, Tryz.func70, by kernel_rfl, by kernel_rfl⟩
theorem ok71 : Good (71, i71) := ⟨Tryz.f71, Tryz.func71, by kernel_rfl, by kernel_rfl⟩
theorem ok72 : Good (72, i72) := ⟨Tryz.f72, Tryz.func72, by kernel_rfl, by kernel_rfl⟩
theorem ok73 : Good (73, i73) := ⟨Tryz.f73, Tryz.func73, by kernel_rfl, by kernel_rfl⟩
theorem ok74 : Good (74, i74) := ⟨Tryz.f74, Tryz.func74, by kernel_rfl, by kernel_rfl⟩
theorem ok76 : Good (76, i76) := ⟨Tryz.f76, Tryz.func76, by kernel_rfl, by kernel_rfl⟩
theorem ok82 : Good (82, i82) := ⟨Tryz.f82, Tryz.func82, by kernel_rfl, by kernel_rfl⟩
theorem ok84 : Good (84, i84) := ⟨Tryz.f84, Tryz.func84, by kernel_rfl, by kernel_rfl⟩
theorem ok90 : Good (90, i90) := ⟨Tryz.f90, Tryz.func90, by kernel_rfl, by kernel_rfl⟩
theorem ok91 : Good (91, i91) := ⟨Tryz.f91, Tryz.func91, by kernel_rfl, by kernel_rfl⟩
theorem ok92 : Good (92, i92) := ⟨Tryz.f92, Tryz.func92, by kernel_rfl, by kernel_rfl⟩
theorem ok93 : Good (93, i93) := ⟨Tryz.f93, Tryz.func93, by kernel_rfl, by kernel_rfl⟩
theorem ok94 : Good (94, i94) := ⟨Tryz.f94, Tryz.func94, by kernel_rfl, by kernel_rfl⟩
theorem ok95 : Good (95, i95) := ⟨Tryz.f95, Tryz.func95, by kernel_rfl, by kernel_rfl⟩
theorem ok96 : Good (96, i96) := ⟨Tryz.f96, Tryz.func96, by kernel_rfl, by kernel_rfl⟩
theorem ok97 : Good (97, i97) := ⟨Tryz.f97, Tryz.func97, by kernel_rfl, by kernel_rfl⟩
theorem ok98 : Good (98, i98) := ⟨Tryz.f98, Tryz.func98, by kernel_rfl, by kernel_rfl⟩
theorem ok99 : Good (99, i99) := ⟨Tryz.f99, Tryz.func99, by kernel_rfl, by kernel_rfl⟩
theorem ok100 : Good (100, i100) := ⟨Tryz.f100, Tryz.func100, by kernel_rfl, by kernel_rfl⟩
theorem ok101 : Good (101, i101) := ⟨Tryz.f101, Tryz.func101, by kernel_rfl, by kernel_rfl⟩
theorem ok102 : Good (102, i102) := ⟨Tryz.f102, Tryz.func102, by kernel_rfl, by kernel_rfl⟩
theorem ok104 : Good (104, i104) := ⟨Tryz.f104, Tryz.func104, by kernel_rfl, by kernel_rfl⟩
theorem ok105 : Good (105, i105) := ⟨Tryz.f105, Tryz.func105, by kernel_rfl, by kernel_rfl⟩
theorem ok106 : Good (106, i106) := ⟨Tryz.f106, Tryz.func106, by kernel_rfl, by kernel_rfl⟩
theorem ok107 : Good (107, i107) := ⟨Tryz.f107, Tryz.func107, by kernel_rfl, by kernel_rfl⟩
theorem ok109 : Good (109, i109) := ⟨Tryz.f109, Tryz.func109, by kernel_rfl, by kernel_rfl⟩
theorem ok120 : Good (120, i120) := ⟨Tryz.f120, Tryz.func120, by kernel_rfl, by kernel_rfl⟩
theorem ok121 : Good (121, i121) := ⟨Tryz.f121, Tryz.func121, by kernel_rfl, by kernel_rfl⟩
theorem ok122 : Good (122, i122) := ⟨Tryz.f122, Tryz.func122, by kernel_rfl, by kernel_rfl⟩
theorem ok123 : Good (123, i123) := ⟨Tryz.f123, Tryz.func123, by kernel_rfl, by kernel_rfl⟩
theorem ok124 : Good (124, i124) := ⟨Tryz.f124, Tryz.func124, by kernel_rfl, by kernel_rfl⟩
theorem ok129 : Good (129, i129) := ⟨Tryz.f129, Tryz.func129, by kernel_rfl, by kernel_rfl⟩
theorem ok130 : Good (130, i130) := ⟨Tryz.f130, Tryz.func130, by kernel_rfl, by kernel_rfl⟩
theorem ok132 : Good (132, i132) := ⟨Tryz.f132, Tryz.func132, by kernel_rfl, by kernel_rfl⟩
theorem ok133 : Good (133, i133) := ⟨Tryz.f133, Tryz.func133, by kernel_rfl, by kernel_rfl⟩
theorem ok134 : Good (134, i134) := ⟨Tryz.f134, Tryz.func134, by kernel_rfl, by kernel_rfl⟩
theorem ok135 : Good (135, i135) := ⟨Tryz.f135, Tryz.func135, by kernel_rfl, by kernel_rfl⟩
theorem ok136 : Good (136, i136) := ⟨Tryz.f136, Tryz.func136, by kernel_rfl, by kernel_rfl⟩
theorem ok142 : Good (142, i142) := ⟨Tryz.f142, Tryz.func142, by kernel_rfl, by kernel_rfl⟩
theorem ok143 : Good (143, i143) := ⟨Tryz.f143, Tryz.func143, by kernel_rfl, by kernel_rfl⟩
theorem ok144 : Good (144, i144) := ⟨Tryz.f144, Tryz.func144, by kernel_rfl, by kernel_rfl⟩
theorem ok145 : Good (145, i145) := ⟨Tryz.f145, Tryz.func145, by kernel_rfl, by kernel_rfl⟩
theorem ok146 : Good (146, i146) := ⟨Tryz.f146, Tryz.func146, by kernel_rfl, by kernel_rfl⟩
theorem ok147 : Good (147, i147) := ⟨Tryz.f147, Tryz.func147, by kernel_rfl, by kernel_rfl⟩
theorem ok152 : Good (152, i152) := ⟨Tryz.f152, Tryz.func152, by kernel_rfl, by kernel_rfl⟩
theorem ok153 : Good (153, i153) := ⟨Tryz.f153, Tryz.func153, by kernel_rfl, by kernel_rfl⟩
theorem ok154 : Good (154, i154) := ⟨Tryz.f154, Tryz.func154, by kernel_rfl, by kernel_rfl⟩
theorem ok155 : Good (155, i155) := ⟨Tryz.f155, Tryz.func155, by kernel_rfl, by kernel_rfl⟩
theorem ok156 : Good (156, i156) := ⟨Tryz.f156, Tryz.func156, by kernel_rfl, by kernel_rfl⟩
theorem ok157 : Good (157, i157) := ⟨Tryz.f157, Tryz.func157, by kernel_rfl, by kernel_rfl⟩
theorem ok158 : Good (158, i158) := ⟨Tryz.f158, Tryz.func158, by kernel_rfl, by kernel_rfl⟩
theorem ok159 : Good (159, i159) := ⟨Tryz.f159, Tryz.func159, by kernel_rfl, by kernel_rfl⟩
theorem ok160 : Good (160, i160) := ⟨Tryz.f160, Tryz.func160, by kernel_rfl, by kernel_rfl⟩
theorem ok162 : Good (162, i162) := ⟨Tryz.f162, Tryz.func162, by kernel_rfl, by kernel_rfl⟩
theorem ok163 : Good (163, i163) := ⟨Tryz.f163, Tryz.func163, by kernel_rfl, by kernel_rfl⟩
theorem ok164 : Good (164, i164) := ⟨Tryz.f164, Tryz.func164, by kernel_rfl, by kernel_rfl⟩
theorem ok165 : Good (165, i165) := ⟨Tryz.f165, Tryz.func165, by kernel_rfl, by kernel_rfl⟩
theorem ok166 : Good (166, i166) := ⟨Tryz.f166, Tryz.func166, by kernel_rfl, by kernel_rfl⟩
theorem ok167 : Good (167, i167) := ⟨Tryz.f167, Tryz.func167, by kernel_rfl, by kernel_rfl⟩
theorem ok168 : Good (168, i168) := ⟨Tryz.f168, Tryz.func168, by kernel_rfl, by kernel_rfl⟩
theorem ok169 : Good (169, i169) := ⟨Tryz.f169, Tryz.func169, by kernel_rfl, by kernel_rfl⟩
theorem rows_ok : ∀ p ∈ rows, Good p := by
  intro p hp
  simp only [rows, List.mem_cons, List.not_mem_nil, or_false] at hp
  rcases hp with rfl | rfl | rfl | rfl | rfl | rfl | rfl | rfl | rfl | rfl | rfl | rfl | rfl | rfl | rfl | rfl | rfl | rfl | rfl | rfl | rfl | rfl | rfl | rfl | rfl | rfl | rfl | rfl | rfl | rfl | rfl | rfl | rfl | rfl | rfl | rfl | rfl | rfl | rfl | rfl | rfl | rfl | rfl | rfl | rfl | rfl | rfl | rfl | rfl | rfl | rfl | rfl | rfl | rfl | rfl | rfl | rfl | rfl | rfl | rfl | rfl | rfl | rfl | rfl | rfl | rfl | rfl | rfl | rfl | rfl | rfl | rfl | rfl | rfl | rfl | rfl | rfl | rfl | rfl | rfl | rfl | rfl | rfl | rfl | rfl | rfl | rfl | rfl | rfl
  · exact ok4
  · exact ok5
  · exact ok6
  · exact ok9
  · exact ok10
  · exact ok12
  · exact ok16
  · exact ok23
  · exact ok24
  · exact ok25
  · exact ok32
  · exact ok33
  · exact ok34
  · exact ok37
  · exact ok38
  · exact ok50
  · exact ok51
  · exact ok52
  · exact ok53
  · exact ok54
  · exact ok55
  · exact ok56
  · exact ok57
  · exact ok58
  · exact ok66
  · exact ok67
  · exact ok68
  · exact ok69
  · exact ok70
  · exact ok71
  · exact ok72
  · exact ok73
  · exact ok74
  · exact ok76
  · exact ok82
  · exact ok84
  · exact ok90
  · exact ok91
  · exact ok92
  · exact ok93
  · exact ok94
  · exact ok95
  · exact ok96
  · exact ok97
  · exact ok98
  · exact ok99
  · exact ok100
  · exact ok101
  · exact ok102
  · exact ok104
  · exact ok105
  · exact ok106
  · exact ok107
  · exact ok109
  · exact ok120
  · exact ok121
  · exact ok122
  · exact ok123
  · exact ok124
  · exact ok129
  · exact ok130
  · exact ok132
  · exact ok133
  · exact ok134
  · exact ok135
  · exact ok136
  · exact ok142
  · exact ok143
  · exact ok144
  · exact ok145
  · exact ok146
  · exact ok147
  · exact ok152
  · exact ok153
  · exact ok154
  · exact ok155
  · exact ok156
  · exact ok157
  · exact ok158
  · exact ok159
  · exact ok160
  · exact ok162
  · exact ok163
  · exact ok164
  · exact ok165
  · exact ok166
  · exact ok167
  · exact ok168
  · exact ok169

/-- A trie of rows. -/
noncomputable def trie (l : List (Nat × IFn)) : PT IFn := @List.rec (Nat × IFn) (fun _ => PT IFn) .leaf (fun p _ ih => ih.fset p.2 (posN p.1)) l
theorem trie_mem : ∀ {l : List (Nat × IFn)} {k : Nat} {i : IFn}, (trie l).get (posN k) = some i → (k, i) ∈ l
  | [], k, i, h => by
    have h' : (PT.leaf : PT IFn).get (posN k) = some i := h
    cases hp : posN k <;> rw [hp] at h' <;> cases h'
  | p :: l, k, i, h => by
    have h' : ((trie l).fset p.2 (posN p.1)).get (posN k) = some i := h
    rw [fset_get] at h'
    split at h'
    · rename_i he
      injection h' with h'
      rw [posN_inj] at he
      obtain ⟨a, b⟩ := p
      simp only at he h'
      subst he; subst h'
      exact List.mem_cons_self ..
    · exact List.mem_cons_of_mem _ (trie_mem h')
noncomputable def tab : PT IFn := trie rows
noncomputable def fns (k : Nat) : Option IFn := tab.fget (posN k)
theorem fns_ok : FnsOk Tryz.prog fns := by
  intro f i h
  unfold fns at h
  rw [fget_eq] at h
  exact rows_ok _ (trie_mem h)
end Go.Proofs.YtdmbkbmenahpnaaGreatDoor
