/- The functions that the call meets. No conditions. -/
import Derived.Test.YtdgfcgadefodfaaGreatDoorCca
import Derived.Test.YtdgfcgadefodfaaGreatDoorCcb
import Derived.Test.YtdgfcgadefodfaaGreatDoorCcc
import Derived.Test.YtdgfcgadefodfaaGreatDoorCcd
import Derived.Test.YtdgfcgadefodfaaGreatDoorProg
import Derived.KernelRfl
set_option linter.unusedVariables false
namespace Go.Proofs.YtdgfcgadefodfaaGreatDoor.Calc
open Go Go.Proofs.YtdgfcgadefodfaaGreatDoor Go.Proofs.YtdgfcgadefodfaaGreatDoor.Em

def tabF : List (Nat × FC) := [(3, F3), (4, F4), (5, F5), (6, F6), (7, F7), (8, F8), (9, F9), (10, F10), (11, F11), (12, F12), (13, F13), (14, F14), (15, F15), (39, F39), (40, F40), (41, F41), (42, F42), (43, F43), (44, F44), (45, F45), (46, F46), (47, F47), (48, F48), (49, F49), (51, F51), (61, F61), (62, F62), (63, F63), (64, F64), (65, F65), (66, F66), (67, F67), (68, F68), (69, F69), (70, F70), (72, F72), (76, F76), (79, F79), (82, F82), (84, F84), (85, F85), (89, F89), (90, F90), (92, F92), (93, F93), (94, F94), (95, F95), (96, F96), (97, F97), (99, F99), (102, F102), (103, F103), (105, F105), (107, F107), (108, F108), (109, F109), (110, F110), (111, F111), (112, F112), (113, F113), (114, F114), (117, F117), (124, F124), (125, F125), (126, F126), (127, F127), (128, F128), (130, F130), (131, F131), (132, F132), (133, F133), (134, F134), (137, F137), (139, F139), (140, F140), (141, F141), (142, F142), (144, F144), (146, F146), (148, F148), (149, F149), (150, F150), (151, F151), (154, F154), (155, F155), (164, F164), (165, F165), (166, F166), (167, F167), (168, F168), (169, F169), (172, F172), (174, F174), (175, F175), (176, F176), (177, F177), (182, F182), (186, F186), (188, F188), (189, F189), (191, F191), (193, F193), (194, F194), (195, F195), (197, F197), (200, F200), (207, F207), (208, F208), (209, F209), (210, F210), (211, F211), (245, F245), (246, F246), (247, F247), (248, F248), (254, F254), (288, F288), (304, F304), (305, F305), (306, F306), (308, F308), (313, F313), (314, F314), (315, F315), (316, F316), (323, F323), (326, F326)]
theorem tabF_ok : tabOK (compF Tryz.prog) tabF := ⟨F3_ok, F4_ok, F5_ok, F6_ok, F7_ok, F8_ok, F9_ok, F10_ok, F11_ok, F12_ok, F13_ok, F14_ok, F15_ok, F39_ok, F40_ok, F41_ok, F42_ok, F43_ok, F44_ok, F45_ok, F46_ok, F47_ok, F48_ok, F49_ok, F51_ok, F61_ok, F62_ok, F63_ok, F64_ok, F65_ok, F66_ok, F67_ok, F68_ok, F69_ok, F70_ok, F72_ok, F76_ok, F79_ok, F82_ok, F84_ok, F85_ok, F89_ok, F90_ok, F92_ok, F93_ok, F94_ok, F95_ok, F96_ok, F97_ok, F99_ok, F102_ok, F103_ok, F105_ok, F107_ok, F108_ok, F109_ok, F110_ok, F111_ok, F112_ok, F113_ok, F114_ok, F117_ok, F124_ok, F125_ok, F126_ok, F127_ok, F128_ok, F130_ok, F131_ok, F132_ok, F133_ok, F134_ok, F137_ok, F139_ok, F140_ok, F141_ok, F142_ok, F144_ok, F146_ok, F148_ok, F149_ok, F150_ok, F151_ok, F154_ok, F155_ok, F164_ok, F165_ok, F166_ok, F167_ok, F168_ok, F169_ok, F172_ok, F174_ok, F175_ok, F176_ok, F177_ok, F182_ok, F186_ok, F188_ok, F189_ok, F191_ok, F193_ok, F194_ok, F195_ok, F197_ok, F200_ok, F207_ok, F208_ok, F209_ok, F210_ok, F211_ok, F245_ok, F246_ok, F247_ok, F248_ok, F254_ok, F288_ok, F304_ok, F305_ok, F306_ok, F308_ok, F313_ok, F314_ok, F315_ok, F316_ok, F323_ok, F326_ok, trivial⟩
def tabD : List (Nat × DF) := [(71, D71), (98, D98)]
theorem tabD_ok : tabOK (compDF Tryz.prog) tabD := ⟨D71_ok, D98_ok, trivial⟩
def tabR : List (Nat × RF) := [(100, R100), (138, R138)]
theorem tabR_ok : tabOK (compRF Tryz.prog) tabR := ⟨R100_ok, R138_ok, trivial⟩
def tab : Tab := ⟨findF tabF, findF tabD, findF tabR⟩
theorem tab_ok : tab.OK Tryz.prog := ⟨findF_ok tabF_ok, findF_ok tabD_ok, findF_ok tabR_ok⟩

end Go.Proofs.YtdgfcgadefodfaaGreatDoor.Calc
